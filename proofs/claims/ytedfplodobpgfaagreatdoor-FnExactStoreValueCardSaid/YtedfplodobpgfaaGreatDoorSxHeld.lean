/-
  A part of the abstract machine over the model's Code, or of the proof that what it shows holds of the model; no program is in sight, and nothing is assumed.
-/
import Derived.Test.YtedfplodobpgfaaGreatDoorSxTabV
/-! Heaps of counted tables in plain Lean: what is held, what blocks weigh, which heaps are right. -/
namespace Go.Sx
open Go
def bk0 : Bk := ⟨0, ⟨false, [], [], 0, 0⟩⟩
def blk (l : List Bk) (i : Nat) : Bk := l.getD i bk0
theorem blk_get {l : List Bk} {i : Nat} {b : Bk} (h : l[i]? = some b) : blk l i = b := by
  unfold blk
  rw [List.getD_eq_getElem?_getD, h]
  rfl
theorem blk_at {l : List Bk} {i : Nat} (h : i < l.length) : l[i]? = some (blk l i) := by
  unfold blk
  rw [List.getD_eq_getElem?_getD, List.getElem?_eq_getElem h]
  rfl
/-- a handle that is held -/
def hHeld (l : List Bk) (v : V) : Bool := decide (v.str = ⟨#[]⟩) && (decide (v.next = 0) && (decide (v.items.length = 0) && (decide (0 ≤ v.num ∧ v.num ≤ (l.length : Int) - 1) && decide (0 < (blk l v.num.toNat).count))))
def isHeld (l : List Bk) (v : V) : Bool := if v.kind = 5 then hHeld l v else !decide (v.kind = 4) && v.wf
theorem held_num {l : List Bk} {v : V} (h : isHeld l v = true) (k : v.kind = 5) : 0 ≤ v.num ∧ v.num.toNat < l.length ∧ 0 < (blk l v.num.toNat).count := by
  unfold isHeld hHeld at h
  rw [if_pos k] at h
  simp only [Bool.and_eq_true, decide_eq_true_eq] at h
  omega
theorem held_form {l : List Bk} {v : V} (h : isHeld l v = true) (k : v.kind = 5) : v = ⟨5, v.num, ⟨#[]⟩, 0, []⟩ := by
  unfold isHeld hHeld at h
  rw [if_pos k] at h
  simp only [Bool.and_eq_true, decide_eq_true_eq] at h
  obtain ⟨h1, h2, h3, _⟩ := h
  rw [← V.eta v, k, h1, h2, List.eq_nil_of_length_eq_zero h3]
  rfl
theorem held_other {l : List Bk} {v : V} (h : isHeld l v = true) (k : ¬ v.kind = 5) : ¬ v.kind = 4 ∧ v.wf = true := by
  unfold isHeld at h
  rw [if_neg k] at h
  simpa using h
theorem wf_items {v : V} (h : v.wf = true) (k : ¬ v.kind = 4) : v.items = [] := by
  rw [V.wf_eq] at h
  unfold wf0 at h
  simp only [Bool.and_eq_true] at h
  have h1 := h.1.2
  simp [k] at h1
  exact h1.2
theorem wf_str {v : V} (h : v.wf = true) : v.str.size ≤ 400 := by
  rw [V.wf_eq] at h
  unfold wf0 at h
  simp only [Bool.and_eq_true] at h
  obtain ⟨⟨h1, _⟩, h2⟩ := h
  by_cases k : v.kind = 3
  · simp [k] at h2
    exact h2.2
  · simp [k] at h1
    rw [h1]
    exact Nat.zero_le _
/-- A held value has no items; its text is short. -/
theorem held_items {l : List Bk} {v : V} (h : isHeld l v = true) : v.items = [] ∧ v.str.size ≤ 400 := by
  by_cases k : v.kind = 5
  · have e := held_form h k
    rw [e]
    exact ⟨rfl, Nat.zero_le _⟩
  · obtain ⟨h1, h2⟩ := held_other h k
    exact ⟨wf_items h2 h1, wf_str h2⟩
theorem V.valid_wf {v : V} (k : ¬ v.kind = 4) : v.valid = v.wf := by
  unfold V.valid
  rw [V.weight_eq, if_neg k]
  rfl
/-! weights -/
/-- what the live ones of some slots weigh, the blocks' weights given -/
def sumW (g : Nat → Option Nat) : List Sl → Option Nat
  | [] => some 0
  | s :: r => if s.live then (match (if s.val.kind = 5 then g s.val.num.toNat else some 1), sumW g r with
    | some a, some b => some (a + b)
    | _, _ => none) else sumW g r
def wtF (l : List Bk) : Nat → Nat → Option Nat
  | 0, _ => none
  | f + 1, i => (sumW (wtF l f) (blk l i).tab.slots).map (· + 1)
/-- a block's weight -/
def Wt (l : List Bk) (i n : Nat) : Prop := ∃ f, wtF l f i = some n
def SumR (l : List Bk) (ss : List Sl) (n : Nat) : Prop := ∃ f, sumW (wtF l f) ss = some n
theorem sumW_mono {g g' : Nat → Option Nat} (h : ∀ i n, g i = some n → g' i = some n) : ∀ (ss : List Sl) (n : Nat), sumW g ss = some n → sumW g' ss = some n
  | [], n, k => k
  | s :: r, n, k => by
    rw [sumW] at k ⊢
    cases hl : s.live with
    | false =>
      rw [hl] at k
      simp only [Bool.false_eq_true, if_false] at k ⊢
      exact sumW_mono h r n k
    | true =>
      rw [hl] at k
      simp only [if_true] at k ⊢
      cases h1 : (if s.val.kind = 5 then g s.val.num.toNat else some 1) with
      | none => rw [h1] at k; cases k
      | some a =>
        cases h2 : sumW g r with
        | none => rw [h1, h2] at k; cases k
        | some b =>
          rw [h1, h2] at k
          have e1 : (if s.val.kind = 5 then g' s.val.num.toNat else some 1) = some a := by
            split at h1
            · rename_i hk; rw [if_pos hk]; exact h _ _ h1
            · rename_i hk; rw [if_neg hk]; exact h1
          rw [e1, sumW_mono h r b h2]
          exact k
theorem wtF_mono (l : List Bk) : ∀ (f i n : Nat), wtF l f i = some n → wtF l (f + 1) i = some n
  | 0, i, n, h => by cases h
  | f + 1, i, n, h => by
    rw [wtF] at h ⊢
    simp only [Option.map_eq_some_iff] at h ⊢
    obtain ⟨a, h1, h2⟩ := h
    exact ⟨a, sumW_mono (wtF_mono l f) _ _ h1, h2⟩
theorem wtF_le {l : List Bk} {i n : Nat} : ∀ {g f : Nat}, wtF l f i = some n → f ≤ g → wtF l g i = some n
  | 0, f, h, hf => by
    have : f = 0 := by omega
    subst this
    cases h
  | g + 1, f, h, hf => by
    by_cases he : f = g + 1
    · subst he; exact h
    · exact wtF_mono l g i n (wtF_le h (by omega))
theorem sumW_le {l : List Bk} {ss : List Sl} {n f g : Nat} (h : sumW (wtF l f) ss = some n) (hf : f ≤ g) : sumW (wtF l g) ss = some n :=
  sumW_mono (fun _ _ k => wtF_le k hf) _ _ h
theorem Wt.uniq {l : List Bk} {i n m : Nat} (h : Wt l i n) (k : Wt l i m) : n = m := by
  obtain ⟨f, h⟩ := h
  obtain ⟨g, k⟩ := k
  have h1 := wtF_le (g := max f g) h (by omega)
  have h2 := wtF_le (g := max f g) k (by omega)
  rw [h1] at h2
  exact Option.some.inj h2
theorem SumR.uniq {l : List Bk} {ss : List Sl} {n m : Nat} (h : SumR l ss n) (k : SumR l ss m) : n = m := by
  obtain ⟨f, h⟩ := h
  obtain ⟨g, k⟩ := k
  have h1 := sumW_le (g := max f g) h (by omega)
  have h2 := sumW_le (g := max f g) k (by omega)
  rw [h1] at h2
  exact Option.some.inj h2
theorem Wt.iff {l : List Bk} {i n : Nat} : Wt l i n ↔ ∃ m, SumR l (blk l i).tab.slots m ∧ n = m + 1 := by
  constructor
  · rintro ⟨f, h⟩
    cases f with
    | zero => cases h
    | succ f =>
      rw [wtF] at h
      simp only [Option.map_eq_some_iff] at h
      obtain ⟨m, h1, h2⟩ := h
      exact ⟨m, ⟨f, h1⟩, h2.symm⟩
  · rintro ⟨m, ⟨f, h⟩, rfl⟩
    refine ⟨f + 1, ?_⟩
    rw [wtF, h]
    rfl
theorem SumR.nil (l : List Bk) : SumR l [] 0 := ⟨0, rfl⟩
theorem sumW_append (g : Nat → Option Nat) : ∀ (p q : List Sl) (n : Nat), sumW g (p ++ q) = some n ↔ ∃ a b, sumW g p = some a ∧ sumW g q = some b ∧ n = a + b
  | [], q, n => by
    simp only [List.nil_append, sumW]
    constructor
    · intro h; exact ⟨0, n, rfl, h, by omega⟩
    · rintro ⟨a, b, h1, h2, rfl⟩
      cases h1
      rw [h2, Nat.zero_add]
  | s :: r, q, n => by
    rw [List.cons_append, sumW, sumW]
    cases hl : s.live with
    | false =>
      simp only [Bool.false_eq_true, if_false]
      exact sumW_append g r q n
    | true =>
      simp only [if_true]
      cases h1 : (if s.val.kind = 5 then g s.val.num.toNat else some 1) with
      | none => simp
      | some c =>
        constructor
        · intro h
          cases h2 : sumW g (r ++ q) with
          | none => rw [h2] at h; cases h
          | some e =>
            rw [h2] at h
            obtain ⟨a, b, k1, k2, rfl⟩ := (sumW_append g r q e).1 h2
            refine ⟨c + a, b, by rw [k1], k2, ?_⟩
            have := Option.some.inj h
            omega
        · rintro ⟨a, b, h2, h3, rfl⟩
          cases h4 : sumW g r with
          | none => rw [h4] at h2; cases h2
          | some e =>
            rw [h4] at h2
            rw [(sumW_append g r q (e + b)).2 ⟨e, b, h4, h3, rfl⟩]
            have := Option.some.inj h2
            show some (c + (e + b)) = some (a + b)
            congr 1
            omega
theorem SumR.one {l : List Bk} {s : Sl} {n : Nat} : SumR l [s] n ↔ (s.live = false ∧ n = 0) ∨ (s.live = true ∧ s.val.kind = 5 ∧ Wt l s.val.num.toNat n) ∨ (s.live = true ∧ ¬ s.val.kind = 5 ∧ n = 1) := by
  unfold SumR Wt
  simp only [sumW]
  cases hl : s.live with
  | false =>
    simp only [Bool.false_eq_true, if_false]
    constructor
    · rintro ⟨f, h⟩; exact .inl ⟨trivial, (Option.some.inj h).symm⟩
    · rintro (h | h | h)
      · exact ⟨0, by rw [h.2]⟩
      · exact absurd h.1 (by simp)
      · exact absurd h.1 (by simp)
  | true =>
    simp only [if_true]
    by_cases k : s.val.kind = 5
    · simp only [if_pos k]
      constructor
      · rintro ⟨f, h⟩
        cases h1 : wtF l f s.val.num.toNat with
        | none => rw [h1] at h; cases h
        | some a =>
          rw [h1] at h
          have : a + 0 = n := Option.some.inj h
          exact .inr (.inl ⟨trivial, k, f, by rw [h1, ← this, Nat.add_zero]⟩)
      · rintro (h | ⟨_, _, f, h⟩ | h)
        · exact absurd h.1 (by simp)
        · exact ⟨f, by rw [h]; rfl⟩
        · exact absurd k h.2.1
    · simp only [if_neg k]
      constructor
      · rintro ⟨f, h⟩
        have : 1 + 0 = n := Option.some.inj h
        exact .inr (.inr ⟨trivial, k, this.symm⟩)
      · rintro (h | h | h)
        · exact absurd h.1 (by simp)
        · exact absurd h.2.1 k
        · exact ⟨0, by rw [h.2.2]⟩
theorem SumR.append {l : List Bk} {p q : List Sl} {n : Nat} : SumR l (p ++ q) n ↔ ∃ a b, SumR l p a ∧ SumR l q b ∧ n = a + b := by
  constructor
  · rintro ⟨f, h⟩
    obtain ⟨a, b, h1, h2, h3⟩ := (sumW_append _ _ _ _).1 h
    exact ⟨a, b, ⟨f, h1⟩, ⟨f, h2⟩, h3⟩
  · rintro ⟨a, b, ⟨f, h1⟩, ⟨g, h2⟩, h3⟩
    exact ⟨max f g, (sumW_append _ _ _ _).2 ⟨a, b, sumW_le h1 (by omega), sumW_le h2 (by omega), h3⟩⟩
/-- a slot that counts is part of the sum -/
theorem SumR.part {l : List Bk} {ss : List Sl} {k : Nat} {s : Sl} {n : Nat} (hs : ss[k]? = some s) (h : SumR l ss n) : ∃ a b c, SumR l (ss.take k) a ∧ SumR l [s] b ∧ SumR l (ss.drop (k + 1)) c ∧ n = a + (b + c) := by
  rw [← List.take_append_drop k ss, drop_cons hs] at h
  obtain ⟨a, x, h1, h2, rfl⟩ := SumR.append.1 h
  rw [show s :: ss.drop (k + 1) = [s] ++ ss.drop (k + 1) from rfl] at h2
  obtain ⟨b, c, h3, h4, rfl⟩ := SumR.append.1 h2
  exact ⟨a, b, c, h1, h3, h4, rfl⟩
/-- what a live handle's block weighs is less than what its own block weighs -/
theorem Wt.kid {l : List Bk} {i n k : Nat} {s : Sl} (h : Wt l i n) (hs : (blk l i).tab.slots[k]? = some s) (hl : s.live = true) (hk : s.val.kind = 5) : ∃ m, Wt l s.val.num.toNat m ∧ m < n := by
  obtain ⟨m, h1, rfl⟩ := Wt.iff.1 h
  obtain ⟨a, b, c, _, h3, _, rfl⟩ := h1.part hs
  rcases SumR.one.1 h3 with q | q | q
  · rw [hl] at q; exact absurd q.1 (by simp)
  · exact ⟨b, q.2.2, by omega⟩
  · exact absurd hk q.2.1
/-- enough fuel is a block's own weight -/
theorem wtF_self {l : List Bk} : ∀ (f i n : Nat), wtF l f i = some n → wtF l n i = some n
  | 0, i, n, h => by cases h
  | f + 1, i, n, h => by
    rw [wtF] at h
    simp only [Option.map_eq_some_iff] at h
    obtain ⟨m, h1, rfl⟩ := h
    rw [wtF]
    simp only [Option.map_eq_some_iff]
    exact ⟨m, go f (wtF_self f) _ _ h1 m (Nat.le_refl _), rfl⟩
where go (f : Nat) (ih : ∀ i n, wtF l f i = some n → wtF l n i = some n) : ∀ (ss : List Sl) (n : Nat), sumW (wtF l f) ss = some n → ∀ m, n ≤ m → sumW (wtF l m) ss = some n
  | [], n, h, m, _ => h
  | s :: r, n, h, m, hm => by
    rw [sumW] at h ⊢
    cases hl : s.live with
    | false =>
      rw [hl] at h
      simp only [Bool.false_eq_true, if_false] at h ⊢
      exact go f ih r n h m hm
    | true =>
      rw [hl] at h
      simp only [if_true] at h ⊢
      cases h1 : (if s.val.kind = 5 then wtF l f s.val.num.toNat else some 1) with
      | none => rw [h1] at h; cases h
      | some a =>
        cases h2 : sumW (wtF l f) r with
        | none => rw [h1, h2] at h; cases h
        | some b =>
          rw [h1, h2] at h
          have e : a + b = n := Option.some.inj h
          have e1 : (if s.val.kind = 5 then wtF l m s.val.num.toNat else some 1) = some a := by
            split at h1
            · rename_i hk; rw [if_pos hk]; exact wtF_le (ih _ _ h1) (by omega)
            · rename_i hk; rw [if_neg hk]; exact h1
          rw [e1, go f ih r b h2 m (by omega)]
          exact h
theorem Wt.fuel {l : List Bk} {i n f : Nat} (h : Wt l i n) (hf : n ≤ f) : wtF l f i = some n := by
  obtain ⟨g, h⟩ := h
  exact wtF_le (wtF_self g i n h) hf
/-! the weight as the program reckons it: capped at 201 -/
structure Est (l : List Bk) (i n : Nat) : Prop where
  pos : 1 ≤ n
  cap : n ≤ 201
  is : n ≤ 200 → Wt l i n
  big : n = 201 → ∀ m, Wt l i m → 200 < m
structure EstS (l : List Bk) (ss : List Sl) (n : Nat) : Prop where
  pos : 1 ≤ n
  cap : n ≤ 201
  is : n ≤ 200 → SumR l ss (n - 1)
  big : n = 201 → ∀ m, SumR l ss m → 200 ≤ m
theorem EstS.le {l : List Bk} {ss : List Sl} {n m : Nat} (h : EstS l ss n) (k : SumR l ss m) : n - 1 ≤ m := by
  by_cases hn : n ≤ 200
  · have := (h.is hn).uniq k
    omega
  · have h1 := h.cap
    have := h.big (by omega) m k
    omega
theorem Est.le {l : List Bk} {i n m : Nat} (h : Est l i n) (k : Wt l i m) : n ≤ m := by
  by_cases hn : n ≤ 200
  · have := (h.is hn).uniq k
    omega
  · have h1 := h.cap
    have := h.big (by omega) m k
    omega
theorem EstS.nil (l : List Bk) : EstS l [] 1 := ⟨Nat.le_refl _, by omega, fun _ => SumR.nil l, fun h => by omega⟩
theorem EstS.skip {l : List Bk} {ss : List Sl} {k n : Nat} {s : Sl} (h : EstS l (ss.take k) n) (hs : ss[k]? = some s) (hl : s.live = false) : EstS l (ss.take (k + 1)) n := by
  rw [take_snoc hs]
  refine ⟨h.pos, h.cap, fun hn => ?_, fun hn m hm => ?_⟩
  · exact SumR.append.2 ⟨n - 1, 0, h.is hn, SumR.one.2 (.inl ⟨hl, rfl⟩), rfl⟩
  · obtain ⟨a, b, h1, _, rfl⟩ := SumR.append.1 hm
    have := h.big hn a h1
    omega
theorem EstS.one {l : List Bk} {ss : List Sl} {k n : Nat} {s : Sl} (h : EstS l (ss.take k) n) (hs : ss[k]? = some s) (hl : s.live = true) (hk : ¬ s.val.kind = 5) : EstS l (ss.take (k + 1)) (min (n + 1) 201) := by
  rw [take_snoc hs]
  have hp := h.pos
  refine ⟨by omega, by omega, fun hn => ?_, fun hn m hm => ?_⟩
  · exact SumR.append.2 ⟨n - 1, 1, h.is (by omega), SumR.one.2 (.inr (.inr ⟨hl, hk, rfl⟩)), by omega⟩
  · obtain ⟨a, b, h1, h2, rfl⟩ := SumR.append.1 hm
    have := h.le h1
    rcases SumR.one.1 h2 with q | q | q
    · rw [hl] at q; exact absurd q.1 (by simp)
    · exact absurd q.2.1 hk
    · omega
theorem EstS.kid {l : List Bk} {ss : List Sl} {k n e : Nat} {s : Sl} (h : EstS l (ss.take k) n) (hs : ss[k]? = some s) (hl : s.live = true) (hk : s.val.kind = 5) (he : Est l s.val.num.toNat e) : EstS l (ss.take (k + 1)) (min (n + e) 201) := by
  rw [take_snoc hs]
  have hp := h.pos
  have ep := he.pos
  refine ⟨by omega, by omega, fun hn => ?_, fun hn m hm => ?_⟩
  · exact SumR.append.2 ⟨n - 1, e, h.is (by omega), SumR.one.2 (.inr (.inl ⟨hl, hk, he.is (by omega)⟩)), by omega⟩
  · obtain ⟨a, b, h1, h2, rfl⟩ := SumR.append.1 hm
    have := h.le h1
    rcases SumR.one.1 h2 with q | q | q
    · rw [hl] at q; exact absurd q.1 (by simp)
    · have := he.le q.2.2
      omega
    · exact absurd hk q.2.1
theorem EstS.est {l : List Bk} {i n : Nat} (h : EstS l (blk l i).tab.slots n) : Est l i n := by
  have hp := h.pos
  refine ⟨hp, h.cap, fun hn => Wt.iff.2 ⟨n - 1, h.is hn, by omega⟩, fun hn m hm => ?_⟩
  obtain ⟨a, h1, rfl⟩ := Wt.iff.1 hm
  have := h.big hn a h1
  omega
/-- what is known of the weights that the program has found so far -/
structure wInv (l : List Bk) (ws : List Int) : Prop where
  len : ws.length = l.length
  low : ∀ (j : Nat) (x : Int), ws[j]? = some x → -1 ≤ x
  est : ∀ (j : Nat) (x : Int), ws[j]? = some x → 0 < x → Est l j x.toNat
/-- a block that is being reckoned weighs more than the one that is reached -/
def wPath (l : List Bk) (ws : List Int) (i : Nat) : Prop := ∀ p : Nat, ws[p]? = some (-1) → ∀ m, Wt l p m → ∃ n, Wt l i n ∧ n < m
/-- how the found weights grow -/
structure wGrow (ws us : List Int) : Prop where
  keep : ∀ (j : Nat) (x : Int), ws[j]? = some x → ¬ x = 0 → us[j]? = some x
  new : ∀ j : Nat, ws[j]? = some 0 → ∃ x : Int, 0 ≤ x ∧ us[j]? = some x
theorem wGrow.refl (ws : List Int) : wGrow ws ws := ⟨fun _ _ h _ => h, fun _ h => ⟨0, Int.le_refl _, h⟩⟩
theorem wGrow.trans {ws us vs : List Int} (h : wGrow ws us) (k : wGrow us vs) : wGrow ws vs := by
  refine ⟨fun j x hj hx => k.keep j x (h.keep j x hj hx) hx, fun j hj => ?_⟩
  obtain ⟨x, hx, hu⟩ := h.new j hj
  by_cases h0 : x = 0
  · subst h0
    exact k.new j hu
  · exact ⟨x, hx, k.keep j x hu h0⟩
def zer : List Int → Nat
  | [] => 0
  | x :: r => (if x = 0 then 1 else 0) + zer r
theorem zer_set : ∀ {ws : List Int} {i : Nat} {x : Int}, ws[i]? = some 0 → ¬ x = 0 → zer (ws.set i x) + 1 = zer ws
  | [], i, x, h, _ => by simp at h
  | y :: r, 0, x, h, hx => by
    simp only [List.getElem?_cons_zero, Option.some.injEq] at h
    subst h
    simp only [List.set_cons_zero, zer, if_neg hx, if_true]
    omega
  | y :: r, i + 1, x, h, hx => by
    simp only [List.getElem?_cons_succ] at h
    simp only [List.set_cons_succ, zer]
    have := zer_set h hx
    omega
theorem zer_grow : ∀ {ws us : List Int}, us.length = ws.length → wGrow ws us → zer us ≤ zer ws
  | [], us, hl, _ => by
    have : us = [] := List.eq_nil_of_length_eq_zero hl
    subst this
    exact Nat.le_refl _
  | y :: r, [], hl, _ => by simp at hl
  | y :: r, z :: s, hl, g => by
    have h1 : wGrow r s := ⟨fun j x hj hx => by simpa using g.keep (j + 1) x (by simpa using hj) hx, fun j hj => by simpa using g.new (j + 1) (by simpa using hj)⟩
    have h2 := zer_grow (by simpa using hl) h1
    simp only [zer]
    by_cases hz : z = 0
    · by_cases hy : y = 0
      · rw [if_pos hz, if_pos hy]; omega
      · have := g.keep 0 y rfl hy
        simp only [List.getElem?_cons_zero, Option.some.injEq] at this
        exact absurd (this ▸ hz) hy
    · rw [if_neg hz]; omega
/-- the block reached is marked -/
theorem wInv.mark {l : List Bk} {ws : List Int} (w : wInv l ws) {i : Nat} : wInv l (ws.set i (-1)) := by
  refine ⟨by rw [List.length_set, w.len], fun j x hj => ?_, fun j x hj hx => ?_⟩
  · rw [List.getElem?_set] at hj
    split at hj
    · split at hj
      · cases hj; omega
      · cases hj
    · exact w.low j x hj
  · rw [List.getElem?_set] at hj
    split at hj
    · split at hj
      · cases hj; omega
      · cases hj
    · exact w.est j x hj hx
theorem wPath.kid {l : List Bk} {ws us : List Int} {i k : Nat} {s : Sl} (p : wPath l ws i) (hi : i < ws.length) (_ : ws[i]? = some 0) (g : wGrow (ws.set i (-1)) us) (hs : (blk l i).tab.slots[k]? = some s) (hl : s.live = true) (hk : s.val.kind = 5) (hu : us.length = ws.length) : wPath l us s.val.num.toNat := by
  intro q hq m hm
  have back : (ws.set i (-1))[q]? = some (-1) := by
    have hlt : q < ws.length := by
      have := (List.getElem?_eq_some_iff.1 hq).1
      omega
    obtain ⟨x, hx⟩ : ∃ x, (ws.set i (-1))[q]? = some x := ⟨_, List.getElem?_eq_getElem (by rw [List.length_set]; exact hlt)⟩
    by_cases h0 : x = 0
    · subst h0
      obtain ⟨y, hy, hy2⟩ := g.new q hx
      rw [hq] at hy2
      cases hy2
      omega
    · have := g.keep q x hx h0
      rw [hq] at this
      rw [hx, ← this]
  rw [List.getElem?_set] at back
  split at back
  · rename_i he
    subst he
    exact hm.kid hs hl hk
  · obtain ⟨n, hn, hlt⟩ := p q back m hm
    obtain ⟨n', hn', hlt'⟩ := hn.kid hs hl hk
    exact ⟨n', hn', by omega⟩
/-- the block's weight is put down -/
theorem wInv.done {l : List Bk} {ws : List Int} (w : wInv l ws) {i n : Nat} (e : Est l i n) : wInv l (ws.set i (n : Nat)) := by
  have := e.pos
  refine ⟨by rw [List.length_set, w.len], fun j x hj => ?_, fun j x hj hx => ?_⟩
  · rw [List.getElem?_set] at hj
    split at hj
    · split at hj
      · cases hj; omega
      · cases hj
    · exact w.low j x hj
  · rw [List.getElem?_set] at hj
    split at hj
    · rename_i he
      subst he
      split at hj
      · cases hj; exact e
      · cases hj
    · exact w.est j x hj hx
theorem wGrow.done {ws us : List Int} {i n : Nat} (g : wGrow (ws.set i (-1)) us) (hz : ws[i]? = some 0) (hu : us.length = ws.length) (hn : 1 ≤ n) : wGrow ws (us.set i (n : Nat)) := by
  have hi := (List.getElem?_eq_some_iff.1 hz).1
  refine ⟨fun j x hj hx => ?_, fun j hj => ?_⟩
  · have hne : ¬ i = j := by
      intro he
      subst he
      rw [hz] at hj
      cases hj
      exact hx rfl
    rw [List.getElem?_set, if_neg hne]
    exact g.keep j x (by rw [List.getElem?_set, if_neg hne]; exact hj) hx
  · rw [List.getElem?_set]
    split
    · exact ⟨(n : Nat), by omega, by rw [if_pos (by omega)]⟩
    · rename_i hne
      exact g.new j (by rw [List.getElem?_set, if_neg hne]; exact hj)
/-- a block that is reached while it is being reckoned weighs nothing that is known -/
theorem Est.loop {l : List Bk} {ws : List Int} {i : Nat} (p : wPath l ws i) (h : ws[i]? = some (-1)) : Est l i 201 := by
  refine ⟨by omega, by omega, fun h => by omega, fun _ m hm => ?_⟩
  obtain ⟨n, hn, hlt⟩ := p i h m hm
  have := hn.uniq hm
  omega
/-! which heaps are right -/
def Bk.free (b : Bk) : Bool := !b.tab.hashed && (decide (b.tab.heads.length = 0) && (decide (b.tab.slots.length = 0) && (decide (b.tab.next = 0) && decide (b.tab.count = 0))))
def bkOk (l : List Bk) (b : Bk) : Bool :=
  if b.count = 0 then b.free else decide (1 ≤ b.count ∧ b.count ≤ 1000000000000) && (b.tab.isTab && allIx b.tab.slots.length fun k => at_ b.tab.slots k fun (s : Sl) => !s.live || isHeld l s.val)
/-- no block weighs more than 200 -/
def lightB (l : List Bk) : Bool := allIx l.length fun i => at_ l i fun b => decide (b.count ≤ 0) || (match wtF l 200 i with
  | some n => decide (n ≤ 200)
  | none => false)
def heapB (l : List Bk) : Bool := allIx l.length (fun i => at_ l i (bkOk l)) && lightB l
theorem lightB_iff {l : List Bk} : lightB l = true ↔ ∀ (i : Nat) (b : Bk), l[i]? = some b → 0 < b.count → ∃ n, n ≤ 200 ∧ Wt l i n := by
  unfold lightB
  rw [allIx_iff]
  constructor
  · intro h i b hb hc
    have := at_iff.1 (h i (List.getElem?_eq_some_iff.1 hb).1) b hb
    rw [decide_eq_false (by omega), Bool.false_or] at this
    split at this
    · rename_i n hn
      exact ⟨n, by simpa using this, 200, hn⟩
    · cases this
  · intro h i _
    refine at_iff.2 fun b hb => ?_
    by_cases hc : b.count ≤ 0
    · rw [decide_eq_true hc]; rfl
    · obtain ⟨n, hn, hw⟩ := h i b hb (by omega)
      rw [hw.fuel hn, decide_eq_false hc, Bool.false_or]
      exact decide_eq_true hn
/-- what is known of a right heap -/
structure hOk (l : List Bk) : Prop where
  blk : ∀ (i : Nat) (b : Bk), l[i]? = some b → bkOk l b = true
  light : ∀ (i : Nat) (b : Bk), l[i]? = some b → 0 < b.count → ∃ n, n ≤ 200 ∧ Wt l i n
theorem heapB_iff {l : List Bk} : heapB l = true ↔ hOk l := by
  unfold heapB
  rw [Bool.and_eq_true, allIx_iff, lightB_iff]
  constructor
  · rintro ⟨h1, h2⟩
    exact ⟨fun i b hb => at_iff.1 (h1 i (List.getElem?_eq_some_iff.1 hb).1) b hb, h2⟩
  · intro h
    exact ⟨fun i _ => at_iff.2 fun b hb => h.blk i b hb, h.light⟩
theorem noHeap {l : List Bk} (h : hOk l → False) : heapB l = false := by
  cases hb : heapB l with
  | false => rfl
  | true => exact (h (heapB_iff.1 hb)).elim
theorem bkOk_free {l : List Bk} {b : Bk} (h : b.count = 0) : bkOk l b = b.free := if_pos h
theorem bkOk_live {l : List Bk} {b : Bk} (h : ¬ b.count = 0) : bkOk l b = true ↔ (1 ≤ b.count ∧ b.count ≤ 1000000000000) ∧ b.tab.isTab = true ∧ ∀ (k : Nat) (s : Sl), b.tab.slots[k]? = some s → s.live = true → isHeld l s.val = true := by
  unfold bkOk
  rw [if_neg h, Bool.and_eq_true, Bool.and_eq_true, decide_eq_true_eq, allAt_iff]
  refine and_congr Iff.rfl (and_congr Iff.rfl ⟨fun q k s hs hl => ?_, fun q k s hs => ?_⟩)
  · have := q k s hs
    rw [hl] at this
    simpa using this
  · cases hl : s.live with
    | false => rfl
    | true => rw [q k s hs hl]; rfl
theorem free_slots {b : Bk} (h : b.free = true) : b.tab.slots = [] := by
  unfold Bk.free at h
  simp only [Bool.and_eq_true, decide_eq_true_eq] at h
  exact List.eq_nil_of_length_eq_zero h.2.2.1
/-- live handles point at live blocks -/
def inR (l : List Bk) : Prop := ∀ (i : Nat) (b : Bk), l[i]? = some b → ∀ (k : Nat) (s : Sl), b.tab.slots[k]? = some s → s.live = true → isHeld l s.val = true
theorem hOk.inR {l : List Bk} (h : hOk l) : inR l := by
  intro i b hb k s hs hl
  have := h.blk i b hb
  by_cases hc : b.count = 0
  · rw [bkOk_free hc] at this
    rw [free_slots this] at hs
    simp at hs
  · exact ((bkOk_live hc).1 this).2.2 k s hs hl
/-! the weights as the reference finds them: in rounds -/
def leftN (l : List Bk) (w : List Int) : Nat → Nat
  | 0 => 0
  | k + 1 => leftN l w k + if 0 < (blk l k).count ∧ w.getD k 0 = 0 then 1 else 0
theorem leftN_zero {l : List Bk} {w : List Int} : ∀ {k : Nat}, leftN l w k = 0 → ∀ i, i < k → 0 < (blk l i).count → ¬ w.getD i 0 = 0
  | 0, _, i, hi, _ => by omega
  | k + 1, h, i, hi, hc => by
    rw [leftN] at h
    by_cases he : i = k
    · subst he
      intro hw
      rw [if_pos ⟨hc, hw⟩] at h
      omega
    · exact leftN_zero (k := k) (by omega) i (by omega) hc
theorem leftN_none {l : List Bk} {w : List Int} : ∀ {k : Nat}, (∀ i, i < k → 0 < (blk l i).count → ¬ w.getD i 0 = 0) → leftN l w k = 0
  | 0, _ => rfl
  | k + 1, h => by
    rw [leftN, leftN_none fun i hi => h i (by omega), if_neg fun q => h k (by omega) q.1 q.2]
theorem getD_set_ne {w : List Int} {i j : Nat} {x : Int} (h : ¬ i = j) : (w.set i x).getD j 0 = w.getD j 0 := by
  rw [List.getD_eq_getElem?_getD, List.getD_eq_getElem?_getD, List.getElem?_set, if_neg h]
theorem getD_set_same {w : List Int} {i : Nat} {x : Int} (h : i < w.length) : (w.set i x).getD i 0 = x := by
  rw [List.getD_eq_getElem?_getD, List.getElem?_set, if_pos rfl, if_pos h]
  rfl
theorem leftN_set {l : List Bk} {w : List Int} {i : Nat} {x : Int} (hw : i < w.length) (hc : 0 < (blk l i).count) (h0 : w.getD i 0 = 0) (hx : ¬ x = 0) : ∀ k, leftN l (w.set i x) k + (if i < k then 1 else 0) = leftN l w k
  | 0 => by simp [leftN]
  | k + 1 => by
    have ih := leftN_set hw hc h0 hx k
    rw [leftN, leftN]
    by_cases he : i = k
    · subst he
      rw [getD_set_same hw, if_neg (show ¬ (0 < (blk l i).count ∧ x = 0) from fun q => hx q.2), if_pos (show 0 < (blk l i).count ∧ w.getD i 0 = 0 from ⟨hc, h0⟩), if_pos (show i < i + 1 by omega)]
      rw [if_neg (show ¬ i < i by omega)] at ih
      omega
    · rw [getD_set_ne he]
      by_cases hk : i < k
      · rw [if_pos hk] at ih
        rw [if_pos (show i < k + 1 by omega)]
        omega
      · rw [if_neg hk] at ih
        rw [if_neg (show ¬ i < k + 1 by omega)]
        omega
theorem leftN_le (l : List Bk) (w : List Int) : ∀ k, leftN l w k ≤ k
  | 0 => Nat.le_refl _
  | k + 1 => by
    rw [leftN]
    have := leftN_le l w k
    split <;> omega
/-- what is known on the way; 'r' rounds are done, and of this round the first 'i' -/
structure rInv (l : List Bk) (w : List Int) (r i : Nat) : Prop where
  len : w.length = l.length
  wt : ∀ (j : Nat) (x : Int), w[j]? = some x → ¬ x = 0 → 0 < x ∧ x ≤ 200 ∧ Wt l j x.toNat ∧ 0 < (blk l j).count
  done : ∀ (j n : Nat), j < l.length → 0 < (blk l j).count → wtF l r j = some n → n ≤ 200 → ¬ w.getD j 0 = 0
  now : ∀ (j n : Nat), j < i → j < l.length → 0 < (blk l j).count → wtF l (r + 1) j = some n → n ≤ 200 → ¬ w.getD j 0 = 0
theorem rInv.next {l : List Bk} {w : List Int} {r : Nat} (h : rInv l w r l.length) : rInv l w (r + 1) 0 :=
  ⟨h.len, h.wt, fun j n hj hc hw hn => h.now j n hj hj hc hw hn, fun j n hj => by omega⟩
theorem rInv.start {l : List Bk} {w : List Int} (hl : w.length = l.length) (hz : ∀ (j : Nat) (x : Int), w[j]? = some x → x = 0) : rInv l w 0 0 :=
  ⟨hl, fun j x hj hx => absurd (hz j x hj) hx, fun j n _ _ h => (by cases h), fun j n hj => by omega⟩
/-- the block is free or known -/
theorem rInv.skip {l : List Bk} {w : List Int} {r i : Nat} (h : rInv l w r i) (hs : (blk l i).count ≤ 0 ∨ ¬ w.getD i 0 = 0) : rInv l w r (i + 1) := by
  refine ⟨h.len, h.wt, h.done, fun j n hj hl hc hw hn => ?_⟩
  by_cases he : j = i
  · subst he
    rcases hs with hs | hs
    · omega
    · exact hs
  · exact h.now j n (by omega) hl hc hw hn
/-- the block is found -/
theorem rInv.put {l : List Bk} {w : List Int} {r i n : Nat} (h : rInv l w r i) (hi : i < l.length) (hc : 0 < (blk l i).count) (h0 : w.getD i 0 = 0) (hw : Wt l i n) (h1 : 1 ≤ n) (hn : n ≤ 200) : rInv l (w.set i (n : Nat)) r (i + 1) := by
  have hlen := h.len
  have keep : ∀ j, ¬ w.getD j 0 = 0 → ¬ (w.set i (n : Nat)).getD j 0 = 0 := fun j hj => by
    by_cases he : i = j
    · subst he; exact absurd h0 hj
    · rw [getD_set_ne he]; exact hj
  refine ⟨by rw [List.length_set, hlen], fun j x hj hx => ?_, fun j m hj hcj hwj hm => keep j (h.done j m hj hcj hwj hm), fun j m hj hl hcj hwj hm => ?_⟩
  · rw [List.getElem?_set] at hj
    split at hj
    · rename_i he
      subst he
      split at hj
      · cases hj
        exact ⟨by omega, by omega, hw, hc⟩
      · cases hj
    · exact h.wt j x hj hx
  · by_cases he : i = j
    · subst he
      rw [getD_set_same (by omega)]
      omega
    · exact keep j (h.now j m (by omega) hl hcj hwj hm)
/-- the block has a kid that is not known: it is not yet this round's -/
theorem rInv.wait {l : List Bk} {w : List Int} {r i k : Nat} {s : Sl} (h : rInv l w r i) (hs : (blk l i).tab.slots[k]? = some s) (hl : s.live = true) (hk : s.val.kind = 5) (hh : isHeld l s.val = true) (h0 : w.getD s.val.num.toNat 0 = 0) : rInv l w r (i + 1) := by
  refine ⟨h.len, h.wt, h.done, fun j n hj hlj hc hw hn => ?_⟩
  by_cases he : j = i
  · subst he
    exfalso
    rw [wtF] at hw
    simp only [Option.map_eq_some_iff] at hw
    obtain ⟨m, hm, rfl⟩ := hw
    rw [← List.take_append_drop k (blk l j).tab.slots, drop_cons hs] at hm
    obtain ⟨a, x, _, h2, rfl⟩ := (sumW_append _ _ _ _).1 hm
    rw [sumW, hl, if_pos rfl, if_pos hk] at h2
    obtain ⟨q1, q2, q3⟩ := held_num hh hk
    cases h3 : wtF l r s.val.num.toNat with
    | none => rw [h3] at h2; cases h2
    | some c =>
      rw [h3] at h2
      cases h4 : sumW (wtF l r) (List.drop (k + 1) (blk l j).tab.slots) with
      | none => rw [h4] at h2; cases h2
      | some d =>
        rw [h4] at h2
        have e : c + d = x := Option.some.inj h2
        exact h.done _ c q2 q3 h3 (by omega) h0
  · exact h.now j n (by omega) hlj hc hw hn
/-- a kid that is known -/
theorem rInv.kid {l : List Bk} {w : List Int} {r i : Nat} {v : V} (h : rInv l w r i) (hh : isHeld l v = true) (hk : v.kind = 5) (h0 : ¬ w.getD v.num.toNat 0 = 0) : ∃ n : Nat, w[v.num.toNat]? = some (n : Int) ∧ 1 ≤ n ∧ n ≤ 200 ∧ Wt l v.num.toNat n := by
  obtain ⟨q1, q2, q3⟩ := held_num hh hk
  have hg : w[v.num.toNat]? = some (w.getD v.num.toNat 0) := by
    rw [List.getD_eq_getElem?_getD, List.getElem?_eq_getElem (by rw [h.len]; exact q2)]
    rfl
  obtain ⟨p1, p2, p3, _⟩ := h.wt _ _ hg h0
  refine ⟨(w.getD v.num.toNat 0).toNat, ?_, by omega, by omega, p3⟩
  rw [hg]
  congr 1
  omega
/-- all rounds are done and something is left: it is too heavy -/
theorem rInv.stop {l : List Bk} {w : List Int} (h : rInv l w 201 0) (hl : ¬ leftN l w l.length = 0) (hL : ∀ (i : Nat) (b : Bk), l[i]? = some b → 0 < b.count → ∃ n, n ≤ 200 ∧ Wt l i n) : False := by
  refine hl (leftN_none fun i hi hc => ?_)
  obtain ⟨n, hn, hw⟩ := hL i _ (blk_at hi) hc
  exact h.done i n hi hc (hw.fuel (by omega)) hn
/-- nothing is left -/
theorem rInv.light {l : List Bk} {w : List Int} {r i : Nat} (h : rInv l w r i) (hl : leftN l w l.length = 0) : ∀ (i : Nat) (b : Bk), l[i]? = some b → 0 < b.count → ∃ n, n ≤ 200 ∧ Wt l i n := by
  intro j b hb hc
  have hj := (List.getElem?_eq_some_iff.1 hb).1
  have hg : w[j]? = some (w.getD j 0) := by
    rw [List.getD_eq_getElem?_getD, List.getElem?_eq_getElem (by rw [h.len]; exact hj)]
    rfl
  have := leftN_zero hl j hj (by rw [blk_get hb]; exact hc)
  obtain ⟨p1, p2, p3, _⟩ := h.wt _ _ hg this
  exact ⟨_, by omega, p3⟩
end Go.Sx
namespace Go.Sx
open Go
/-- no weight is being reckoned -/
def nNeg (ws : List Int) : Prop := ∀ (j : Nat) (x : Int), ws[j]? = some x → 0 ≤ x
theorem nNeg.path {l : List Bk} {ws : List Int} (h : nNeg ws) (i : Nat) : wPath l ws i := fun p hp => by
  have := h p _ hp
  omega
theorem nNeg.grow {ws us : List Int} (h : nNeg ws) (hl : us.length = ws.length) (g : wGrow ws us) : nNeg us := by
  intro j x hj
  have hlt := (List.getElem?_eq_some_iff.1 hj).1
  obtain ⟨y, hy, _⟩ := get_lt (l := ws) (i := j) (by omega)
  by_cases h0 : y = 0
  · subst h0
    obtain ⟨z, hz, hu⟩ := g.new j hy
    rw [hj] at hu
    cases hu
    exact hz
  · have := g.keep j y hy h0
    rw [hj] at this
    cases this
    exact h j _ hy
theorem wInv.zero (l : List Bk) : wInv l (List.replicate l.length 0) ∧ nNeg (List.replicate l.length 0) := by
  have key : ∀ (j : Nat) (x : Int), (List.replicate l.length (0 : Int))[j]? = some x → x = 0 := fun j x hj => by
    have := List.mem_of_getElem? hj
    rw [List.mem_replicate] at this
    exact this.2
  exact ⟨⟨List.length_replicate, fun j x hj => (by have := key j x hj; omega), fun j x hj hx => (by have := key j x hj; omega)⟩, fun j x hj => by have := key j x hj; omega⟩
theorem rInv.zero (l : List Bk) : rInv l (List.replicate l.length 0) 0 0 := rInv.start List.length_replicate fun j x hj => by
  have := List.mem_of_getElem? hj
  rw [List.mem_replicate] at this
  exact this.2
theorem repl_getD (n i : Nat) : (List.replicate n (0 : Int)).getD i 0 = 0 := by
  rw [List.getD_eq_getElem?_getD, List.getElem?_replicate]
  split <;> rfl
end Go.Sx
