/-
  The statement FnDropAll is proved: for each argument the law returns true; nothing is assumed.
-/
import Derived.Test.YtccjkhnefiikaaaGreatDoorFnDropAllAllA
/-! Heaps of counted tables in plain Lean: what is held, what blocks weigh, which heaps are right. -/
namespace Go.Sx
open Go
def bk0 : Bk := ⟨0, ⟨false, [], [], 0, 0⟩⟩
def blk (l : List Bk) (i : Nat) : Bk := l.getD i bk0
theorem blk_get {l : List Bk} {i : Nat} {b : Bk} (h : l[i]? = some b) : blk l i = b := by
  unfold blk
  rw [List.getD_eq_getElem?_getD, h]
  rfl
theorem blk_at {l : List Bk} {i : Nat} (h : i < l.length) : l[i]? = some (blk l i) := by
  unfold blk
  rw [List.getD_eq_getElem?_getD, List.getElem?_eq_getElem h]
  rfl
/-- a handle that is held -/
def hHeld (l : List Bk) (v : V) : Bool := decide (v.str = ⟨#[]⟩) && (decide (v.next = 0) && (decide (v.items.length = 0) && (decide (0 ≤ v.num ∧ v.num ≤ (l.length : Int) - 1) && decide (0 < (blk l v.num.toNat).count))))
def isHeld (l : List Bk) (v : V) : Bool := if v.kind = 5 then hHeld l v else !decide (v.kind = 4) && v.wf
theorem held_num {l : List Bk} {v : V} (h : isHeld l v = true) (k : v.kind = 5) : 0 ≤ v.num ∧ v.num.toNat < l.length ∧ 0 < (blk l v.num.toNat).count := by
  unfold isHeld hHeld at h
  rw [if_pos k] at h
  simp only [Bool.and_eq_true, decide_eq_true_eq] at h
  omega
theorem held_form {l : List Bk} {v : V} (h : isHeld l v = true) (k : v.kind = 5) : v = ⟨5, v.num, ⟨#[]⟩, 0, []⟩ := by
  unfold isHeld hHeld at h
  rw [if_pos k] at h
  simp only [Bool.and_eq_true, decide_eq_true_eq] at h
  obtain ⟨h1, h2, h3, _⟩ := h
  rw [← V.eta v, k, h1, h2, List.eq_nil_of_length_eq_zero h3]
  rfl
theorem held_other {l : List Bk} {v : V} (h : isHeld l v = true) (k : ¬ v.kind = 5) : ¬ v.kind = 4 ∧ v.wf = true := by
  unfold isHeld at h
  rw [if_neg k] at h
  simpa using h
theorem wf_items {v : V} (h : v.wf = true) (k : ¬ v.kind = 4) : v.items = [] := by
  rw [V.wf_eq] at h
  unfold wf0 at h
  simp only [Bool.and_eq_true] at h
  have h1 := h.1.2
  simp [k] at h1
  exact h1.2
theorem wf_str {v : V} (h : v.wf = true) : v.str.size ≤ 400 := by
  rw [V.wf_eq] at h
  unfold wf0 at h
  simp only [Bool.and_eq_true] at h
  obtain ⟨⟨h1, _⟩, h2⟩ := h
  by_cases k : v.kind = 3
  · simp [k] at h2
    exact h2.2
  · simp [k] at h1
    rw [h1]
    exact Nat.zero_le _
/-- A held value has no items; its text is short. -/
theorem held_items {l : List Bk} {v : V} (h : isHeld l v = true) : v.items = [] ∧ v.str.size ≤ 400 := by
  by_cases k : v.kind = 5
  · have e := held_form h k
    rw [e]
    exact ⟨rfl, Nat.zero_le _⟩
  · obtain ⟨h1, h2⟩ := held_other h k
    exact ⟨wf_items h2 h1, wf_str h2⟩
theorem V.valid_wf {v : V} (k : ¬ v.kind = 4) : v.valid = v.wf := by
  unfold V.valid
  rw [V.weight_eq, if_neg k]
  rfl
/-! weights -/
/-- what the live ones of some slots weigh, the blocks' weights given -/
def sumW (g : Nat → Option Nat) : List Sl → Option Nat
  | [] => some 0
  | s :: r => if s.live then (match (if s.val.kind = 5 then g s.val.num.toNat else some 1), sumW g r with
    | some a, some b => some (a + b)
    | _, _ => none) else sumW g r
def wtF (l : List Bk) : Nat → Nat → Option Nat
  | 0, _ => none
  | f + 1, i => (sumW (wtF l f) (blk l i).tab.slots).map (· + 1)
/-- a block's weight -/
def Wt (l : List Bk) (i n : Nat) : Prop := ∃ f, wtF l f i = some n
def SumR (l : List Bk) (ss : List Sl) (n : Nat) : Prop := ∃ f, sumW (wtF l f) ss = some n
theorem sumW_mono {g g' : Nat → Option Nat} (h : ∀ i n, g i = some n → g' i = some n) : ∀ (ss : List Sl) (n : Nat), sumW g ss = some n → sumW g' ss = some n
  | [], n, k => k
  | s :: r, n, k => by
    rw [sumW] at k ⊢
    cases hl : s.live with
    | false =>
      rw [hl] at k
      simp only [Bool.false_eq_true, if_false] at k ⊢
      exact sumW_mono h r n k
    | true =>
      rw [hl] at k
      simp only [if_true] at k ⊢
      cases h1 : (if s.val.kind = 5 then g s.val.num.toNat else some 1) with
      | none => rw [h1] at k; cases k
      | some a =>
        cases h2 : sumW g r with
        | none => rw [h1, h2] at k; cases k
        | some b =>
          rw [h1, h2] at k
          have e1 : (if s.val.kind = 5 then g' s.val.num.toNat else some 1) = some a := by
            split at h1
            · rename_i hk; rw [if_pos hk]; exact h _ _ h1
            · rename_i hk; rw [if_neg hk]; exact h1
          rw [e1, sumW_mono h r b h2]
          exact k
theorem wtF_mono (l : List Bk) : ∀ (f i n : Nat), wtF l f i = some n → wtF l (f + 1) i = some n
  | 0, i, n, h => by cases h
  | f + 1, i, n, h => by
    rw [wtF] at h ⊢
    simp only [Option.map_eq_some_iff] at h ⊢
    obtain ⟨a, h1, h2⟩ := h
    exact ⟨a, sumW_mono (wtF_mono l f) _ _ h1, h2⟩
theorem wtF_le {l : List Bk} {i n : Nat} : ∀ {g f : Nat}, wtF l f i = some n → f ≤ g → wtF l g i = some n
  | 0, f, h, hf => by
    have : f = 0 := by omega
    subst this
    cases h
  | g + 1, f, h, hf => by
    by_cases he : f = g + 1
    · subst he; exact h
    · exact wtF_mono l g i n (wtF_le h (by omega))
theorem sumW_le {l : List Bk} {ss : List Sl} {n f g : Nat} (h : sumW (wtF l f) ss = some n) (hf : f ≤ g) : sumW (wtF l g) ss = some n :=
  sumW_mono (fun _ _ k => wtF_le k hf) _ _ h
theorem Wt.uniq {l : List Bk} {i n m : Nat} (h : Wt l i n) (k : Wt l i m) : n = m := by
  obtain ⟨f, h⟩ := h
  obtain ⟨g, k⟩ := k
  have h1 := wtF_le (g := max f g) h (by omega)
  have h2 := wtF_le (g := max f g) k (by omega)
  rw [h1] at h2
  exact Option.some.inj h2
theorem SumR.uniq {l : List Bk} {ss : List Sl} {n m : Nat} (h : SumR l ss n) (k : SumR l ss m) : n = m := by
  obtain ⟨f, h⟩ := h
  obtain ⟨g, k⟩ := k
  have h1 := sumW_le (g := max f g) h (by omega)
  have h2 := sumW_le (g := max f g) k (by omega)
  rw [h1] at h2
  exact Option.some.inj h2
theorem Wt.iff {l : List Bk} {i n : Nat} : Wt l i n ↔ ∃ m, SumR l (blk l i).tab.slots m ∧ n = m + 1 := by
  constructor
  · rintro ⟨f, h⟩
    cases f with
    | zero => cases h
    | succ f =>
      rw [wtF] at h
      simp only [Option.map_eq_some_iff] at h
      obtain ⟨m, h1, h2⟩ := h
      exact ⟨m, ⟨f, h1⟩, h2.symm⟩
  · rintro ⟨m, ⟨f, h⟩, rfl⟩
    refine ⟨f + 1, ?_⟩
    rw [wtF, h]
    rfl
theorem SumR.nil (l : List Bk) : SumR l [] 0 := ⟨0, rfl⟩
theorem sumW_append (g : Nat → Option Nat) : ∀ (p q : List Sl) (n : Nat), sumW g (p ++ q) = some n ↔ ∃ a b, sumW g p = some a ∧ sumW g q = some b ∧ n = a + b
  | [], q, n => by
    simp only [List.nil_append, sumW]
    constructor
    · intro h; exact ⟨0, n, rfl, h, by omega⟩
    · rintro ⟨a, b, h1, h2, rfl⟩
      cases h1
      rw [h2, Nat.zero_add]
  | s :: r, q, n => by
    rw [List.cons_append, sumW, sumW]
    cases hl : s.live with
    | false =>
      simp only [Bool.false_eq_true, if_false]
      exact sumW_append g r q n
    | true =>
      simp only [if_true]
      cases h1 : (if s.val.kind = 5 then g s.val.num.toNat else some 1) with
      | none => simp
      | some c =>
        constructor
        · intro h
          cases h2 : sumW g (r ++ q) with
          | none => rw [h2] at h; cases h
          | some e =>
            rw [h2] at h
            obtain ⟨a, b, k1, k2, rfl⟩ := (sumW_append g r q e).1 h2
            refine ⟨c + a, b, by rw [k1], k2, ?_⟩
            have := Option.some.inj h
            omega
        · rintro ⟨a, b, h2, h3, rfl⟩
          cases h4 : sumW g r with
          | none => rw [h4] at h2; cases h2
          | some e =>
            rw [h4] at h2
            rw [(sumW_append g r q (e + b)).2 ⟨e, b, h4, h3, rfl⟩]
            have := Option.some.inj h2
            show some (c + (e + b)) = some (a + b)
            congr 1
            omega
theorem SumR.one {l : List Bk} {s : Sl} {n : Nat} : SumR l [s] n ↔ (s.live = false ∧ n = 0) ∨ (s.live = true ∧ s.val.kind = 5 ∧ Wt l s.val.num.toNat n) ∨ (s.live = true ∧ ¬ s.val.kind = 5 ∧ n = 1) := by
  unfold SumR Wt
  simp only [sumW]
  cases hl : s.live with
  | false =>
    simp only [Bool.false_eq_true, if_false]
    constructor
    · rintro ⟨f, h⟩; exact .inl ⟨trivial, (Option.some.inj h).symm⟩
    · rintro (h | h | h)
      · exact ⟨0, by rw [h.2]⟩
      · exact absurd h.1 (by simp)
      · exact absurd h.1 (by simp)
  | true =>
    simp only [if_true]
    by_cases k : s.val.kind = 5
    · simp only [if_pos k]
      constructor
      · rintro ⟨f, h⟩
        cases h1 : wtF l f s.val.num.toNat with
        | none => rw [h1] at h; cases h
        | some a =>
          rw [h1] at h
          have : a + 0 = n := Option.some.inj h
          exact .inr (.inl ⟨trivial, k, f, by rw [h1, ← this, Nat.add_zero]⟩)
      · rintro (h | ⟨_, _, f, h⟩ | h)
        · exact absurd h.1 (by simp)
        · exact ⟨f, by rw [h]; rfl⟩
        · exact absurd k h.2.1
    · simp only [if_neg k]
      constructor
      · rintro ⟨f, h⟩
        have : 1 + 0 = n := Option.some.inj h
        exact .inr (.inr ⟨trivial, k, this.symm⟩)
      · rintro (h | h | h)
        · exact absurd h.1 (by simp)
        · exact absurd h.2.1 k
        · exact ⟨0, by rw [h.2.2]⟩
theorem SumR.append {l : List Bk} {p q : List Sl} {n : Nat} : SumR l (p ++ q) n ↔ ∃ a b, SumR l p a ∧ SumR l q b ∧ n = a + b := by
  constructor
  · rintro ⟨f, h⟩
    obtain ⟨a, b, h1, h2, h3⟩ := (sumW_append _ _ _ _).1 h
    exact ⟨a, b, ⟨f, h1⟩, ⟨f, h2⟩, h3⟩
  · rintro ⟨a, b, ⟨f, h1⟩, ⟨g, h2⟩, h3⟩
    exact ⟨max f g, (sumW_append _ _ _ _).2 ⟨a, b, sumW_le h1 (by omega), sumW_le h2 (by omega), h3⟩⟩
/-- a slot that counts is part of the sum -/
theorem SumR.part {l : List Bk} {ss : List Sl} {k : Nat} {s : Sl} {n : Nat} (hs : ss[k]? = some s) (h : SumR l ss n) : ∃ a b c, SumR l (ss.take k) a ∧ SumR l [s] b ∧ SumR l (ss.drop (k + 1)) c ∧ n = a + (b + c) := by
  rw [← List.take_append_drop k ss, drop_cons hs] at h
  obtain ⟨a, x, h1, h2, rfl⟩ := SumR.append.1 h
  rw [show s :: ss.drop (k + 1) = [s] ++ ss.drop (k + 1) from rfl] at h2
  obtain ⟨b, c, h3, h4, rfl⟩ := SumR.append.1 h2
  exact ⟨a, b, c, h1, h3, h4, rfl⟩
/-- what a live handle's block weighs is less than what its own block weighs -/
theorem Wt.kid {l : List Bk} {i n k : Nat} {s : Sl} (h : Wt l i n) (hs : (blk l i).tab.slots[k]? = some s) (hl : s.live = true) (hk : s.val.kind = 5) : ∃ m, Wt l s.val.num.toNat m ∧ m < n := by
  obtain ⟨m, h1, rfl⟩ := Wt.iff.1 h
  obtain ⟨a, b, c, _, h3, _, rfl⟩ := h1.part hs
  rcases SumR.one.1 h3 with q | q | q
  · rw [hl] at q; exact absurd q.1 (by simp)
  · exact ⟨b, q.2.2, by omega⟩
  · exact absurd hk q.2.1
/-- enough fuel is a block's own weight -/
theorem wtF_self {l : List Bk} : ∀ (f i n : Nat), wtF l f i = some n → wtF l n i = some n
  | 0, i, n, h => by cases h
  | f + 1, i, n, h => by
    rw [wtF] at h
    simp only [Option.map_eq_some_iff] at h
    obtain ⟨m, h1, rfl⟩ := h
    rw [wtF]
    simp only [Option.map_eq_some_iff]
    exact ⟨m, go f (wtF_self f) _ _ h1 m (Nat.le_refl _), rfl⟩
where go (f : Nat) (ih : ∀ i n, wtF l f i = some n → wtF l n i = some n) : ∀ (ss : List Sl) (n : Nat), sumW (wtF l f) ss = some n → ∀ m, n ≤ m → sumW (wtF l m) ss = some n
  | [], n, h, m, _ => h
  | s :: r, n, h, m, hm => by
    rw [sumW] at h ⊢
    cases hl : s.live with
    | false =>
      rw [hl] at h
      simp only [Bool.false_eq_true, if_false] at h ⊢
      exact go f ih r n h m hm
    | true =>
      rw [hl] at h
      simp only [if_true] at h ⊢
      cases h1 : (if s.val.kind = 5 then wtF l f s.val.num.toNat else some 1) with
      | none => rw [h1] at h; cases h
      | some a =>
        cases h2 : sumW (wtF l f) r with
        | none => rw [h1, h2] at h; cases h
        | some b =>
          rw [h1, h2] at h
          have e : a + b = n := Option.some.inj h
          have e1 : (if s.val.kind = 5 then wtF l m s.val.num.toNat else some 1) = some a := by
            split at h1
            · rename_i hk; rw [if_pos hk]; exact wtF_le (ih _ _ h1) (by omega)
            · rename_i hk; rw [if_neg hk]; exact h1
          rw [e1, go f ih r b h2 m (by omega)]
          exact h
theorem Wt.fuel {l : List Bk} {i n f : Nat} (h : Wt l i n) (hf : n ≤ f) : wtF l f i = some n := by
  obtain ⟨g, h⟩ := h
  exact wtF_le (wtF_self g i n h) hf
/-! the weight as the program reckons it: capped at 201 -/
structure Est (l : List Bk) (i n : Nat) : Prop where
  pos : 1 ≤ n
  cap : n ≤ 201
  is : n ≤ 200 → Wt l i n
  big : n = 201 → ∀ m, Wt l i m → 200 < m
structure EstS (l : List Bk) (ss : List Sl) (n : Nat) : Prop where
  pos : 1 ≤ n
  cap : n ≤ 201
  is : n ≤ 200 → SumR l ss (n - 1)
  big : n = 201 → ∀ m, SumR l ss m → 200 ≤ m
theorem EstS.le {l : List Bk} {ss : List Sl} {n m : Nat} (h : EstS l ss n) (k : SumR l ss m) : n - 1 ≤ m := by
  by_cases hn : n ≤ 200
  · have := (h.is hn).uniq k
    omega
  · have h1 := h.cap
    have := h.big (by omega) m k
    omega
theorem Est.le {l : List Bk} {i n m : Nat} (h : Est l i n) (k : Wt l i m) : n ≤ m := by
  by_cases hn : n ≤ 200
  · have := (h.is hn).uniq k
    omega
  · have h1 := h.cap
    have := h.big (by omega) m k
    omega
theorem EstS.nil (l : List Bk) : EstS l [] 1 := ⟨Nat.le_refl _, by omega, fun _ => SumR.nil l, fun h => by omega⟩
theorem EstS.skip {l : List Bk} {ss : List Sl} {k n : Nat} {s : Sl} (h : EstS l (ss.take k) n) (hs : ss[k]? = some s) (hl : s.live = false) : EstS l (ss.take (k + 1)) n := by
  rw [take_snoc hs]
  refine ⟨h.pos, h.cap, fun hn => ?_, fun hn m hm => ?_⟩
  · exact SumR.append.2 ⟨n - 1, 0, h.is hn, SumR.one.2 (.inl ⟨hl, rfl⟩), rfl⟩
  · obtain ⟨a, b, h1, _, rfl⟩ := SumR.append.1 hm
    have := h.big hn a h1
    omega
theorem EstS.one {l : List Bk} {ss : List Sl} {k n : Nat} {s : Sl} (h : EstS l (ss.take k) n) (hs : ss[k]? = some s) (hl : s.live = true) (hk : ¬ s.val.kind = 5) : EstS l (ss.take (k + 1)) (min (n + 1) 201) := by
  rw [take_snoc hs]
  have hp := h.pos
  refine ⟨by omega, by omega, fun hn => ?_, fun hn m hm => ?_⟩
  · exact SumR.append.2 ⟨n - 1, 1, h.is (by omega), SumR.one.2 (.inr (.inr ⟨hl, hk, rfl⟩)), by omega⟩
  · obtain ⟨a, b, h1, h2, rfl⟩ := SumR.append.1 hm
    have := h.le h1
    rcases SumR.one.1 h2 with q | q | q
    · rw [hl] at q; exact absurd q.1 (by simp)
    · exact absurd q.2.1 hk
    · omega
theorem EstS.kid {l : List Bk} {ss : List Sl} {k n e : Nat} {s : Sl} (h : EstS l (ss.take k) n) (hs : ss[k]? = some s) (hl : s.live = true) (hk : s.val.kind = 5) (he : Est l s.val.num.toNat e) : EstS l (ss.take (k + 1)) (min (n + e) 201) := by
  rw [take_snoc hs]
  have hp := h.pos
  have ep := he.pos
  refine ⟨by omega, by omega, fun hn => ?_, fun hn m hm => ?_⟩
  · exact SumR.append.2 ⟨n - 1, e, h.is (by omega), SumR.one.2 (.inr (.inl ⟨hl, hk, he.is (by omega)⟩)), by omega⟩
  · obtain ⟨a, b, h1, h2, rfl⟩ := SumR.append.1 hm
    have := h.le h1
    rcases SumR.one.1 h2 with q | q | q
    · rw [hl] at q; exact absurd q.1 (by simp)
    · have := he.le q.2.2
      omega
    · exact absurd hk q.2.1
theorem EstS.est {l : List Bk} {i n : Nat} (h : EstS l (blk l i).tab.slots n) : Est l i n := by
  have hp := h.pos
  refine ⟨hp, h.cap, fun hn => Wt.iff.2 ⟨n - 1, h.is hn, by omega⟩, fun hn m hm => ?_⟩
  obtain ⟨a, h1, rfl⟩ := Wt.iff.1 hm
  have := h.big hn a h1
  omega
/-- what is known of the weights that the program has found so far -/
structure wInv (l : List Bk) (ws : List Int) : Prop where
  len : ws.length = l.length
  low : ∀ (j : Nat) (x : Int), ws[j]? = some x → -1 ≤ x
  est : ∀ (j : Nat) (x : Int), ws[j]? = some x → 0 < x → Est l j x.toNat
/-- a block that is being reckoned weighs more than the one that is reached -/
def wPath (l : List Bk) (ws : List Int) (i : Nat) : Prop := ∀ p : Nat, ws[p]? = some (-1) → ∀ m, Wt l p m → ∃ n, Wt l i n ∧ n < m
/-- how the found weights grow -/
structure wGrow (ws us : List Int) : Prop where
  keep : ∀ (j : Nat) (x : Int), ws[j]? = some x → ¬ x = 0 → us[j]? = some x
  new : ∀ j : Nat, ws[j]? = some 0 → ∃ x : Int, 0 ≤ x ∧ us[j]? = some x
theorem wGrow.refl (ws : List Int) : wGrow ws ws := ⟨fun _ _ h _ => h, fun _ h => ⟨0, Int.le_refl _, h⟩⟩
theorem wGrow.trans {ws us vs : List Int} (h : wGrow ws us) (k : wGrow us vs) : wGrow ws vs := by
  refine ⟨fun j x hj hx => k.keep j x (h.keep j x hj hx) hx, fun j hj => ?_⟩
  obtain ⟨x, hx, hu⟩ := h.new j hj
  by_cases h0 : x = 0
  · subst h0
    exact k.new j hu
  · exact ⟨x, hx, k.keep j x hu h0⟩
def zer : List Int → Nat
  | [] => 0
  | x :: r => (if x = 0 then 1 else 0) + zer r
theorem zer_set : ∀ {ws : List Int} {i : Nat} {x : Int}, ws[i]? = some 0 → ¬ x = 0 → zer (ws.set i x) + 1 = zer ws
  | [], i, x, h, _ => by simp at h
  | y :: r, 0, x, h, hx => by
    simp only [List.getElem?_cons_zero, Option.some.injEq] at h
    subst h
    simp only [List.set_cons_zero, zer, if_neg hx, if_true]
    omega
  | y :: r, i + 1, x, h, hx => by
    simp only [List.getElem?_cons_succ] at h
    simp only [List.set_cons_succ, zer]
    have := zer_set h hx
    omega
theorem zer_grow : ∀ {ws us : List Int}, us.length = ws.length → wGrow ws us → zer us ≤ zer ws
  | [], us, hl, _ => by
    have : us = [] := List.eq_nil_of_length_eq_zero hl
    subst this
    exact Nat.le_refl _
  | y :: r, [], hl, _ => by simp at hl
  | y :: r, z :: s, hl, g => by
    have h1 : wGrow r s := ⟨fun j x hj hx => by simpa using g.keep (j + 1) x (by simpa using hj) hx, fun j hj => by simpa using g.new (j + 1) (by simpa using hj)⟩
    have h2 := zer_grow (by simpa using hl) h1
    simp only [zer]
    by_cases hz : z = 0
    · by_cases hy : y = 0
      · rw [if_pos hz, if_pos hy]; omega
      · have := g.keep 0 y rfl hy
        simp only [List.getElem?_cons_zero, Option.some.injEq] at this
        exact absurd (this ▸ hz) hy
    · rw [if_neg hz]; omega
/-- the block reached is marked -/
theorem wInv.mark {l : List Bk} {ws : List Int} (w : wInv l ws) {i : Nat} : wInv l (ws.set i (-1)) := by
  refine ⟨by rw [List.length_set, w.len], fun j x hj => ?_, fun j x hj hx => ?_⟩
  · rw [List.getElem?_set] at hj
    split at hj
    · split at hj
      · cases hj; omega
      · cases hj
    · exact w.low j x hj
  · rw [List.getElem?_set] at hj
    split at hj
    · split at hj
      · cases hj; omega
      · cases hj
    · exact w.est j x hj hx
theorem wPath.kid {l : List Bk} {ws us : List Int} {i k : Nat} {s : Sl} (p : wPath l ws i) (hi : i < ws.length) (_ : ws[i]? = some 0) (g : wGrow (ws.set i (-1)) us) (hs : (blk l i).tab.slots[k]? = some s) (hl : s.live = true) (hk : s.val.kind = 5) (hu : us.length = ws.length) : wPath l us s.val.num.toNat := by
  intro q hq m hm
  have back : (ws.set i (-1))[q]? = some (-1) := by
    have hlt : q < ws.length := by
      have := (List.getElem?_eq_some_iff.1 hq).1
      omega
    obtain ⟨x, hx⟩ : ∃ x, (ws.set i (-1))[q]? = some x := ⟨_, List.getElem?_eq_getElem (by rw [List.length_set]; exact hlt)⟩
    by_cases h0 : x = 0
    · subst h0
      obtain ⟨y, hy, hy2⟩ := g.new q hx
      rw [hq] at hy2
      cases hy2
      omega
    · have := g.keep q x hx h0
      rw [hq] at this
      rw [hx, ← this]
  rw [List.getElem?_set] at back
  split at back
  · rename_i he
    subst he
    exact hm.kid hs hl hk
  · obtain ⟨n, hn, hlt⟩ := p q back m hm
    obtain ⟨n', hn', hlt'⟩ := hn.kid hs hl hk
    exact ⟨n', hn', by omega⟩
/-- the block's weight is put down -/
theorem wInv.done {l : List Bk} {ws : List Int} (w : wInv l ws) {i n : Nat} (e : Est l i n) : wInv l (ws.set i (n : Nat)) := by
  have := e.pos
  refine ⟨by rw [List.length_set, w.len], fun j x hj => ?_, fun j x hj hx => ?_⟩
  · rw [List.getElem?_set] at hj
    split at hj
    · split at hj
      · cases hj; omega
      · cases hj
    · exact w.low j x hj
  · rw [List.getElem?_set] at hj
    split at hj
    · rename_i he
      subst he
      split at hj
      · cases hj; exact e
      · cases hj
    · exact w.est j x hj hx
theorem wGrow.done {ws us : List Int} {i n : Nat} (g : wGrow (ws.set i (-1)) us) (hz : ws[i]? = some 0) (hu : us.length = ws.length) (hn : 1 ≤ n) : wGrow ws (us.set i (n : Nat)) := by
  have hi := (List.getElem?_eq_some_iff.1 hz).1
  refine ⟨fun j x hj hx => ?_, fun j hj => ?_⟩
  · have hne : ¬ i = j := by
      intro he
      subst he
      rw [hz] at hj
      cases hj
      exact hx rfl
    rw [List.getElem?_set, if_neg hne]
    exact g.keep j x (by rw [List.getElem?_set, if_neg hne]; exact hj) hx
  · rw [List.getElem?_set]
    split
    · exact ⟨(n : Nat), by omega, by rw [if_pos (by omega)]⟩
    · rename_i hne
      exact g.new j (by rw [List.getElem?_set, if_neg hne]; exact hj)
/-- a block that is reached while it is being reckoned weighs nothing that is known -/
theorem Est.loop {l : List Bk} {ws : List Int} {i : Nat} (p : wPath l ws i) (h : ws[i]? = some (-1)) : Est l i 201 := by
  refine ⟨by omega, by omega, fun h => by omega, fun _ m hm => ?_⟩
  obtain ⟨n, hn, hlt⟩ := p i h m hm
  have := hn.uniq hm
  omega
/-! which heaps are right -/
def Bk.free (b : Bk) : Bool := !b.tab.hashed && (decide (b.tab.heads.length = 0) && (decide (b.tab.slots.length = 0) && (decide (b.tab.next = 0) && decide (b.tab.count = 0))))
def bkOk (l : List Bk) (b : Bk) : Bool :=
  if b.count = 0 then b.free else decide (1 ≤ b.count ∧ b.count ≤ 1000000000000) && (b.tab.isTab && allIx b.tab.slots.length fun k => at_ b.tab.slots k fun (s : Sl) => !s.live || isHeld l s.val)
/-- no block weighs more than 200 -/
def lightB (l : List Bk) : Bool := allIx l.length fun i => at_ l i fun b => decide (b.count ≤ 0) || (match wtF l 200 i with
  | some n => decide (n ≤ 200)
  | none => false)
def heapB (l : List Bk) : Bool := allIx l.length (fun i => at_ l i (bkOk l)) && lightB l
theorem lightB_iff {l : List Bk} : lightB l = true ↔ ∀ (i : Nat) (b : Bk), l[i]? = some b → 0 < b.count → ∃ n, n ≤ 200 ∧ Wt l i n := by
  unfold lightB
  rw [allIx_iff]
  constructor
  · intro h i b hb hc
    have := at_iff.1 (h i (List.getElem?_eq_some_iff.1 hb).1) b hb
    rw [decide_eq_false (by omega), Bool.false_or] at this
    split at this
    · rename_i n hn
      exact ⟨n, by simpa using this, 200, hn⟩
    · cases this
  · intro h i _
    refine at_iff.2 fun b hb => ?_
    by_cases hc : b.count ≤ 0
    · rw [decide_eq_true hc]; rfl
    · obtain ⟨n, hn, hw⟩ := h i b hb (by omega)
      rw [hw.fuel hn, decide_eq_false hc, Bool.false_or]
      exact decide_eq_true hn
/-- what is known of a right heap -/
structure hOk (l : List Bk) : Prop where
  blk : ∀ (i : Nat) (b : Bk), l[i]? = some b → bkOk l b = true
  light : ∀ (i : Nat) (b : Bk), l[i]? = some b → 0 < b.count → ∃ n, n ≤ 200 ∧ Wt l i n
theorem heapB_iff {l : List Bk} : heapB l = true ↔ hOk l := by
  unfold heapB
  rw [Bool.and_eq_true, allIx_iff, lightB_iff]
  constructor
  · rintro ⟨h1, h2⟩
    exact ⟨fun i b hb => at_iff.1 (h1 i (List.getElem?_eq_some_iff.1 hb).1) b hb, h2⟩
  · intro h
    exact ⟨fun i _ => at_iff.2 fun b hb => h.blk i b hb, h.light⟩
theorem noHeap {l : List Bk} (h : hOk l → False) : heapB l = false := by
  cases hb : heapB l with
  | false => rfl
  | true => exact (h (heapB_iff.1 hb)).elim
theorem bkOk_free {l : List Bk} {b : Bk} (h : b.count = 0) : bkOk l b = b.free := if_pos h
theorem bkOk_live {l : List Bk} {b : Bk} (h : ¬ b.count = 0) : bkOk l b = true ↔ (1 ≤ b.count ∧ b.count ≤ 1000000000000) ∧ b.tab.isTab = true ∧ ∀ (k : Nat) (s : Sl), b.tab.slots[k]? = some s → s.live = true → isHeld l s.val = true := by
  unfold bkOk
  rw [if_neg h, Bool.and_eq_true, Bool.and_eq_true, decide_eq_true_eq, allAt_iff]
  refine and_congr Iff.rfl (and_congr Iff.rfl ⟨fun q k s hs hl => ?_, fun q k s hs => ?_⟩)
  · have := q k s hs
    rw [hl] at this
    simpa using this
  · cases hl : s.live with
    | false => rfl
    | true => rw [q k s hs hl]; rfl
theorem free_slots {b : Bk} (h : b.free = true) : b.tab.slots = [] := by
  unfold Bk.free at h
  simp only [Bool.and_eq_true, decide_eq_true_eq] at h
  exact List.eq_nil_of_length_eq_zero h.2.2.1
/-- live handles point at live blocks -/
def inR (l : List Bk) : Prop := ∀ (i : Nat) (b : Bk), l[i]? = some b → ∀ (k : Nat) (s : Sl), b.tab.slots[k]? = some s → s.live = true → isHeld l s.val = true
theorem hOk.inR {l : List Bk} (h : hOk l) : inR l := by
  intro i b hb k s hs hl
  have := h.blk i b hb
  by_cases hc : b.count = 0
  · rw [bkOk_free hc] at this
    rw [free_slots this] at hs
    simp at hs
  · exact ((bkOk_live hc).1 this).2.2 k s hs hl
/-! the weights as the reference finds them: in rounds -/
def leftN (l : List Bk) (w : List Int) : Nat → Nat
  | 0 => 0
  | k + 1 => leftN l w k + if 0 < (blk l k).count ∧ w.getD k 0 = 0 then 1 else 0
theorem leftN_zero {l : List Bk} {w : List Int} : ∀ {k : Nat}, leftN l w k = 0 → ∀ i, i < k → 0 < (blk l i).count → ¬ w.getD i 0 = 0
  | 0, _, i, hi, _ => by omega
  | k + 1, h, i, hi, hc => by
    rw [leftN] at h
    by_cases he : i = k
    · subst he
      intro hw
      rw [if_pos ⟨hc, hw⟩] at h
      omega
    · exact leftN_zero (k := k) (by omega) i (by omega) hc
theorem leftN_none {l : List Bk} {w : List Int} : ∀ {k : Nat}, (∀ i, i < k → 0 < (blk l i).count → ¬ w.getD i 0 = 0) → leftN l w k = 0
  | 0, _ => rfl
  | k + 1, h => by
    rw [leftN, leftN_none fun i hi => h i (by omega), if_neg fun q => h k (by omega) q.1 q.2]
theorem getD_set_ne {w : List Int} {i j : Nat} {x : Int} (h : ¬ i = j) : (w.set i x).getD j 0 = w.getD j 0 := by
  rw [List.getD_eq_getElem?_getD, List.getD_eq_getElem?_getD, List.getElem?_set, if_neg h]
theorem getD_set_same {w : List Int} {i : Nat} {x : Int} (h : i < w.length) : (w.set i x).getD i 0 = x := by
  rw [List.getD_eq_getElem?_getD, List.getElem?_set, if_pos rfl, if_pos h]
  rfl
theorem leftN_set {l : List Bk} {w : List Int} {i : Nat} {x : Int} (hw : i < w.length) (hc : 0 < (blk l i).count) (h0 : w.getD i 0 = 0) (hx : ¬ x = 0) : ∀ k, leftN l (w.set i x) k + (if i < k then 1 else 0) = leftN l w k
  | 0 => by simp [leftN]
  | k + 1 => by
    have ih := leftN_set hw hc h0 hx k
    rw [leftN, leftN]
    by_cases he : i = k
    · subst he
      rw [getD_set_same hw, if_neg (show ¬ (0 < (blk l i).count ∧ x = 0) from fun q => hx q.2), if_pos (show 0 < (blk l i).count ∧ w.getD i 0 = 0 from ⟨hc, h0⟩), if_pos (show i < i + 1 by omega)]
      rw [if_neg (show ¬ i < i by omega)] at ih
      omega
    · rw [getD_set_ne he]
      by_cases hk : i < k
      · rw [if_pos hk] at ih
        rw [if_pos (show i < k + 1 by omega)]
        omega
      · rw [if_neg hk] at ih
        rw [if_neg (show ¬ i < k + 1 by omega)]
        omega
theorem leftN_le (l : List Bk) (w : List Int) : ∀ k, leftN l w k ≤ k
  | 0 => Nat.le_refl _
  | k + 1 => by
    rw [leftN]
    have := leftN_le l w k
    split <;> omega
/-- what is known on the way; 'r' rounds are done, and of this round the first 'i' -/
structure rInv (l : List Bk) (w : List Int) (r i : Nat) : Prop where
  len : w.length = l.length
  wt : ∀ (j : Nat) (x : Int), w[j]? = some x → ¬ x = 0 → 0 < x ∧ x ≤ 200 ∧ Wt l j x.toNat ∧ 0 < (blk l j).count
  done : ∀ (j n : Nat), j < l.length → 0 < (blk l j).count → wtF l r j = some n → n ≤ 200 → ¬ w.getD j 0 = 0
  now : ∀ (j n : Nat), j < i → j < l.length → 0 < (blk l j).count → wtF l (r + 1) j = some n → n ≤ 200 → ¬ w.getD j 0 = 0
theorem rInv.next {l : List Bk} {w : List Int} {r : Nat} (h : rInv l w r l.length) : rInv l w (r + 1) 0 :=
  ⟨h.len, h.wt, fun j n hj hc hw hn => h.now j n hj hj hc hw hn, fun j n hj => by omega⟩
theorem rInv.start {l : List Bk} {w : List Int} (hl : w.length = l.length) (hz : ∀ (j : Nat) (x : Int), w[j]? = some x → x = 0) : rInv l w 0 0 :=
  ⟨hl, fun j x hj hx => absurd (hz j x hj) hx, fun j n _ _ h => (by cases h), fun j n hj => by omega⟩
/-- the block is free or known -/
theorem rInv.skip {l : List Bk} {w : List Int} {r i : Nat} (h : rInv l w r i) (hs : (blk l i).count ≤ 0 ∨ ¬ w.getD i 0 = 0) : rInv l w r (i + 1) := by
  refine ⟨h.len, h.wt, h.done, fun j n hj hl hc hw hn => ?_⟩
  by_cases he : j = i
  · subst he
    rcases hs with hs | hs
    · omega
    · exact hs
  · exact h.now j n (by omega) hl hc hw hn
/-- the block is found -/
theorem rInv.put {l : List Bk} {w : List Int} {r i n : Nat} (h : rInv l w r i) (hi : i < l.length) (hc : 0 < (blk l i).count) (h0 : w.getD i 0 = 0) (hw : Wt l i n) (h1 : 1 ≤ n) (hn : n ≤ 200) : rInv l (w.set i (n : Nat)) r (i + 1) := by
  have hlen := h.len
  have keep : ∀ j, ¬ w.getD j 0 = 0 → ¬ (w.set i (n : Nat)).getD j 0 = 0 := fun j hj => by
    by_cases he : i = j
    · subst he; exact absurd h0 hj
    · rw [getD_set_ne he]; exact hj
  refine ⟨by rw [List.length_set, hlen], fun j x hj hx => ?_, fun j m hj hcj hwj hm => keep j (h.done j m hj hcj hwj hm), fun j m hj hl hcj hwj hm => ?_⟩
  · rw [List.getElem?_set] at hj
    split at hj
    · rename_i he
      subst he
      split at hj
      · cases hj
        exact ⟨by omega, by omega, hw, hc⟩
      · cases hj
    · exact h.wt j x hj hx
  · by_cases he : i = j
    · subst he
      rw [getD_set_same (by omega)]
      omega
    · exact keep j (h.now j m (by omega) hl hcj hwj hm)
/-- the block has a kid that is not known: it is not yet this round's -/
theorem rInv.wait {l : List Bk} {w : List Int} {r i k : Nat} {s : Sl} (h : rInv l w r i) (hs : (blk l i).tab.slots[k]? = some s) (hl : s.live = true) (hk : s.val.kind = 5) (hh : isHeld l s.val = true) (h0 : w.getD s.val.num.toNat 0 = 0) : rInv l w r (i + 1) := by
  refine ⟨h.len, h.wt, h.done, fun j n hj hlj hc hw hn => ?_⟩
  by_cases he : j = i
  · subst he
    exfalso
    rw [wtF] at hw
    simp only [Option.map_eq_some_iff] at hw
    obtain ⟨m, hm, rfl⟩ := hw
    rw [← List.take_append_drop k (blk l j).tab.slots, drop_cons hs] at hm
    obtain ⟨a, x, _, h2, rfl⟩ := (sumW_append _ _ _ _).1 hm
    rw [sumW, hl, if_pos rfl, if_pos hk] at h2
    obtain ⟨q1, q2, q3⟩ := held_num hh hk
    cases h3 : wtF l r s.val.num.toNat with
    | none => rw [h3] at h2; cases h2
    | some c =>
      rw [h3] at h2
      cases h4 : sumW (wtF l r) (List.drop (k + 1) (blk l j).tab.slots) with
      | none => rw [h4] at h2; cases h2
      | some d =>
        rw [h4] at h2
        have e : c + d = x := Option.some.inj h2
        exact h.done _ c q2 q3 h3 (by omega) h0
  · exact h.now j n (by omega) hlj hc hw hn
/-- a kid that is known -/
theorem rInv.kid {l : List Bk} {w : List Int} {r i : Nat} {v : V} (h : rInv l w r i) (hh : isHeld l v = true) (hk : v.kind = 5) (h0 : ¬ w.getD v.num.toNat 0 = 0) : ∃ n : Nat, w[v.num.toNat]? = some (n : Int) ∧ 1 ≤ n ∧ n ≤ 200 ∧ Wt l v.num.toNat n := by
  obtain ⟨q1, q2, q3⟩ := held_num hh hk
  have hg : w[v.num.toNat]? = some (w.getD v.num.toNat 0) := by
    rw [List.getD_eq_getElem?_getD, List.getElem?_eq_getElem (by rw [h.len]; exact q2)]
    rfl
  obtain ⟨p1, p2, p3, _⟩ := h.wt _ _ hg h0
  refine ⟨(w.getD v.num.toNat 0).toNat, ?_, by omega, by omega, p3⟩
  rw [hg]
  congr 1
  omega
/-- all rounds are done and something is left: it is too heavy -/
theorem rInv.stop {l : List Bk} {w : List Int} (h : rInv l w 201 0) (hl : ¬ leftN l w l.length = 0) (hL : ∀ (i : Nat) (b : Bk), l[i]? = some b → 0 < b.count → ∃ n, n ≤ 200 ∧ Wt l i n) : False := by
  refine hl (leftN_none fun i hi hc => ?_)
  obtain ⟨n, hn, hw⟩ := hL i _ (blk_at hi) hc
  exact h.done i n hi hc (hw.fuel (by omega)) hn
/-- nothing is left -/
theorem rInv.light {l : List Bk} {w : List Int} {r i : Nat} (h : rInv l w r i) (hl : leftN l w l.length = 0) : ∀ (i : Nat) (b : Bk), l[i]? = some b → 0 < b.count → ∃ n, n ≤ 200 ∧ Wt l i n := by
  intro j b hb hc
  have hj := (List.getElem?_eq_some_iff.1 hb).1
  have hg : w[j]? = some (w.getD j 0) := by
    rw [List.getD_eq_getElem?_getD, List.getElem?_eq_getElem (by rw [h.len]; exact hj)]
    rfl
  have := leftN_zero hl j hj (by rw [blk_get hb]; exact hc)
  obtain ⟨p1, p2, p3, _⟩ := h.wt _ _ hg this
  exact ⟨_, by omega, p3⟩
end Go.Sx
namespace Go.Sx
open Go
/-- no weight is being reckoned -/
def nNeg (ws : List Int) : Prop := ∀ (j : Nat) (x : Int), ws[j]? = some x → 0 ≤ x
theorem nNeg.path {l : List Bk} {ws : List Int} (h : nNeg ws) (i : Nat) : wPath l ws i := fun p hp => by
  have := h p _ hp
  omega
theorem nNeg.grow {ws us : List Int} (h : nNeg ws) (hl : us.length = ws.length) (g : wGrow ws us) : nNeg us := by
  intro j x hj
  have hlt := (List.getElem?_eq_some_iff.1 hj).1
  obtain ⟨y, hy, _⟩ := get_lt (l := ws) (i := j) (by omega)
  by_cases h0 : y = 0
  · subst h0
    obtain ⟨z, hz, hu⟩ := g.new j hy
    rw [hj] at hu
    cases hu
    exact hz
  · have := g.keep j y hy h0
    rw [hj] at this
    cases this
    exact h j _ hy
theorem wInv.zero (l : List Bk) : wInv l (List.replicate l.length 0) ∧ nNeg (List.replicate l.length 0) := by
  have key : ∀ (j : Nat) (x : Int), (List.replicate l.length (0 : Int))[j]? = some x → x = 0 := fun j x hj => by
    have := List.mem_of_getElem? hj
    rw [List.mem_replicate] at this
    exact this.2
  exact ⟨⟨List.length_replicate, fun j x hj => (by have := key j x hj; omega), fun j x hj hx => (by have := key j x hj; omega)⟩, fun j x hj => by have := key j x hj; omega⟩
theorem rInv.zero (l : List Bk) : rInv l (List.replicate l.length 0) 0 0 := rInv.start List.length_replicate fun j x hj => by
  have := List.mem_of_getElem? hj
  rw [List.mem_replicate] at this
  exact this.2
theorem repl_getD (n i : Nat) : (List.replicate n (0 : Int)).getD i 0 = 0 := by
  rw [List.getD_eq_getElem?_getD, List.getElem?_replicate]
  split <;> rfl
end Go.Sx
/-! What is done to heaps, in plain Lean: load, share, drop, store. -/
namespace Go.Sx
open Go
/-! the tree of a held value -/
def ldS (g : V → V) (ss : List Sl) : List (Ky × V) := (ss.filter (·.live)).map fun s => (s.key, g s.val)
def ldF (l : List Bk) : Nat → V → V
  | 0, v => v
  | f + 1, v => if v.kind = 5 then ⟨4, 0, ⟨#[]⟩, (blk l v.num.toNat).tab.next, ldS (ldF l f) (blk l v.num.toNat).tab.slots⟩ else v
theorem ldF_other {l : List Bk} {f : Nat} {v : V} (h : ¬ v.kind = 5) : ldF l f v = v := by
  cases f with
  | zero => rfl
  | succ f => rw [ldF, if_neg h]
theorem ldF_handle {l : List Bk} {f : Nat} {v : V} (h : v.kind = 5) : ldF l (f + 1) v = ⟨4, 0, ⟨#[]⟩, (blk l v.num.toNat).tab.next, ldS (ldF l f) (blk l v.num.toNat).tab.slots⟩ := by rw [ldF, if_pos h]
theorem ldS_snoc {g : V → V} {ss : List Sl} {i : Nat} {s : Sl} (h : ss[i]? = some s) : ldS g (ss.take (i + 1)) = if s.live then ldS g (ss.take i) ++ [(s.key, g s.val)] else ldS g (ss.take i) := by
  unfold ldS
  rw [take_snoc h, List.filter_append, List.map_append]
  cases hl : s.live <;> simp [hl]
theorem ldS_len (g : V → V) (ss : List Sl) : (ldS g ss).length = liveN ss := List.length_map ..
theorem ldS_le (g : V → V) (ss : List Sl) (i : Nat) : (ldS g (ss.take i)).length ≤ i := by
  rw [ldS_len]
  have := liveN_le (ss.take i)
  rw [List.length_take] at this
  omega
/-- a weighed value: not a handle, or its block has a weight by then -/
def weighed (l : List Bk) (f : Nat) (v : V) : Prop := isHeld l v = true ∧ (v.kind = 5 → ∃ n, wtF l f v.num.toNat = some n)
theorem sumW_mem {g : Nat → Option Nat} : ∀ {ss : List Sl} {n : Nat}, sumW g ss = some n → ∀ s ∈ ss, s.live = true → s.val.kind = 5 → ∃ m, g s.val.num.toNat = some m
  | [], _, _, s, hs, _, _ => by cases hs
  | u :: r, n, h, s, hs, hl, hk => by
    rw [sumW] at h
    cases hu : u.live with
    | false =>
      rw [hu] at h
      simp only [Bool.false_eq_true, if_false] at h
      cases hs with
      | head => rw [hl] at hu; cases hu
      | tail _ hs => exact sumW_mem h s hs hl hk
    | true =>
      rw [hu] at h
      simp only [if_true] at h
      cases h1 : (if u.val.kind = 5 then g u.val.num.toNat else some 1) with
      | none => rw [h1] at h; cases h
      | some a =>
        cases h2 : sumW g r with
        | none => rw [h1, h2] at h; cases h
        | some b =>
          cases hs with
          | head => rw [if_pos hk] at h1; exact ⟨a, h1⟩
          | tail _ hs => exact sumW_mem h2 s hs hl hk
theorem weighed.kids {l : List Bk} {f : Nat} {v : V} (hin : inR l) (w : weighed l (f + 1) v) (hk : v.kind = 5) : ∀ (k : Nat) (s : Sl), (blk l v.num.toNat).tab.slots[k]? = some s → s.live = true → weighed l f s.val := by
  intro k s hs hl
  obtain ⟨q1, q2, q3⟩ := held_num w.1 hk
  obtain ⟨n, hn⟩ := w.2 hk
  rw [wtF] at hn
  simp only [Option.map_eq_some_iff] at hn
  obtain ⟨m, hm, _⟩ := hn
  exact ⟨hin _ _ (blk_at q2) k s hs hl, fun h5 => sumW_mem hm s (List.mem_of_getElem? hs) hl h5⟩
theorem hOk.weighed {l : List Bk} (h : hOk l) {v : V} (hv : isHeld l v = true) : weighed l 200 v := by
  refine ⟨hv, fun hk => ?_⟩
  obtain ⟨q1, q2, q3⟩ := held_num hv hk
  obtain ⟨n, hn, hw⟩ := h.light _ _ (blk_at q2) q3
  exact ⟨n, hw.fuel hn⟩
/-- all tables are right enough to be walked -/
def allCh (l : List Bk) : Prop := ∀ (i : Nat) (b : Bk), l[i]? = some b → b.tab.ch
theorem free_tab {b : Bk} (h : b.free = true) : b.tab = tb0 := by
  unfold Bk.free at h
  simp only [Bool.and_eq_true, decide_eq_true_eq, Bool.not_eq_true'] at h
  obtain ⟨h1, h2, h3, h4, h5⟩ := h
  obtain ⟨c, ⟨a1, a2, a3, a4, a5⟩⟩ := b
  simp only at h1 h2 h3 h4 h5 ⊢
  rw [h1, List.eq_nil_of_length_eq_zero h2, List.eq_nil_of_length_eq_zero h3, h4, h5]
  rfl
theorem hOk.ch {l : List Bk} (h : hOk l) : allCh l := by
  intro i b hb
  have := h.blk i b hb
  by_cases hc : b.count = 0
  · rw [bkOk_free hc] at this
    rw [free_tab this]
    exact tb0_ch
  · exact tab_ch ((bkOk_live hc).1 this).2.1
theorem blk_out {l : List Bk} {i : Nat} (h : l.length ≤ i) : blk l i = bk0 := by
  unfold blk
  rw [List.getD_eq_getElem?_getD, List.getElem?_eq_none h]
  rfl
theorem allCh.blk {l : List Bk} (h : allCh l) (i : Nat) : (blk l i).tab.ch := by
  by_cases hi : i < l.length
  · exact h i _ (blk_at hi)
  · rw [blk_out (by omega)]
    exact tb0_ch
/-- how much a loaded tree holds -/
theorem ld_bulk {l : List Bk} (hin : inR l) (hc : allCh l) : ∀ (f : Nat) (v : V), weighed l f v → ∀ n, (v.kind = 5 → wtF l f v.num.toNat = some n) → (¬ v.kind = 5 → n = 1) → (ldF l f v).bulk + 401 ≤ 801 * n
  | 0, v, w, n, h, k => by
    by_cases h5 : v.kind = 5
    · have := h h5
      cases this
    · have e := held_items w.1
      have hb := V.bulk_eq v
      rw [e.1] at hb
      have hz : V.bulks [] = 0 := rfl
      rw [hz] at hb
      have := k h5
      show v.bulk + 401 ≤ _
      omega
  | f + 1, v, w, n, h, k => by
    by_cases h5 : v.kind = 5
    · have hn := h h5
      rw [wtF] at hn
      simp only [Option.map_eq_some_iff] at hn
      obtain ⟨m, hm, rfl⟩ := hn
      rw [ldF_handle h5]
      have hks := (hc.blk v.num.toNat).keys
      have key : ∀ (ss : List Sl) (m : Nat), (∀ s ∈ ss, s.live = true → weighed l f s.val ∧ s.key.str.size ≤ 400) → sumW (wtF l f) ss = some m → V.bulks (ldS (ldF l f) ss) ≤ 801 * m := by
        intro ss
        induction ss with
        | nil => intro m _ hm; simp [ldS, V.bulks]
        | cons s r ih =>
          intro m hs hm
          rw [sumW] at hm
          unfold ldS at ih ⊢
          rw [List.filter_cons]
          cases hl : s.live with
          | false =>
            rw [hl] at hm
            simp only [Bool.false_eq_true, if_false] at hm ⊢
            exact ih m (fun u hu => hs u (by simp [hu])) hm
          | true =>
            rw [hl] at hm
            simp only [if_true] at hm ⊢
            obtain ⟨hw, hsz⟩ := hs s (by simp) hl
            cases h1 : (if s.val.kind = 5 then wtF l f s.val.num.toNat else some 1) with
            | none => rw [h1] at hm; cases hm
            | some a =>
              cases h2 : sumW (wtF l f) r with
              | none => rw [h1, h2] at hm; cases hm
              | some b =>
                rw [h1, h2] at hm
                have e : a + b = m := Option.some.inj hm
                have i1 := ih b (fun u hu => hs u (by simp [hu])) h2
                have i2 := ld_bulk hin hc f s.val hw a (fun q => by rw [if_pos q] at h1; exact h1) (fun q => by rw [if_neg q] at h1; exact (Option.some.inj h1).symm)
                rw [List.map_cons]
                simp only [V.bulks]
                omega
      have hsl : ∀ s ∈ (blk l v.num.toNat).tab.slots, s.live = true → weighed l f s.val ∧ s.key.str.size ≤ 400 := fun s hs hl => by
        obtain ⟨k, hk⟩ := List.getElem?_of_mem hs
        refine ⟨w.kids hin h5 k s hk hl, ?_⟩
        have := (hks k s hk).1
        unfold keyOk at this
        cases ht : s.key.text with
        | true => rw [ht] at this; simp at this; omega
        | false => rw [ht] at this; simp at this; rw [this.1]; exact Nat.zero_le _
      have hq := key _ m hsl hm
      have hb := V.bulk_eq (⟨4, 0, ⟨#[]⟩, (blk l v.num.toNat).tab.next, ldS (ldF l f) (blk l v.num.toNat).tab.slots⟩ : V)
      have e1 : (⟨4, 0, ⟨#[]⟩, (blk l v.num.toNat).tab.next, ldS (ldF l f) (blk l v.num.toNat).tab.slots⟩ : V).items = ldS (ldF l f) (blk l v.num.toNat).tab.slots := rfl
      have e2 : (⟨4, 0, ⟨#[]⟩, (blk l v.num.toNat).tab.next, ldS (ldF l f) (blk l v.num.toNat).tab.slots⟩ : V).str.size = 0 := rfl
      rw [e1, e2] at hb
      omega
    · have e := held_items w.1
      have hb := V.bulk_eq v
      rw [e.1] at hb
      have hz : V.bulks [] = 0 := rfl
      rw [hz] at hb
      have := k h5
      rw [ldF_other h5]
      omega
end Go.Sx
namespace Go.Sx
open Go
/-! sharing -/
def Bk.withC (b : Bk) (n : Int) : Bk := ⟨n, b.tab⟩
def Bk.withT (b : Bk) (t : Tb) : Bk := ⟨b.count, t⟩
def shareH (l : List Bk) (v : V) : List Bk := if v.kind = 5 then l.set v.num.toNat ((blk l v.num.toNat).withC ((blk l v.num.toNat).count + 1)) else l
theorem shareH_len (l : List Bk) (v : V) : (shareH l v).length = l.length := by
  unfold shareH
  split
  · rw [List.length_set]
  · rfl
/-! counts -/
def allHeld (l : List Bk) (roots : List V) : Bool := roots.all (isHeld l)
def sameC (l : List Bk) (c : List Int) : Bool := allIx c.length fun i => decide ((blk l i).count = c.getD i 0)
def countedB (l : List Bk) (roots : List V) : Bool := heapB l && (allHeld l roots && sameC l (counts l roots))
theorem sameC_iff {l : List Bk} {c : List Int} : sameC l c = true ↔ ∀ i, i < c.length → (blk l i).count = c.getD i 0 := by
  unfold sameC
  rw [allIx_iff]
  exact ⟨fun h i hi => of_decide_eq_true (h i hi), fun h i hi => decide_eq_true (h i hi)⟩
theorem counted_no1 {l : List Bk} {rs : List V} (h : heapB l = false) : countedB l rs = false := by unfold countedB; rw [h]; rfl
theorem counted_no2 {l : List Bk} {rs : List V} {v : V} (hv : v ∈ rs) (h : isHeld l v = false) : countedB l rs = false := by
  unfold countedB allHeld
  rw [show rs.all (isHeld l) = false from List.all_eq_false.2 ⟨v, hv, by rw [h]; simp⟩]
  simp
theorem counted_no3 {l : List Bk} {rs : List V} (h : sameC l (counts l rs) = false) : countedB l rs = false := by unfold countedB; rw [h]; simp
theorem counted_yes {l : List Bk} {rs : List V} (h : heapB l = true) (h2 : ∀ v ∈ rs, isHeld l v = true) (h3 : sameC l (counts l rs) = true) : countedB l rs = true := by
  unfold countedB allHeld
  rw [h, h3, List.all_eq_true.2 h2]
  rfl
/-! dropping -/
def slotsN (l : List Bk) : Nat := gsum (fun b : Bk => b.tab.slots.length) l
def dropS (g : List Bk → V → List Bk) : List Bk → List Sl → List Bk
  | l, [] => l
  | l, s :: r => dropS g (if s.live then g l s.val else l) r
def dropF : Nat → List Bk → V → List Bk
  | 0, l, _ => l
  | f + 1, l, v => if v.kind = 5 then
      (if 0 < (blk l v.num.toNat).count - 1 then l.set v.num.toNat ((blk l v.num.toNat).withC ((blk l v.num.toNat).count - 1))
       else dropS (dropF f) (l.set v.num.toNat bk0) (blk l v.num.toNat).tab.slots)
    else l
theorem dropS_append (g : List Bk → V → List Bk) (p q : List Sl) : ∀ l, dropS g l (p ++ q) = dropS g (dropS g l p) q := by
  induction p with
  | nil => intro l; rfl
  | cons e r ih => intro l; rw [List.cons_append, dropS, dropS, ih]
theorem dropS_snoc {g : List Bk → V → List Bk} {l : List Bk} {ss : List Sl} {i : Nat} {s : Sl} (h : ss[i]? = some s) : dropS g l (ss.take (i + 1)) = if s.live then g (dropS g l (ss.take i)) s.val else dropS g l (ss.take i) := by
  rw [take_snoc h, dropS_append]
  rfl
theorem gsum_set {α : Type} {w : α → Nat} {l : List α} {i : Nat} {a : α} (h : l[i]? = some a) (u : α) : gsum w (l.set i u) + w a = gsum w l + w u := by
  have hi := (List.getElem?_eq_some_iff.1 h).1
  have e1 : l = l.take i ++ a :: l.drop (i + 1) := at_split h
  rw [set_split u hi]
  conv => rhs; rw [e1]
  simp only [gsum, List.map_append, List.map_cons, List.sum_append, List.sum_cons]
  omega
theorem blk_set_ne {l : List Bk} {i j : Nat} {b : Bk} (h : ¬ i = j) : blk (l.set i b) j = blk l j := by
  unfold blk
  rw [List.getD_eq_getElem?_getD, List.getD_eq_getElem?_getD, List.getElem?_set, if_neg h]
theorem blk_set_same {l : List Bk} {i : Nat} {b : Bk} (h : i < l.length) : blk (l.set i b) i = b := by
  unfold blk
  rw [List.getD_eq_getElem?_getD, List.getElem?_set, if_pos rfl, if_pos h]
  rfl
/-- what is right of a heap all through: handles within it, tables that can be walked, counts from 0 on -/
structure hIn (n : Nat) (c : Int) (l : List Bk) : Prop where
  len : l.length = n
  num : ∀ (i : Nat) (b : Bk), l[i]? = some b → ∀ (k : Nat) (s : Sl), b.tab.slots[k]? = some s → s.live = true → s.val.kind = 5 → 0 ≤ s.val.num ∧ s.val.num.toNat < n
  cnt : ∀ (i : Nat) (b : Bk), l[i]? = some b → 0 ≤ b.count ∧ b.count ≤ c
theorem hOk.hIn {l : List Bk} (h : hOk l) : hIn l.length 1000000000000 l := by
  refine ⟨rfl, fun i b hb k s hs hl h5 => ?_, fun i b hb => ?_⟩
  · obtain ⟨q1, q2, _⟩ := held_num (h.inR i b hb k s hs hl) h5
    exact ⟨q1, q2⟩
  · have := h.blk i b hb
    by_cases hc : b.count = 0
    · omega
    · have := ((bkOk_live hc).1 this).1
      omega
theorem set_getB {l : List Bk} {i j : Nat} {b u : Bk} (h : (l.set i u)[j]? = some b) : (j = i ∧ b = u) ∨ l[j]? = some b := by
  rw [List.getElem?_set] at h
  split at h
  · rename_i he
    split at h
    · cases h; exact .inl ⟨he.symm, rfl⟩
    · cases h
  · exact .inr h
/-- a block with fewer references, or none of its slots -/
theorem hIn.set {n : Nat} {c : Int} {l : List Bk} (h : hIn n c l) (i : Nat) {u : Bk} (hs : u.tab.slots = (blk l i).tab.slots ∨ u.tab.slots = []) (hc : 0 ≤ u.count ∧ u.count ≤ c) : hIn n c (l.set i u) := by
  refine ⟨by rw [List.length_set, h.len], fun j b hb k s hk hl h5 => ?_, fun j b hb => ?_⟩
  · rcases set_getB hb with ⟨rfl, rfl⟩ | hb
    · rcases hs with hs | hs
      · rw [hs] at hk
        by_cases hj : j < l.length
        · exact h.num j _ (blk_at hj) k s hk hl h5
        · rw [blk_out (by omega)] at hk
          simp [bk0] at hk
      · rw [hs] at hk
        simp at hk
    · exact h.num j b hb k s hk hl h5
  · rcases set_getB hb with ⟨rfl, rfl⟩ | hb
    · exact hc
    · exact h.cnt j b hb
theorem hIn.up {n : Nat} {c c' : Int} {l : List Bk} (h : hIn n c l) (hc : c ≤ c') : hIn n c' l := ⟨h.len, h.num, fun i b hb => by have := h.cnt i b hb; omega⟩
theorem hIn.blk {n : Nat} {c : Int} {l : List Bk} (h : hIn n c l) {i : Nat} (hi : i < n) : (0 ≤ (blk l i).count ∧ (blk l i).count ≤ c) ∧ ∀ s ∈ (blk l i).tab.slots, s.live = true → s.val.kind = 5 → 0 ≤ s.val.num ∧ s.val.num.toNat < n := by
  have hb := blk_at (l := l) (i := i) (by rw [h.len]; exact hi)
  refine ⟨h.cnt i _ hb, fun s hs hl h5 => ?_⟩
  obtain ⟨k, hk⟩ := List.getElem?_of_mem hs
  exact h.num i _ hb k s hk hl h5
/-- a reference that lies within the heap -/
def refIn (n : Nat) (v : V) : Prop := v.kind = 5 → 0 ≤ v.num ∧ v.num.toNat < n
theorem held_ref {l : List Bk} {v : V} (h : isHeld l v = true) : refIn l.length v := fun k => by
  obtain ⟨q1, q2, _⟩ := held_num h k
  exact ⟨q1, q2⟩
theorem slotsN_set {l : List Bk} {i : Nat} (hi : i < l.length) (u : Bk) : slotsN (l.set i u) + (blk l i).tab.slots.length = slotsN l + u.tab.slots.length := gsum_set (w := fun b : Bk => b.tab.slots.length) (blk_at hi) u
/-- dropping keeps what is right; slots go away only -/
theorem drop_in {n : Nat} {c : Int} : ∀ (f : Nat) (l : List Bk) (v : V), hIn n c l → refIn n v → hIn n c (dropF f l v) ∧ slotsN (dropF f l v) ≤ slotsN l
  | 0, l, v, h, _ => ⟨h, Nat.le_refl _⟩
  | f + 1, l, v, h, hr => by
    rw [dropF]
    split
    · rename_i h5
      obtain ⟨q1, q2⟩ := hr h5
      obtain ⟨hc, hs⟩ := h.blk q2
      split
      · refine ⟨h.set _ (.inl rfl) (by show 0 ≤ (blk l v.num.toNat).count - 1 ∧ (blk l v.num.toNat).count - 1 ≤ _; omega), ?_⟩
        have := slotsN_set (l := l) (by rw [h.len]; exact q2) ((blk l v.num.toNat).withC ((blk l v.num.toNat).count - 1))
        have e : ((blk l v.num.toNat).withC ((blk l v.num.toNat).count - 1)).tab.slots.length = (blk l v.num.toNat).tab.slots.length := rfl
        omega
      · have h0 : hIn n c (l.set v.num.toNat bk0) := h.set _ (.inr rfl) ⟨Int.le_refl _, by show (0 : Int) ≤ c; omega⟩
        have t0 := slotsN_set (l := l) (by rw [h.len]; exact q2) bk0
        have e : bk0.tab.slots.length = 0 := rfl
        have key : ∀ (ss : List Sl) (l' : List Bk), (∀ s ∈ ss, s.live = true → s.val.kind = 5 → 0 ≤ s.val.num ∧ s.val.num.toNat < n) → hIn n c l' → hIn n c (dropS (dropF f) l' ss) ∧ slotsN (dropS (dropF f) l' ss) ≤ slotsN l' := by
          intro ss
          induction ss with
          | nil => intro l' _ h'; exact ⟨h', Nat.le_refl _⟩
          | cons s r ih =>
            intro l' hr' h'
            rw [dropS]
            cases hl : s.live with
            | false =>
              simp only [Bool.false_eq_true, if_false]
              exact ih l' (fun u hu => hr' u (by simp [hu])) h'
            | true =>
              simp only [if_true]
              obtain ⟨i1, i2⟩ := drop_in f l' s.val h' (hr' s (by simp) hl)
              obtain ⟨i3, i4⟩ := ih _ (fun u hu => hr' u (by simp [hu])) i1
              exact ⟨i3, by omega⟩
        obtain ⟨i1, i2⟩ := key _ _ hs h0
        exact ⟨i1, by omega⟩
    · exact ⟨h, Nat.le_refl _⟩
/-- the same, along slots -/
theorem drops_in {n : Nat} {c : Int} (f : Nat) : ∀ (ss : List Sl) (l : List Bk), (∀ s ∈ ss, s.live = true → s.val.kind = 5 → 0 ≤ s.val.num ∧ s.val.num.toNat < n) → hIn n c l → hIn n c (dropS (dropF f) l ss) ∧ slotsN (dropS (dropF f) l ss) ≤ slotsN l
  | [], l, _, h => ⟨h, Nat.le_refl _⟩
  | s :: r, l, hr, h => by
    rw [dropS]
    cases hl : s.live with
    | false =>
      simp only [Bool.false_eq_true, if_false]
      exact drops_in f r l (fun u hu => hr u (by simp [hu])) h
    | true =>
      simp only [if_true]
      obtain ⟨i1, i2⟩ := drop_in f l s.val h (hr s (by simp) hl)
      obtain ⟨i3, i4⟩ := drops_in f r _ (fun u hu => hr u (by simp [hu])) i1
      exact ⟨i3, by omega⟩
def dropOf (l : List Bk) (roots : List V) (i : Int) : List Bk × Bool :=
  if decide (0 ≤ i ∧ i ≤ (roots.length : Int) - 1) && countedB l roots then (dropF (slotsN l + 1) l (roots.getD i.toNat V.zero), true) else (l, false)
/-! how much heaps hold -/
theorem szG_set {α : Type} {w : α → Nat} {l : List α} {i : Nat} {a : α} (h : l[i]? = some a) (u : α) : szG w (l.set i u) + w a = szG w l + w u := by
  have := gsum_set (w := w) h u
  unfold szG
  rw [List.length_set]
  omega
theorem setB_bulk {l : List Bk} {i : Nat} (u : Bk) (h : u.tab.bulk ≤ (blk l i).tab.bulk) : szG Bk.bulk (l.set i u) ≤ szG Bk.bulk l := by
  by_cases hi : i < l.length
  · have := szG_set (w := Bk.bulk) (blk_at hi) u
    have e1 : Bk.bulk u = u.tab.bulk := rfl
    have e2 : Bk.bulk (blk l i) = (blk l i).tab.bulk := rfl
    omega
  · rw [List.set_eq_of_length_le (by omega)]
    exact Nat.le_refl _
theorem drop_bulk : ∀ (f : Nat) (l : List Bk) (v : V), szG Bk.bulk (dropF f l v) ≤ szG Bk.bulk l
  | 0, l, v => Nat.le_refl _
  | f + 1, l, v => by
    rw [dropF]
    split
    · split
      · exact setB_bulk _ (Nat.le_refl _)
      · have h0 := setB_bulk (l := l) (i := v.num.toNat) bk0 (Nat.zero_le _)
        have key : ∀ (ss : List Sl) (l' : List Bk), szG Bk.bulk (dropS (dropF f) l' ss) ≤ szG Bk.bulk l' := by
          intro ss
          induction ss with
          | nil => intro l'; exact Nat.le_refl _
          | cons s r ih =>
            intro l'
            rw [dropS]
            have := ih (if s.live then dropF f l' s.val else l')
            split at this
            · rename_i hl
              have := drop_bulk f l' s.val
              rw [if_pos hl]
              omega
            · rename_i hl
              rw [if_neg hl]
              omega
        have := key (blk l v.num.toNat).tab.slots (l.set v.num.toNat bk0)
        omega
    · exact Nat.le_refl _
/-! storing -/
/-- the first free block -/
def freeN : List Bk → Nat
  | [] => 0
  | b :: r => if 0 < b.count then freeN r + 1 else 0
theorem freeN_le : ∀ l : List Bk, freeN l ≤ l.length
  | [] => Nat.le_refl _
  | b :: r => by
    have := freeN_le r
    rw [freeN, List.length_cons]
    split <;> omega
theorem freeN_before : ∀ {l : List Bk} {i : Nat} {b : Bk}, i < freeN l → l[i]? = some b → 0 < b.count
  | [], i, b, h, hb => by simp at hb
  | u :: r, 0, b, h, hb => by
    rw [freeN] at h
    simp only [List.getElem?_cons_zero, Option.some.injEq] at hb
    subst hb
    split at h
    · assumption
    · omega
  | u :: r, i + 1, b, h, hb => by
    rw [freeN] at h
    simp only [List.getElem?_cons_succ] at hb
    split at h
    · exact freeN_before (l := r) (by omega) hb
    · omega
theorem freeN_at : ∀ {l : List Bk} {b : Bk}, l[freeN l]? = some b → ¬ 0 < b.count
  | [], b, hb => by simp at hb
  | u :: r, b, hb => by
    rw [freeN] at hb
    split at hb
    · simp only [List.getElem?_cons_succ] at hb
      exact freeN_at hb
    · rename_i h
      simp only [List.getElem?_cons_zero, Option.some.injEq] at hb
      subst hb
      exact h
theorem freeN_is {l : List Bk} {i : Nat} (h1 : ∀ (j : Nat) (b : Bk), j < i → l[j]? = some b → 0 < b.count) (hi : i ≤ l.length) (h2 : ∀ b, l[i]? = some b → ¬ 0 < b.count) : freeN l = i := by
  rcases Nat.lt_trichotomy (freeN l) i with h | h | h
  · have := blk_at (l := l) (i := freeN l) (by omega)
    exact absurd (h1 _ _ h this) (freeN_at this)
  · exact h
  · have hl := freeN_le l
    have := blk_at (l := l) (i := i) (by omega)
    exact absurd (freeN_before h this) (h2 _ this)
def hnd (i : Nat) : V := ⟨5, (i : Nat), ⟨#[]⟩, 0, []⟩
def allocH (l : List Bk) (t : Tb) : List Bk := if freeN l < l.length then l.set (freeN l) ⟨1, t⟩ else l ++ [⟨1, t⟩]
theorem allocH_len (l : List Bk) (t : Tb) : l.length ≤ (allocH l t).length ∧ (allocH l t).length ≤ l.length + 1 ∧ freeN l < (allocH l t).length := by
  have := freeN_le l
  unfold allocH
  split
  · rw [List.length_set]; omega
  · rw [List.length_append, List.length_singleton]; omega
theorem allocH_bulk (l : List Bk) (t : Tb) : szG Bk.bulk (allocH l t) ≤ szG Bk.bulk l + 1 + t.bulk := by
  unfold allocH
  split
  · rename_i h
    have := szG_set (w := Bk.bulk) (blk_at h) ⟨1, t⟩
    have e1 : Bk.bulk ⟨1, t⟩ = t.bulk := rfl
    omega
  · rw [szG_append, szG_one]
    have e1 : Bk.bulk ⟨1, t⟩ = t.bulk := rfl
    omega
mutual
def sto : V → List Bk → List Bk × V
  | ⟨k, n, s, x, es⟩, l => if k = 4 then (allocH (stoE es l tb0).1 ((stoE es l tb0).2.withN x), hnd (freeN (stoE es l tb0).1)) else (l, ⟨k, n, s, x, es⟩)
def stoE : List (Ky × V) → List Bk → Tb → List Bk × Tb
  | [], l, t => (l, t)
  | (k, v) :: r, l, t => stoE r (sto v l).1 (t.put k (sto v l).2)
end
theorem sto_arr {v : V} {l : List Bk} (h : v.kind = 4) : sto v l = (allocH (stoE v.items l tb0).1 ((stoE v.items l tb0).2.withN v.next), hnd (freeN (stoE v.items l tb0).1)) := by
  obtain ⟨k, n, s, x, es⟩ := v
  have h : k = 4 := h
  rw [sto, if_pos h]
  rfl
theorem sto_other {v : V} {l : List Bk} (h : ¬ v.kind = 4) : sto v l = (l, v) := by
  obtain ⟨k, n, s, x, es⟩ := v
  have h : ¬ k = 4 := h
  rw [sto, if_neg h]
theorem stoE_nil (l : List Bk) (t : Tb) : stoE [] l t = (l, t) := by rw [stoE]
theorem stoE_cons (e : Ky × V) (r : List (Ky × V)) (l : List Bk) (t : Tb) : stoE (e :: r) l t = stoE r (sto e.2 l).1 (t.put e.1 (sto e.2 l).2) := by
  obtain ⟨k, v⟩ := e
  rw [stoE]
theorem stoE_append (q : List (Ky × V)) : ∀ (p : List (Ky × V)) (l : List Bk) (t : Tb), stoE (p ++ q) l t = stoE q (stoE p l t).1 (stoE p l t).2
  | [], l, t => by rw [List.nil_append, stoE_nil]
  | e :: r, l, t => by rw [List.cons_append, stoE_cons, stoE_append q r, stoE_cons]
theorem stoE_snoc {es : List (Ky × V)} {i : Nat} {e : Ky × V} (h : es[i]? = some e) (l : List Bk) (t : Tb) : stoE (es.take (i + 1)) l t = ((sto e.2 (stoE (es.take i) l t).1).1, (stoE (es.take i) l t).2.put e.1 (sto e.2 (stoE (es.take i) l t).1).2) := by
  rw [take_snoc h, stoE_append, stoE_cons, stoE_nil]
/-- the table on the way is right -/
theorem stoE_ok : ∀ {es : List (Ky × V)} {l : List Bk} {t : Tb}, t.ch → (∀ e ∈ es, keyOk e.1 = true) → liveN t.slots + es.length ≤ 1024 → (stoE es l t).2.ch ∧ liveN (stoE es l t).2.slots ≤ liveN t.slots + es.length
  | [], l, t, c, _, _ => by rw [stoE_nil]; exact ⟨c, Nat.le_refl _⟩
  | e :: r, l, t, c, hk, hl => by
    rw [List.length_cons] at hl
    have c1 := c.put (k := e.1) (sto e.2 l).2 (hk e (by simp)) fun _ => by omega
    have l1 := put_live c e.1 (sto e.2 l).2 fun _ => by omega
    have := stoE_ok (es := r) (l := (sto e.2 l).1) c1 (fun u hu => hk u (by simp [hu])) (by omega)
    rw [stoE_cons, List.length_cons]
    exact ⟨this.1, by omega⟩
theorem stoE_at {es : List (Ky × V)} (l : List Bk) (hk : ∀ e ∈ es, keyOk e.1 = true) (hl : es.length < 200) (i : Nat) : (stoE (es.take i) l tb0).2.ch ∧ (i < es.length → liveN (stoE (es.take i) l tb0).2.slots < 1024) := by
  have h2 : (es.take i).length ≤ es.length := by rw [List.length_take]; omega
  have e0 : liveN tb0.slots = 0 := rfl
  obtain ⟨q1, q2⟩ := stoE_ok (es := es.take i) (l := l) tb0_ch (fun e he => hk e (List.mem_of_mem_take he)) (by omega)
  exact ⟨q1, fun hi => by omega⟩
theorem hnd_bulk (i : Nat) : (hnd i).bulk = 0 := rfl
mutual
theorem sto_bulk : ∀ (v : V) (l : List Bk), szG Bk.bulk (sto v l).1 + (sto v l).2.bulk ≤ szG Bk.bulk l + 65538 * v.bulk + 1 ∧ (sto v l).1.length ≤ l.length + 1 + 2 * v.bulk
  | ⟨k, n, s, x, es⟩, l => by
    rw [sto]
    simp only [V.bulk]
    split
    · obtain ⟨h1, h2⟩ := stoE_bulk es l tb0
      have h4 := allocH_bulk (stoE es l tb0).1 ((stoE es l tb0).2.withN x)
      have h5 := (allocH_len (stoE es l tb0).1 ((stoE es l tb0).2.withN x)).2.1
      have e : ((stoE es l tb0).2.withN x).bulk = (stoE es l tb0).2.bulk := rfl
      have e0 : tb0.bulk = 0 := rfl
      simp only [hnd_bulk]
      omega
    · simp only [V.bulk]
      omega
theorem stoE_bulk : ∀ (es : List (Ky × V)) (l : List Bk) (t : Tb), szG Bk.bulk (stoE es l t).1 + (stoE es l t).2.bulk ≤ szG Bk.bulk l + t.bulk + 65538 * V.bulks es ∧ (stoE es l t).1.length ≤ l.length + 2 * V.bulks es
  | [], l, t => by rw [stoE_nil]; simp only; omega
  | (k, v) :: r, l, t => by
    rw [stoE]
    obtain ⟨h1, h3⟩ := sto_bulk v l
    obtain ⟨h4, h5⟩ := stoE_bulk r (sto v l).1 (t.put k (sto v l).2)
    have h6 := t.put_bulk k (sto v l).2
    simp only [V.bulks]
    omega
end
end Go.Sx
/-! A value written where a path leads, in plain Lean. -/
namespace Go.Sx
open Go
namespace V
def arr : V := ⟨4, 0, ⟨#[]⟩, 0, []⟩
def asArr (v : V) : V := if v.kind = 0 then arr else v
def put : V → List Ky → Bool → V → V × Int
  | v, [], push, x => if push then (if ¬ v.asArr.kind = 4 then (v.asArr, 6) else if ¬ (0 ≤ v.asArr.next ∧ v.asArr.next ≤ 1000000000) then (v.asArr, 7) else (v.asArr.setKey ⟨false, v.asArr.next, ⟨#[]⟩⟩ x, 0)) else (x, 0)
  | v, k :: r, push, x => if ¬ v.asArr.kind = 4 then (v.asArr, 6) else if (put ((v.asArr.get k).getD null) r push x).2 = 0 then (v.asArr.setKey k (put ((v.asArr.get k).getD null) r push x).1, 0) else (v.asArr, (put ((v.asArr.get k).getD null) r push x).2)
theorem asArr_null {v : V} (h : v.kind = 0) : v.asArr = arr := by unfold asArr; rw [if_pos h]
theorem asArr_other {v : V} (h : ¬ v.kind = 0) : v.asArr = v := by unfold asArr; rw [if_neg h]
theorem put_nil_f (v x : V) : v.put [] false x = (x, 0) := by rw [put]; rfl
theorem put_nil_t (v x : V) : v.put [] true x = if ¬ v.asArr.kind = 4 then (v.asArr, 6) else if ¬ (0 ≤ v.asArr.next ∧ v.asArr.next ≤ 1000000000) then (v.asArr, 7) else (v.asArr.setKey ⟨false, v.asArr.next, ⟨#[]⟩⟩ x, 0) := by rw [put]; rfl
theorem put_cons (v : V) (k : Ky) (r : List Ky) (push : Bool) (x : V) : v.put (k :: r) push x = if ¬ v.asArr.kind = 4 then (v.asArr, 6) else if (put ((v.asArr.get k).getD null) r push x).2 = 0 then (v.asArr.setKey k (put ((v.asArr.get k).getD null) r push x).1, 0) else (v.asArr, (put ((v.asArr.get k).getD null) r push x).2) := by rw [put]
end V
theorem getD_bulk (v : V) (k : Ky) : V.bulks ((v.get k).getD V.null).items ≤ V.bulks v.items := by
  cases hg : v.get k with
  | none => exact Nat.zero_le _
  | some x => exact V.get_bulk hg
theorem asArr_bulk (v : V) : V.bulks v.asArr.items ≤ V.bulks v.items ∧ v.asArr.bulk ≤ v.bulk := by
  unfold V.asArr
  split
  · exact ⟨Nat.zero_le _, Nat.zero_le _⟩
  · exact ⟨Nat.le_refl _, Nat.le_refl _⟩
def kbulk (p : List Ky) : Nat := (p.map fun k => 1 + k.str.size).sum
theorem setKey_bulk2 (o : V) (k : Ky) (x : V) : V.bulks (o.setKey k x).items + ((o.get k).getD V.null).bulk ≤ V.bulks o.items + (1 + (k.str.size + x.bulk)) := by
  unfold V.setKey
  cases hf : o.find k with
  | none =>
    rw [V.find_none hf]
    show V.bulks (o.items ++ [(k, x)]) + V.null.bulk ≤ _
    have h0 : V.null.bulk = 0 := rfl
    rw [bulks_append, h0]
    simp only [V.bulks]
    omega
  | some i =>
    obtain ⟨y, hy, hg, hlt⟩ := V.find_get hf
    rw [hg]
    simp only [V.setAt, hy, Option.getD_some]
    have hs : V.bulks o.items = V.bulks (o.items.take i) + (1 + (k.str.size + y.bulk) + V.bulks (o.items.drop (i + 1))) := by
      conv => lhs; rw [← List.take_append_drop i o.items, drop_cons hy, bulks_append]
      simp only [V.bulks]
    show V.bulks (o.items.take i ++ (k, x) :: o.items.drop (i + 1)) + _ ≤ _
    rw [bulks_append]
    simp only [V.bulks]
    omega
theorem put_bulk : ∀ (p : List Ky) (v : V) (push : Bool) (x : V), (v.put p push x).1.bulk ≤ v.bulk + kbulk p + (1 + x.bulk)
  | [], v, push, x => by
    have ha := (asArr_bulk v).2
    cases push with
    | false => rw [V.put_nil_f]; simp only; omega
    | true =>
      rw [V.put_nil_t]
      have hs := setKey_bulk v.asArr ⟨false, v.asArr.next, ⟨#[]⟩⟩ x
      have e0 : (⟨#[]⟩ : ByteArray).size = 0 := rfl
      simp only [e0] at hs
      split
      · simp only; omega
      · split
        · simp only; omega
        · have h1 := V.bulk_eq (v.asArr.setKey ⟨false, v.asArr.next, ⟨#[]⟩⟩ x)
          have h2 := V.bulk_eq v.asArr
          rw [hs.2.1] at h1
          simp only
          omega
  | k :: r, v, push, x => by
    rw [V.put_cons]
    have ha := (asArr_bulk v).2
    have hk : kbulk (k :: r) = 1 + k.str.size + kbulk r := by simp [kbulk]
    split
    · simp only; omega
    · have ih := put_bulk r ((v.asArr.get k).getD V.null) push x
      split
      · have h1 := setKey_bulk2 v.asArr k (V.put ((v.asArr.get k).getD V.null) r push x).1
        have h2 := V.bulk_eq (v.asArr.setKey k (V.put ((v.asArr.get k).getD V.null) r push x).1)
        have h3 := V.bulk_eq v.asArr
        rw [(setKey_bulk v.asArr k (V.put ((v.asArr.get k).getD V.null) r push x).1).2.1] at h2
        simp only
        omega
      · simp only; omega
end Go.Sx
/-! Loaded trees are values; where a key stands in a table; a value written into a shared heap. -/
namespace Go.Sx
open Go
/-! a chain finds every live slot of its bucket -/
theorem chain_full {size : Nat} (hs : 0 < size) {ss : List Sl} {k : Ky} (hb : Back ss) (hl : ∀ (i : Nat) (s : Sl), ss[i]? = some s → (hdsN size ss i)[s.key.hash % size]? = some s.link) : ∀ n, n ≤ ss.length → chain ss k ((hdsN size ss n).getD (k.hash % size) (-1)) = none →
    ∀ (i : Nat) (s : Sl), i < n → ss[i]? = some s → s.live = true → ¬ s.key = k
  | 0, _, _, i, s, h, _, _ => by omega
  | n + 1, hn, hc, i, s, hi, hg, hv => by
    obtain ⟨u, hu, _⟩ := get_lt (l := ss) (i := n) (by omega)
    have hlen := hdsN_len size ss n
    have hm := Nat.mod_lt k.hash hs
    rw [hdsN_succ hu] at hc
    by_cases hbk : u.key.hash % size = k.hash % size
    · have e1 : ((hdsN size ss n).set (u.key.hash % size) (n : Nat)).getD (k.hash % size) (-1) = (n : Int) := by
        rw [hbk, List.getD_eq_getElem?_getD, List.getElem?_set, if_pos rfl, if_pos (by omega)]
        rfl
      rw [e1] at hc
      have hun : ss[((n : Nat) : Int).toNat]? = some u := by
        rw [show ((n : Nat) : Int).toNat = n by omega]
        exact hu
      by_cases hit : u.live = true ∧ u.key = k
      · rw [chain_hit (by omega) hun hit] at hc
        cases hc
      · rw [chain_miss hb (by omega) hun hit] at hc
        have hlk := hl n u hu
        rw [hbk] at hlk
        have e2 : (hdsN size ss n).getD (k.hash % size) (-1) = u.link := by rw [List.getD_eq_getElem?_getD, hlk]; rfl
        by_cases he : i = n
        · subst he
          rw [hu] at hg
          cases hg
          exact fun q => hit ⟨hv, q⟩
        · exact chain_full hs hb hl n (by omega) (by rw [e2]; exact hc) i s (by omega) hg hv
    · have e1 : ((hdsN size ss n).set (u.key.hash % size) (n : Nat)).getD (k.hash % size) (-1) = (hdsN size ss n).getD (k.hash % size) (-1) := by
        rw [List.getD_eq_getElem?_getD, List.getD_eq_getElem?_getD, List.getElem?_set, if_neg hbk]
      rw [e1] at hc
      by_cases he : i = n
      · subst he
        rw [hu] at hg
        cases hg
        exact fun q => hbk (by rw [q])
      · exact chain_full hs hb hl n (by omega) hc i s (by omega) hg hv
/-- in a right table a key that is not found stands in no live slot -/
theorem Tb.wf.find_none {t : Tb} (w : t.wf) {k : Ky} (h : t.find k = none) : ∀ s ∈ t.slots, s.live = true → ¬ s.key = k := by
  intro s hs hv
  obtain ⟨i, hi⟩ := List.getElem?_of_mem hs
  cases ht : t.hashed with
  | true =>
    obtain ⟨h1, h2, h3, h4, h5⟩ := w.hash ht
    have hc : chain t.slots k (t.heads.getD (k.hash % t.heads.length) (-1)) = none := by
      unfold Tb.find at h
      rwa [if_pos ht] at h
    have hb := w.ch.back ht
    rw [show t.heads.getD (k.hash % t.heads.length) (-1) = (hdsN t.heads.length t.slots t.slots.length).getD (k.hash % t.heads.length) (-1) from by rw [← h5]] at hc
    exact chain_full (by omega) hb h4 t.slots.length (Nat.le_refl _) hc i s (lt_of_get hi) hi hv
  | false =>
    intro hk
    have e := ((w.packed ht).2.2.2 i s hi).1
    unfold Tb.find at h
    rw [if_neg (by rw [ht]; simp)] at h
    rw [if_pos ?_] at h
    · cases h
    · rw [← hk, e]
      refine ⟨rfl, rfl, by show (0 : Int) ≤ (i : Nat); omega, ?_⟩
      show ((t.slots[((i : Nat) : Int).toNat]?).map (·.live)).getD false = true
      rw [show ((i : Nat) : Int).toNat = i by omega, hi]
      exact hv
theorem Tb.find_key {t : Tb} (c : t.ch) {k : Ky} {j : Nat} (h : t.find k = some j) : ∃ s, t.slots[j]? = some s ∧ s.live = true ∧ s.key = k := by
  have h0 := h
  unfold Tb.find at h
  split at h
  · exact chain_some _ _ _ h
  · rename_i ht
    have ht : t.hashed = false := by simpa using ht
    split at h
    · rename_i hq
      cases h
      obtain ⟨q1, q2, q3, q4⟩ := hq
      obtain ⟨s, hs, hl⟩ := Tb.find_live h0
      have e := (c.packed ht).2 _ s hs
      refine ⟨s, hs, hl, ?_⟩
      rw [e]
      obtain ⟨kt, kn, ks⟩ := k
      simp only at q1 q2 q3
      subst q1 q2
      have : ((kn.toNat : Nat) : Int) = kn := by omega
      simp only [this]
    · cases h
/-- keys of the live slots stand once -/
theorem Tb.wf.keys_once {t : Tb} (w : t.wf) : (liveK t.slots).Nodup := by
  have key : ∀ n, n ≤ t.slots.length → (liveK (t.slots.take n)).Nodup := by
    intro n
    induction n with
    | zero => intro _; simp [liveK]
    | succ n ih =>
      intro hn
      obtain ⟨s, hs, _⟩ := get_lt (l := t.slots) (i := n) (by omega)
      rw [liveK_snoc hs]
      split
      · rename_i hl
        rw [List.nodup_append]
        refine ⟨ih (by omega), by simp, fun a ha b hb hab => ?_⟩
        simp only [List.mem_singleton] at hb
        subst hab
        subst hb
        obtain ⟨j, u, hj, hu, lu, eu⟩ := mem_liveK.1 ha
        exact w.dist n j s u hj hs hu hl lu eu
      · exact ih (by omega)
  have := key t.slots.length (Nat.le_refl _)
  rwa [List.take_length] at this
theorem ldS_keys (g : V → V) : ∀ ss : List Sl, (ldS g ss).map (·.1) = liveK ss := fun ss => by
  unfold ldS liveK
  rw [List.map_map]
  rfl
/-! the value of a key: in the heap, and in the tree -/
def innerH (l : List Bk) (i : Nat) (k : Ky) : V := match (blk l i).tab.find k with
  | some j => (((blk l i).tab.slots[j]?).map (·.val)).getD V.zero
  | none => V.zero
def inner0 (l : List Bk) (v : V) (k : Ky) : V := if v.kind = 5 then innerH l v.num.toNat k else V.zero
theorem innerH_some {l : List Bk} {i j : Nat} {k : Ky} {s : Sl} (h : (blk l i).tab.find k = some j) (hs : (blk l i).tab.slots[j]? = some s) : innerH l i k = s.val := by
  unfold innerH
  rw [h]
  simp only [hs]
  rfl
theorem innerH_none {l : List Bk} {i : Nat} {k : Ky} (h : (blk l i).tab.find k = none) : innerH l i k = V.zero := by
  unfold innerH
  rw [h]
theorem fk_nodup {es : List (Ky × V)} {k : Ky} {x : V} (hd : (es.map (·.1)).Nodup) (hm : (k, x) ∈ es) (n : Nat) : ∃ j, fk es k n = some (n + j) ∧ es[j]? = some (k, x) := by
  induction es generalizing n with
  | nil => cases hm
  | cons e r ih =>
    rw [List.map_cons, List.nodup_cons] at hd
    by_cases he : e.1 = k
    · refine ⟨0, by rw [fk, if_pos he]; rfl, ?_⟩
      cases hm with
      | head => rfl
      | tail _ hm => exact absurd (List.mem_map.2 ⟨(k, x), hm, rfl⟩) (by rw [← he]; exact hd.1)
    · rcases List.mem_cons.1 hm with hm | hm
      · rw [← hm] at he
        exact absurd rfl he
      · obtain ⟨j, h1, h2⟩ := ih hd.2 hm (n + 1)
        refine ⟨j + 1, by rw [fk, if_neg he, h1]; congr 1; omega, by simpa using h2⟩
theorem get_ld {l : List Bk} (h : hOk l) {f : Nat} {v : V} (w : weighed l (f + 1) v) (h5 : v.kind = 5) (k : Ky) : ((ldF l (f + 1) v).get k).getD V.null = ldF l f (innerH l v.num.toNat k) := by
  obtain ⟨q1, q2, q3⟩ := held_num w.1 h5
  have hbk := h.blk _ _ (blk_at q2)
  have wt := (blk l v.num.toNat).tab.isTab_iff.1 ((bkOk_live (by omega)).1 hbk).2.1
  rw [ldF_handle h5]
  have hfind : (⟨4, 0, ⟨#[]⟩, (blk l v.num.toNat).tab.next, ldS (ldF l f) (blk l v.num.toNat).tab.slots⟩ : V).find k = fk (ldS (ldF l f) (blk l v.num.toNat).tab.slots) k 0 := rfl
  cases hf : (blk l v.num.toNat).tab.find k with
  | some j =>
    obtain ⟨s, hs, hl, hk⟩ := Tb.find_key wt.ch hf
    have hm : (k, ldF l f s.val) ∈ ldS (ldF l f) (blk l v.num.toNat).tab.slots := by
      unfold ldS
      simp only [List.mem_map, List.mem_filter]
      exact ⟨s, ⟨List.mem_of_getElem? hs, hl⟩, by rw [hk]⟩
    obtain ⟨i, h1, h2⟩ := fk_nodup (by rw [ldS_keys]; exact wt.keys_once) hm 0
    rw [innerH_some hf hs]
    unfold V.get
    rw [hfind, h1]
    show (Option.bind (some (0 + i)) fun i => ((ldS (ldF l f) (blk l v.num.toNat).tab.slots)[i]?).map (·.2)).getD V.null = _
    rw [Nat.zero_add, Option.bind_some, h2]
    rfl
  | none =>
    have hno : k ∉ (ldS (ldF l f) (blk l v.num.toNat).tab.slots).map (·.1) := by
      rw [ldS_keys]
      intro hm
      unfold liveK at hm
      simp only [List.mem_map, List.mem_filter] at hm
      obtain ⟨s, ⟨hs, hl⟩, hk⟩ := hm
      exact wt.find_none hf s hs hl hk
    have := (fk_first (ldS (ldF l f) (blk l v.num.toNat).tab.slots) k 0).2 hno
    rw [innerH_none hf]
    unfold V.get
    rw [hfind, this]
    show V.null = ldF l f V.zero
    rw [ldF_other (by decide)]
    rfl
/-- where a path can be written: there are arrays all along, or nothing -/
def pathOk (l : List Bk) : List Ky → V → Bool → Prop
  | [], v, push => push = true → v.kind = 0 ∨ (v.kind = 5 ∧ (blk l v.num.toNat).tab.next ≤ 1000000000)
  | k :: r, v, push => (v.kind = 0 ∨ v.kind = 5) ∧ pathOk l r (inner0 l v k) push
theorem ld_kind {l : List Bk} {f : Nat} {v : V} (w : weighed l f v) (h : ¬ ¬ (ldF l f v).asArr.kind = 4) : v.kind = 0 ∨ v.kind = 5 := by
  by_cases h5 : v.kind = 5
  · exact .inr h5
  · rw [ldF_other h5] at h
    by_cases h0 : v.kind = 0
    · exact .inl h0
    · rw [V.asArr_other h0] at h
      exact absurd (held_other w.1 h5).1 h
theorem weighed.zero (l : List Bk) (f : Nat) : weighed l f V.zero := ⟨by unfold isHeld; rw [if_neg (by decide)]; decide, fun h => absurd h (by decide)⟩
theorem weighed.inner {l : List Bk} (h : hOk l) {f : Nat} {v : V} (w : weighed l (f + 1) v) (k : Ky) : weighed l f (inner0 l v k) := by
  unfold inner0
  split
  · rename_i h5
    cases hf : (blk l v.num.toNat).tab.find k with
    | some j =>
      obtain ⟨s, hs, hl⟩ := Tb.find_live hf
      rw [innerH_some hf hs]
      exact w.kids h.inR h5 j s hs hl
    | none =>
      rw [innerH_none hf]
      exact weighed.zero l f
  · exact weighed.zero l f
theorem weighed.up {l : List Bk} {f : Nat} {v : V} (w : weighed l f v) : weighed l (f + 1) v := ⟨w.1, fun h => by
  obtain ⟨n, hn⟩ := w.2 h
  exact ⟨n, wtF_mono l f _ _ hn⟩⟩
theorem pathOk_null {l : List Bk} : ∀ (p : List Ky) (push : Bool), pathOk l p V.zero push
  | [], _ => fun _ => .inl rfl
  | k :: r, push => ⟨.inl rfl, by unfold inner0; rw [if_neg (by decide)]; exact pathOk_null r push⟩
theorem pathOk_of {l : List Bk} (h : hOk l) (push : Bool) (y : V) : ∀ (p : List Ky) (f : Nat) (v : V), weighed l f v → ((ldF l f v).put p push y).2 = 0 → pathOk l p v push
  | [], f, v, w, hp => by
    intro hq
    subst hq
    rw [V.put_nil_t] at hp
    split at hp
    · simp at hp
    · rename_i hk
      rcases ld_kind w hk with h0 | h5
      · exact .inl h0
      · refine .inr ⟨h5, ?_⟩
        split at hp
        · simp at hp
        · rename_i hn
          cases f with
          | zero =>
            obtain ⟨n, hn⟩ := w.2 h5
            cases hn
          | succ f =>
            have e : (ldF l (f + 1) v).asArr = ldF l (f + 1) v := V.asArr_other (by rw [ldF_handle h5]; show ¬ (4 : Int) = 0; decide)
            rw [e, ldF_handle h5] at hn
            have hn : ¬ ¬ (0 ≤ (blk l v.num.toNat).tab.next ∧ (blk l v.num.toNat).tab.next ≤ 1000000000) := hn
            omega
  | k :: r, f, v, w, hp => by
    rw [V.put_cons] at hp
    split at hp
    · simp at hp
    · rename_i hk
      refine ⟨ld_kind w hk, ?_⟩
      have hp2 : (V.put (((ldF l f v).asArr.get k).getD V.null) r push y).2 = 0 := by
        split at hp
        · assumption
        · exact hp
      by_cases h5 : v.kind = 5
      · cases f with
        | zero =>
          obtain ⟨n, hn⟩ := w.2 h5
          cases hn
        | succ f =>
          have e : (ldF l (f + 1) v).asArr = ldF l (f + 1) v := V.asArr_other (by rw [ldF_handle h5]; show ¬ (4 : Int) = 0; decide)
          rw [e, get_ld h w h5] at hp2
          have e2 : inner0 l v k = innerH l v.num.toNat k := if_pos h5
          rw [← e2] at hp2
          exact pathOk_of h push y r f _ (w.inner h k) hp2
      · have e2 : inner0 l v k = V.zero := if_neg h5
        rw [e2]
        exact pathOk_null r push
/-- the path is no longer than the written tree is heavy -/
theorem weights_mem : ∀ {es : List (Ky × V)} {e : Ky × V}, e ∈ es → e.2.weight ≤ V.weights es
  | u :: r, e, h => by
    rw [V.weights_cons]
    cases h with
    | head => omega
    | tail _ h => have := weights_mem h; omega
theorem setKey_mem (o : V) (k : Ky) (x : V) : (k, x) ∈ (o.setKey k x).items := by
  unfold V.setKey
  cases hf : o.find k with
  | none => show (k, x) ∈ o.items ++ [(k, x)]; simp
  | some i =>
    obtain ⟨y, hy, _, _⟩ := V.find_get hf
    simp only [V.setAt, hy]
    show (k, x) ∈ o.items.take i ++ (k, x) :: o.items.drop (i + 1)
    simp
theorem put_heavy (push : Bool) (x : V) : ∀ (p : List Ky) (v : V), (v.put p push x).2 = 0 → p.length ≤ (v.put p push x).1.weight
  | [], _, _ => Nat.zero_le _
  | k :: r, v, h => by
    rw [V.put_cons] at h ⊢
    by_cases h4 : v.asArr.kind = 4
    case neg =>
      rw [if_pos h4] at h
      simp at h
    rw [if_neg (fun q => q h4)] at h ⊢
    by_cases h0 : (V.put ((v.asArr.get k).getD V.null) r push x).2 = 0
    case neg =>
      rw [if_neg h0] at h
      exact absurd h h0
    rw [if_pos h0]
    have ih := put_heavy push x r _ h0
    have hk : (v.asArr.setKey k (V.put ((v.asArr.get k).getD V.null) r push x).1).kind = 4 := by rw [(setKey_bulk _ _ _).2.2.2, h4]
    have := weights_mem (setKey_mem v.asArr k (V.put ((v.asArr.get k).getD V.null) r push x).1)
    simp only at this
    show r.length + 1 ≤ (v.asArr.setKey k (V.put ((v.asArr.get k).getD V.null) r push x).1).weight
    rw [V.weight_eq, if_pos hk]
    omega
end Go.Sx
namespace Go.Sx
open Go
/-! a value written into a shared heap -/
def shareSl : List Bk → List Sl → List Bk
  | l, [] => l
  | l, s :: r => shareSl (if s.live then shareH l s.val else l) r
theorem shareSl_append (p q : List Sl) : ∀ l, shareSl l (p ++ q) = shareSl (shareSl l p) q := by
  induction p with
  | nil => intro l; rfl
  | cons e r ih => intro l; rw [List.cons_append, shareSl, shareSl, ih]
theorem shareSl_snoc {l : List Bk} {ss : List Sl} {i : Nat} {s : Sl} (h : ss[i]? = some s) : shareSl l (ss.take (i + 1)) = if s.live then shareH (shareSl l (ss.take i)) s.val else shareSl l (ss.take i) := by
  rw [take_snoc h, shareSl_append]
  rfl
theorem shareSl_len : ∀ (ss : List Sl) (l : List Bk), (shareSl l ss).length = l.length
  | [], _ => rfl
  | s :: r, l => by
    rw [shareSl, shareSl_len r]
    split
    · exact shareH_len l s.val
    · rfl
/-- the block's own copy: its table shared out, one reference less -/
def splitH (l : List Bk) (i : Nat) : List Bk := (shareSl l (blk l i).tab.slots).set i ((blk (shareSl l (blk l i).tab.slots) i).withC ((blk (shareSl l (blk l i).tab.slots) i).count - 1))
def ownH (l : List Bk) (v : V) : List Bk × Nat :=
  if v.kind = 5 then (if (blk l v.num.toNat).count = 1 then (l, v.num.toNat) else (allocH (splitH l v.num.toNat) (blk l v.num.toNat).tab, freeN (splitH l v.num.toNat)))
  else (allocH l tb0, freeN l)
def setT (l : List Bk) (i : Nat) (k : Ky) (x : V) : List Bk := l.set i ((blk l i).withT ((blk l i).tab.put k x))
def wrH : List Ky → List Bk → V → Bool → V → List Bk × V
  | [], l, v, push, x => if push then (setT (ownH l v).1 (ownH l v).2 ⟨false, (blk (ownH l v).1 (ownH l v).2).tab.next, ⟨#[]⟩⟩ x, hnd (ownH l v).2) else (dropF (slotsN l + 1) l v, x)
  | k :: r, l, v, push, x => (setT (wrH r (ownH l v).1 (innerH (ownH l v).1 (ownH l v).2 k) push x).1 (ownH l v).2 k (wrH r (ownH l v).1 (innerH (ownH l v).1 (ownH l v).2 k) push x).2, hnd (ownH l v).2)
theorem wrH_drop (l : List Bk) (v x : V) : wrH [] l v false x = (dropF (slotsN l + 1) l v, x) := by rw [wrH]; rfl
theorem wrH_push (l : List Bk) (v x : V) : wrH [] l v true x = (setT (ownH l v).1 (ownH l v).2 ⟨false, (blk (ownH l v).1 (ownH l v).2).tab.next, ⟨#[]⟩⟩ x, hnd (ownH l v).2) := by rw [wrH]; rfl
theorem wrH_cons (k : Ky) (r : List Ky) (l : List Bk) (v : V) (push : Bool) (x : V) : wrH (k :: r) l v push x = (setT (wrH r (ownH l v).1 (innerH (ownH l v).1 (ownH l v).2 k) push x).1 (ownH l v).2 k (wrH r (ownH l v).1 (innerH (ownH l v).1 (ownH l v).2 k) push x).2, hnd (ownH l v).2) := by rw [wrH]
/-- what is right of a heap all through a write -/
structure sInv (c : Int) (L B : Nat) (l : List Bk) : Prop where
  inn : hIn l.length c l
  ch : allCh l
  few : ∀ (i : Nat) (b : Bk), l[i]? = some b → liveN b.tab.slots ≤ L
  small : ∀ (i : Nat) (b : Bk), l[i]? = some b → ∀ s ∈ b.tab.slots, s.val.bulk ≤ B
  hd : ∀ (i : Nat) (b : Bk), l[i]? = some b → b.tab.heads.length ≤ 1024
/-- one block is another one: what is asked of it -/
theorem sInv.set {c : Int} {L B : Nat} {l : List Bk} (h : sInv c L B l) (i : Nat) {u : Bk} (hc : 0 ≤ u.count ∧ u.count ≤ c) (hch : u.tab.ch) (hl : liveN u.tab.slots ≤ L) (hs : ∀ s ∈ u.tab.slots, s.val.bulk ≤ B) (hr : ∀ s ∈ u.tab.slots, s.live = true → refIn l.length s.val) (hh : u.tab.heads.length ≤ 1024) : sInv c L B (l.set i u) := by
  refine ⟨⟨rfl, fun j b hb k s hk hv h5 => ?_, fun j b hb => ?_⟩, fun j b hb => ?_, fun j b hb => ?_, fun j b hb => ?_, fun j b hb => ?_⟩
  · rw [List.length_set]
    rcases set_getB hb with ⟨rfl, rfl⟩ | hb
    · exact hr s (List.mem_of_getElem? hk) hv h5
    · exact h.inn.num j b hb k s hk hv h5
  · rcases set_getB hb with ⟨rfl, rfl⟩ | hb
    · exact hc
    · exact h.inn.cnt j b hb
  · rcases set_getB hb with ⟨rfl, rfl⟩ | hb
    · exact hch
    · exact h.ch j b hb
  · rcases set_getB hb with ⟨rfl, rfl⟩ | hb
    · exact hl
    · exact h.few j b hb
  · rcases set_getB hb with ⟨rfl, rfl⟩ | hb
    · exact hs
    · exact h.small j b hb
  · rcases set_getB hb with ⟨rfl, rfl⟩ | hb
    · exact hh
    · exact h.hd j b hb
theorem sInv.heads {c : Int} {L B : Nat} {l : List Bk} (h : sInv c L B l) (i : Nat) : (blk l i).tab.heads.length ≤ 1024 := by
  by_cases hi : i < l.length
  · exact h.hd i _ (blk_at hi)
  · rw [blk_out (by omega)]
    exact Nat.zero_le _
theorem sInv.bk {c : Int} {L B : Nat} {l : List Bk} (h : sInv c L B l) (i : Nat) : (blk l i).tab.ch ∧ liveN (blk l i).tab.slots ≤ L ∧ (∀ s ∈ (blk l i).tab.slots, s.val.bulk ≤ B) ∧ (∀ s ∈ (blk l i).tab.slots, s.live = true → refIn l.length s.val) := by
  by_cases hi : i < l.length
  · have hb := blk_at hi
    refine ⟨h.ch i _ hb, h.few i _ hb, h.small i _ hb, fun s hs hv h5 => ?_⟩
    obtain ⟨k, hk⟩ := List.getElem?_of_mem hs
    exact h.inn.num i _ hb k s hk hv h5
  · rw [blk_out (by omega)]
    refine ⟨tb0_ch, Nat.zero_le _, fun s hs => ?_, fun s hs => ?_⟩
    · cases hs
    · cases hs
theorem sInv.count {c : Int} {L B : Nat} {l : List Bk} (h : sInv c L B l) {i : Nat} (hi : i < l.length) : 0 ≤ (blk l i).count ∧ (blk l i).count ≤ c := h.inn.cnt i _ (blk_at hi)
theorem sInv.up {c c' : Int} {L L' B : Nat} {l : List Bk} (h : sInv c L B l) (hc : c ≤ c') (hL : L ≤ L') : sInv c' L' B l :=
  ⟨⟨rfl, h.inn.num, fun i b hb => (by have := h.inn.cnt i b hb; omega)⟩, h.ch, fun i b hb => (by have := h.few i b hb; omega), h.small, h.hd⟩
theorem sInv.share {c : Int} {L B : Nat} {l : List Bk} (h : sInv c L B l) (_ : 0 ≤ c) (v : V) : sInv (c + 1) L B (shareH l v) := by
  unfold shareH
  split
  · by_cases hi : v.num.toNat < l.length
    · obtain ⟨b1, b2, b3, b4⟩ := h.bk v.num.toNat
      have b5 := h.count hi
      exact (h.up (by omega) (Nat.le_refl _)).set _ ⟨by show 0 ≤ (blk l v.num.toNat).count + 1; omega, by show (blk l v.num.toNat).count + 1 ≤ c + 1; omega⟩ b1 b2 b3 b4 (h.heads v.num.toNat)
    · rw [List.set_eq_of_length_le (by omega)]
      exact h.up (by omega) (Nat.le_refl _)
  · exact h.up (by omega) (Nat.le_refl _)
theorem sInv.shareSl {L B : Nat} : ∀ (ss : List Sl) {c : Int} {l : List Bk}, sInv c L B l → 0 ≤ c → sInv (c + ss.length) L B (shareSl l ss)
  | [], c, l, h, _ => h.up (by simp) (Nat.le_refl _)
  | s :: r, c, l, h, hc => by
    rw [Go.Sx.shareSl, List.length_cons]
    split
    · exact (sInv.shareSl r (h.share hc s.val) (by omega)).up (by omega) (Nat.le_refl _)
    · exact (sInv.shareSl r h hc).up (by omega) (Nat.le_refl _)
/-- tables stay, counts do not fall -/
theorem share_blk (l : List Bk) (v : V) (i : Nat) : (blk (shareH l v) i).tab = (blk l i).tab ∧ (blk l i).count ≤ (blk (shareH l v) i).count := by
  unfold shareH
  split
  · by_cases he : v.num.toNat = i
    · by_cases hi : i < l.length
      · rw [he, blk_set_same hi]
        exact ⟨rfl, by show (blk l i).count ≤ (blk l i).count + 1; omega⟩
      · rw [List.set_eq_of_length_le (by omega)]
        exact ⟨rfl, Int.le_refl _⟩
    · rw [blk_set_ne he]
      exact ⟨rfl, Int.le_refl _⟩
  · exact ⟨rfl, Int.le_refl _⟩
theorem shareSl_blk : ∀ (ss : List Sl) (l : List Bk) (i : Nat), (blk (Go.Sx.shareSl l ss) i).tab = (blk l i).tab ∧ (blk l i).count ≤ (blk (Go.Sx.shareSl l ss) i).count
  | [], l, i => ⟨rfl, Int.le_refl _⟩
  | s :: r, l, i => by
    rw [Go.Sx.shareSl]
    obtain ⟨h1, h2⟩ := shareSl_blk r (if s.live then shareH l s.val else l) i
    split at h1
    · rename_i hl
      rw [if_pos hl] at h2
      rw [if_pos hl]
      obtain ⟨h3, h4⟩ := share_blk l s.val i
      exact ⟨h1.trans h3, by omega⟩
    · rename_i hl
      rw [if_neg hl] at h2
      rw [if_neg hl]
      exact ⟨h1, h2⟩
theorem sInv.alloc {c : Int} {L B : Nat} {l : List Bk} (h : sInv c L B l) (hc : 1 ≤ c) {t : Tb} (hch : t.ch) (hl : liveN t.slots ≤ L) (hs : ∀ s ∈ t.slots, s.val.bulk ≤ B) (hr : ∀ s ∈ t.slots, s.live = true → refIn l.length s.val) (hh : t.heads.length ≤ 1024) : sInv c L B (allocH l t) := by
  unfold allocH
  split
  · exact h.set _ ⟨by show (0 : Int) ≤ 1; decide, hc⟩ hch hl hs hr hh
  · have key : ∀ {j : Nat} {b : Bk}, (l ++ [⟨1, t⟩])[j]? = some b → l[j]? = some b ∨ b = ⟨1, t⟩ := fun hb => by
      rcases snoc_get hb with ⟨_, q⟩ | ⟨_, q⟩
      · exact .inl q
      · exact .inr q
    refine ⟨⟨rfl, fun j b hb k s hk hv h5 => ?_, fun j b hb => ?_⟩, fun j b hb => ?_, fun j b hb => ?_, fun j b hb => ?_, fun j b hb => ?_⟩
    · rw [List.length_append, List.length_singleton]
      rcases key hb with q | rfl
      · have := h.inn.num j b q k s hk hv h5
        omega
      · have := hr s (List.mem_of_getElem? hk) hv h5
        omega
    · rcases key hb with q | rfl
      · exact h.inn.cnt j b q
      · exact ⟨by show (0 : Int) ≤ 1; decide, hc⟩
    · rcases key hb with q | rfl
      · exact h.ch j b q
      · exact hch
    · rcases key hb with q | rfl
      · exact h.few j b q
      · exact hl
    · rcases key hb with q | rfl
      · exact h.small j b q
      · exact hs
    · rcases key hb with q | rfl
      · exact h.hd j b q
      · exact hh
theorem allocH_at (l : List Bk) (t : Tb) : blk (allocH l t) (freeN l) = ⟨1, t⟩ := by
  have := freeN_le l
  unfold allocH
  split
  · rename_i h
    exact blk_set_same h
  · have e : freeN l = l.length := by omega
    unfold blk
    rw [List.getD_eq_getElem?_getD, e, List.getElem?_append_right (Nat.le_refl _), Nat.sub_self]
    rfl
theorem allocH_other {l : List Bk} {t : Tb} {i : Nat} (hi : i < l.length) (hc : 0 < (blk l i).count) : blk (allocH l t) i = blk l i := by
  have hne : ¬ freeN l = i := fun e => by
    have := freeN_at (l := l) (b := blk l i) (by rw [e]; exact blk_at hi)
    omega
  unfold allocH
  split
  · exact blk_set_ne hne
  · unfold blk
    rw [List.getD_eq_getElem?_getD, List.getD_eq_getElem?_getD, List.getElem?_append_left hi]
/-- what the blocks that were there keep on the way down -/
structure down (l0 l : List Bk) : Prop where
  len : l0.length ≤ l.length
  same : ∀ i, i < l0.length → 0 < (blk l0 i).count → (blk l i).tab = (blk l0 i).tab ∧ 0 < (blk l i).count
theorem down.refl (l : List Bk) : down l l := ⟨Nat.le_refl _, fun _ _ h => ⟨rfl, h⟩⟩
theorem down.share {l0 l : List Bk} (h : down l0 l) (v : V) : down l0 (shareH l v) := ⟨by rw [shareH_len]; exact h.len, fun i hi hc => by
  obtain ⟨h1, h2⟩ := h.same i hi hc
  obtain ⟨h3, h4⟩ := share_blk l v i
  exact ⟨h3.trans h1, by omega⟩⟩
theorem down.alloc {l0 l : List Bk} (h : down l0 l) (t : Tb) : down l0 (allocH l t) := ⟨by have := (allocH_len l t).1; have := h.len; omega, fun i hi hc => by
  obtain ⟨h1, h2⟩ := h.same i hi hc
  have := h.len
  rw [allocH_other (by omega) h2]
  exact ⟨h1, h2⟩⟩
theorem splitH_len (l : List Bk) (i : Nat) : (splitH l i).length = l.length := by unfold splitH; rw [List.length_set, shareSl_len]
theorem down.split {l0 l : List Bk} (h : down l0 l) {i : Nat} (hi : i < l.length) (h2 : 2 ≤ (blk l i).count) : down l0 (splitH l i) := by
  refine ⟨by rw [splitH_len]; exact h.len, fun j hj hc => ?_⟩
  obtain ⟨h3, h4⟩ := h.same j hj hc
  obtain ⟨h5, h6⟩ := shareSl_blk (blk l i).tab.slots l j
  unfold splitH
  by_cases he : i = j
  · subst he
    rw [blk_set_same (by rw [shareSl_len]; exact hi)]
    refine ⟨h5.trans h3, ?_⟩
    show 0 < (blk (shareSl l (blk l i).tab.slots) i).count - 1
    omega
  · rw [blk_set_ne he]
    exact ⟨h5.trans h3, by omega⟩
/-- a value that is held in the first heap, or nothing -/
def was (l0 : List Bk) (v : V) : Prop := v.kind = 5 → 0 ≤ v.num ∧ v.num.toNat < l0.length ∧ 0 < (blk l0 v.num.toNat).count
theorem held_was {l : List Bk} {v : V} (h : isHeld l v = true) : was l v := fun k => held_num h k
theorem inner_was {l : List Bk} (h : inR l) {v : V} (w : was l v) (k : Ky) : was l (inner0 l v k) := by
  unfold inner0
  split
  · rename_i h5
    obtain ⟨q1, q2, q3⟩ := w h5
    cases hf : (blk l v.num.toNat).tab.find k with
    | some j =>
      obtain ⟨s, hs, hl⟩ := Tb.find_live hf
      rw [innerH_some hf hs]
      exact held_was (h _ _ (blk_at q2) j s hs hl)
    | none =>
      rw [innerH_none hf]
      intro q
      exact absurd q (by decide)
  · intro q
    exact absurd q (by decide)
theorem tb0_find (k : Ky) : tb0.find k = none := by
  unfold Tb.find
  rw [if_neg (by simp [tb0])]
  rw [if_neg]
  rintro ⟨_, _, _, q⟩
  simp [tb0] at q
def tab0 (l0 : List Bk) (v : V) : Tb := if v.kind = 5 then (blk l0 v.num.toNat).tab else tb0
theorem inner_tab {l0 l : List Bk} {v : V} {i : Nat} (h : (blk l i).tab = tab0 l0 v) (k : Ky) : innerH l i k = inner0 l0 v k := by
  unfold inner0 innerH
  rw [h]
  unfold tab0
  by_cases h5 : v.kind = 5
  · rw [if_pos h5, if_pos h5]
  · rw [if_neg h5, if_neg h5, tb0_find]
/-- a heap's own copy of a value: what stays, what the block is -/
theorem own_ok {c : Int} {L B : Nat} {l0 l : List Bk} (hd : down l0 l) (hi : sInv c L B l) (hc : 1 ≤ c) {v : V} (w : was l0 v) :
    down l0 (ownH l v).1 ∧ sInv (c + 1024) L B (ownH l v).1 ∧ (ownH l v).2 < (ownH l v).1.length ∧ (ownH l v).1.length ≤ l.length + 1 ∧ l.length ≤ (ownH l v).1.length ∧ (blk (ownH l v).1 (ownH l v).2).tab = tab0 l0 v := by
  unfold ownH
  by_cases h5 : v.kind = 5
  · rw [if_pos h5]
    obtain ⟨q1, q2, q3⟩ := w h5
    obtain ⟨s1, s2⟩ := hd.same _ q2 q3
    have hlen := hd.len
    have hin : (blk l v.num.toNat).tab = tab0 l0 v := by unfold tab0; rw [if_pos h5, s1]
    split
    · exact ⟨hd, hi.up (by omega) (Nat.le_refl _), by show v.num.toNat < l.length; omega, by show l.length ≤ l.length + 1; omega, Nat.le_refl _, hin⟩
    · rename_i h1
      have hlt : v.num.toNat < l.length := by omega
      obtain ⟨b1, b2, b3, b4⟩ := hi.bk v.num.toNat
      have hls := b1.len
      have i1 := sInv.shareSl (blk l v.num.toNat).tab.slots hi (by omega)
      obtain ⟨t1, t2⟩ := shareSl_blk (blk l v.num.toNat).tab.slots l v.num.toNat
      obtain ⟨c1, c2, c3, c4⟩ := i1.bk v.num.toNat
      have cc := i1.count (i := v.num.toNat) (by rw [shareSl_len]; exact hlt)
      have i2 : sInv (c + (blk l v.num.toNat).tab.slots.length) L B (splitH l v.num.toNat) := i1.set _ ⟨by show 0 ≤ (blk (shareSl l (blk l v.num.toNat).tab.slots) v.num.toNat).count - 1; omega, by show (blk (shareSl l (blk l v.num.toNat).tab.slots) v.num.toNat).count - 1 ≤ _; omega⟩ c1 c2 c3 c4 (i1.heads v.num.toNat)
      have d2 := hd.split hlt (by omega)
      have al := allocH_len (splitH l v.num.toNat) (blk l v.num.toNat).tab
      have sl := splitH_len l v.num.toNat
      refine ⟨d2.alloc _, (i2.alloc (by omega) b1 b2 b3 (fun s hs hv => by rw [sl]; exact b4 s hs hv) (hi.heads v.num.toNat)).up (by omega) (Nat.le_refl _), al.2.2, by show (allocH _ _).length ≤ _; omega, by show _ ≤ (allocH _ _).length; omega, ?_⟩
      show (blk (allocH (splitH l v.num.toNat) (blk l v.num.toNat).tab) (freeN (splitH l v.num.toNat))).tab = _
      rw [allocH_at]
      exact hin
  · rw [if_neg h5]
    have al := allocH_len l tb0
    refine ⟨hd.alloc _, (hi.alloc hc tb0_ch (Nat.zero_le _) (fun s hs => by cases hs) (fun s hs => by cases hs) (Nat.zero_le _)).up (by omega) (Nat.le_refl _), al.2.2, al.2.1, al.1, ?_⟩
    show (blk (allocH l tb0) (freeN l)).tab = _
    rw [allocH_at]
    unfold tab0
    rw [if_neg h5]
/-- what holds of the values of a table holds of those of the table with one more -/
theorem put_vals {Q : Bool → V → Prop} {t : Tb} {k : Ky} {x : V} (ht : ∀ s ∈ t.slots, Q s.live s.val) (hx : Q true x) : ∀ s ∈ (t.put k x).slots, Q s.live s.val := by
  have pushed : ∀ (o : Tb) (q : Ky) (y : V), (∀ s ∈ o.slots, Q s.live s.val) → Q true y → ∀ s ∈ (o.push q y).slots, Q s.live s.val := fun o q y ho hy s hs => by
    have hs : s ∈ o.slots ++ [⟨q, y, true, o.link q⟩] := hs
    rcases List.mem_append.1 hs with hs | hs
    · exact ho s hs
    · simp only [List.mem_singleton] at hs
      subst hs
      exact hy
  have all : ∀ (ss : List Sl) (o : Tb), (∀ s ∈ o.slots, Q s.live s.val) → (∀ s ∈ ss, Q s.live s.val) → ∀ s ∈ (o.pushAll ss).slots, Q s.live s.val := by
    intro ss
    induction ss with
    | nil => intro o ho _; exact ho
    | cons u r ih =>
      intro o ho hs
      rw [Tb.pushAll]
      refine ih _ ?_ fun s h => hs s (by simp [h])
      split
      · rename_i hu
        exact pushed o u.key u.val ho (by have := hs u (by simp); rwa [hu] at this)
      · exact ho
  have built : ∀ o : Tb, (∀ s ∈ o.slots, Q s.live s.val) → ∀ s ∈ o.build.slots, Q s.live s.val := fun o ho => all o.slots o.fresh (fun s hs => by cases hs) ho
  unfold Tb.put
  split
  · rename_i j hf
    obtain ⟨u, hu, hl⟩ := Tb.find_live hf
    rw [Tb.setVal_eq hu]
    intro s hs
    have hs : s ∈ t.slots.take j ++ ⟨u.key, x, u.live, u.link⟩ :: t.slots.drop (j + 1) := hs
    rcases List.mem_append.1 hs with hs | hs
    · exact ht s (List.mem_of_mem_take hs)
    · rcases List.mem_cons.1 hs with rfl | hs
      · show Q u.live x
        rw [hl]
        exact hx
      · exact ht s (List.mem_of_mem_drop hs)
  · have h1 : ∀ s ∈ (t.hashIf k).slots, Q s.live s.val := by
      unfold Tb.hashIf
      split
      · exact built t ht
      · exact ht
    have h2 : ∀ s ∈ ((t.hashIf k).growIf).slots, Q s.live s.val := by
      unfold Tb.growIf
      split
      · exact built _ h1
      · exact h1
    exact pushed _ k x h2 hx
theorem push_heads' (o : Tb) (k : Ky) (x : V) : (o.push k x).heads.length = o.heads.length := (o.push_slots k x).2
theorem put_heads {t : Tb} (c : t.ch) (h : t.heads.length ≤ 1024) (k : Ky) (x : V) (hl : t.find k = none → liveN t.slots < 1024) : (t.put k x).heads.length ≤ 1024 := by
  have built : ∀ {o : Tb}, o.ch → liveN o.slots < 1024 → o.build.heads.length ≤ 1024 := fun co lo => by
    rw [(co.build lo).size]
    exact (roomN_spec lo).2.1
  unfold Tb.put
  split
  · unfold Tb.setVal
    split
    · exact h
    · exact h
  · rename_i hf
    have l1 := hl hf
    obtain ⟨c1, l2, _⟩ := c.hashIf l1 k
    have h1 : (t.hashIf k).heads.length ≤ 1024 := by
      unfold Tb.hashIf
      split
      · exact built c l1
      · exact h
    have h2 : ((t.hashIf k).growIf).heads.length ≤ 1024 := by
      unfold Tb.growIf
      split
      · exact built c1 l2
      · exact h1
    show (((t.hashIf k).growIf).push k x).heads.length ≤ 1024
    rw [push_heads']
    exact h2
theorem setT_ok {c : Int} {L B : Nat} {l : List Bk} (h : sInv c L B l) {i : Nat} (hi : i < l.length) {k : Ky} (hk : keyOk k = true) {x : V} (hx : x.bulk ≤ B) (hr : refIn l.length x) (hL : L < 1024) : sInv c (L + 1) B (setT l i k x) := by
  obtain ⟨b1, b2, b3, b4⟩ := h.bk i
  have b5 := h.count hi
  have hl : (blk l i).tab.find k = none → liveN (blk l i).tab.slots < 1024 := fun _ => by omega
  have pl := put_live b1 k x hl
  refine (h.up (Int.le_refl _) (Nat.le_succ _)).set i b5 (b1.put x hk hl) (by show liveN ((blk l i).tab.put k x).slots ≤ L + 1; omega) ?_ ?_ (put_heads b1 (h.heads i) k x hl)
  · exact put_vals (Q := fun _ w => w.bulk ≤ B) b3 hx
  · intro s hs hv
    exact put_vals (Q := fun b w => b = true → refIn l.length w) b4 (fun _ => hr) s hs hv
theorem setT_len (l : List Bk) (i : Nat) (k : Ky) (x : V) : (setT l i k x).length = l.length := by unfold setT; rw [List.length_set]
/-- dropping: the tables stay, or are gone -/
theorem drop_tab : ∀ (f : Nat) (l : List Bk) (v : V) (i : Nat), (blk (dropF f l v) i).tab = (blk l i).tab ∨ (blk (dropF f l v) i).tab = tb0
  | 0, l, v, i => .inl rfl
  | f + 1, l, v, i => by
    rw [dropF]
    split
    · split
      · by_cases he : v.num.toNat = i
        · by_cases hi : i < l.length
          · rw [he, blk_set_same hi]
            exact .inl rfl
          · rw [List.set_eq_of_length_le (by omega)]
            exact .inl rfl
        · rw [blk_set_ne he]
          exact .inl rfl
      · have key : ∀ (ss : List Sl) (l' : List Bk), (blk (dropS (dropF f) l' ss) i).tab = (blk l' i).tab ∨ (blk (dropS (dropF f) l' ss) i).tab = tb0 := by
          intro ss
          induction ss with
          | nil => intro l'; exact .inl rfl
          | cons s r ih =>
            intro l'
            rw [dropS]
            rcases ih (if s.live then dropF f l' s.val else l') with h | h
            · rw [h]
              split
              · exact drop_tab f l' s.val i
              · exact .inl rfl
            · exact .inr h
        rcases key (blk l v.num.toNat).tab.slots (l.set v.num.toNat bk0) with h | h
        · rw [h]
          by_cases he : v.num.toNat = i
          · by_cases hi : i < l.length
            · rw [he, blk_set_same hi]
              exact .inr rfl
            · rw [List.set_eq_of_length_le (by omega)]
              exact .inl rfl
          · rw [blk_set_ne he]
            exact .inl rfl
        · exact .inr h
    · exact .inl rfl
theorem drop_ok {c : Int} {L B : Nat} {l : List Bk} (h : sInv c L B l) {v : V} (hr : refIn l.length v) (f : Nat) : sInv c L B (dropF f l v) ∧ (dropF f l v).length = l.length := by
  obtain ⟨i1, _⟩ := drop_in f l v h.inn hr
  have hlen := i1.len
  have key : ∀ (j : Nat) (b : Bk), (dropF f l v)[j]? = some b → b.tab = (blk l j).tab ∨ b.tab = tb0 := fun j b hb => by
    have := drop_tab f l v j
    rwa [blk_get hb] at this
  refine ⟨⟨by rw [hlen]; exact i1, fun j b hb => ?_, fun j b hb => ?_, fun j b hb => ?_, fun j b hb => ?_⟩, hlen⟩
  · rcases key j b hb with q | q
    · rw [q]; exact (h.bk j).1
    · rw [q]; exact tb0_ch
  · rcases key j b hb with q | q
    · rw [q]; exact (h.bk j).2.1
    · rw [q]; exact Nat.zero_le _
  · rcases key j b hb with q | q
    · rw [q]; exact (h.bk j).2.2.1
    · rw [q]; intro s hs; cases hs
  · rcases key j b hb with q | q
    · rw [q]; exact h.heads j
    · rw [q]; exact Nat.zero_le _
theorem refIn.up {n m : Nat} {v : V} (h : refIn n v) (k : n ≤ m) : refIn m v := fun q => by
  have := h q
  omega
theorem hnd_ref {i n : Nat} (h : i < n) : refIn n (hnd i) := fun _ => by
  show (0 : Int) ≤ (i : Nat) ∧ ((i : Nat) : Int).toNat < n
  omega
theorem push_key {n : Int} (h0 : 0 ≤ n) (h1 : n ≤ 1000000000) : keyOk ⟨false, n, ⟨#[]⟩⟩ = true := by
  unfold keyOk
  simp
  omega
/-- a write: what is right of the heap that comes of it -/
theorem wr_ok {B : Nat} {l0 : List Bk} (hR : inR l0) (hC : allCh l0) (push : Bool) {x : V} (hx : x.bulk ≤ B) : ∀ (p : List Ky) {c : Int} {L : Nat} {l : List Bk} {v : V}, (∀ k ∈ p, keyOk k = true) → down l0 l → sInv c L B l → 1 ≤ c → L + p.length + 1 ≤ 1024 → was l0 v → pathOk l0 p v push → refIn l.length x →
    sInv (c + 1024 * ((p.length : Int) + 1)) (L + p.length + 1) B (wrH p l v push x).1 ∧ (wrH p l v push x).1.length ≤ l.length + p.length + 1 ∧ l.length ≤ (wrH p l v push x).1.length ∧ refIn (wrH p l v push x).1.length (wrH p l v push x).2 ∧ (wrH p l v push x).2.bulk ≤ B
  | [], c, L, l, v, hk, hd, hi, hc, hL, w, po, hr => by
    cases push with
    | false =>
      rw [wrH_drop]
      have hrv : refIn l.length v := fun q => by
        have := w q
        have := hd.len
        omega
      obtain ⟨i1, i2⟩ := drop_ok hi hrv (slotsN l + 1)
      refine ⟨i1.up (by simp; omega) (by omega), by simp only [i2]; omega, by simp only [i2]; exact Nat.le_refl _, by simp only [i2]; exact hr, hx⟩
    | true =>
      rw [wrH_push]
      obtain ⟨d1, i1, o1, o2, o3, o4⟩ := own_ok hd hi hc w
      have hn : 0 ≤ (tab0 l0 v).next ∧ (tab0 l0 v).next ≤ 1000000000 := by
        unfold tab0
        rcases po rfl with h0 | ⟨h5, hn⟩
        · rw [if_neg (by omega)]
          exact ⟨Int.le_refl _, by decide⟩
        · rw [if_pos h5]
          have := ((hC.blk v.num.toNat).next).1
          exact ⟨this, hn⟩
      have hkk : keyOk ⟨false, (blk (ownH l v).1 (ownH l v).2).tab.next, ⟨#[]⟩⟩ = true := by rw [o4]; exact push_key hn.1 hn.2
      have s1 := setT_ok i1 o1 hkk hx (hr.up o3) (by simp at hL; omega)
      refine ⟨s1.up (by simp) (by simp), ?_, ?_, ?_, Nat.zero_le _⟩
      · simp only [setT_len]; simp; omega
      · simp only [setT_len]; exact o3
      · simp only [setT_len]; exact hnd_ref o1
  | k :: r, c, L, l, v, hk, hd, hi, hc, hL, w, po, hr => by
    rw [wrH_cons]
    obtain ⟨d1, i1, o1, o2, o3, o4⟩ := own_ok hd hi hc w
    have e := inner_tab o4 k
    rw [e]
    simp only [List.length_cons] at hL ⊢
    obtain ⟨w1, w2, w3, w4, w5⟩ := wr_ok hR hC push hx r (fun q hq => hk q (by simp [hq])) d1 i1 (by omega) (by omega) (inner_was hR w k) po.2 (hr.up o3)
    have s1 := setT_ok w1 (i := (ownH l v).2) (by omega) (hk k (by simp)) w5 w4 (by omega)
    refine ⟨s1.up (by omega) (by omega), ?_, ?_, ?_, Nat.zero_le _⟩
    · simp only [setT_len]; omega
    · simp only [setT_len]; omega
    · simp only [setT_len]; exact hnd_ref (by omega)
end Go.Sx
namespace Go.Sx
open Go
theorem sumW_live {g : Nat → Option Nat} (hg : ∀ i n, g i = some n → 1 ≤ n) : ∀ (ss : List Sl) (m : Nat), sumW g ss = some m → liveN ss ≤ m
  | [], m, _ => Nat.zero_le _
  | s :: r, m, h => by
    rw [sumW] at h
    rw [show s :: r = [s] ++ r from rfl, liveN_append, liveN_one]
    cases hl : s.live with
    | false =>
      rw [hl] at h
      simp only [Bool.false_eq_true, if_false] at h ⊢
      have := sumW_live hg r m h
      omega
    | true =>
      rw [hl] at h
      simp only [if_true] at h ⊢
      cases h1 : (if s.val.kind = 5 then g s.val.num.toNat else some 1) with
      | none => rw [h1] at h; cases h
      | some a =>
        cases h2 : sumW g r with
        | none => rw [h1, h2] at h; cases h
        | some b =>
          rw [h1, h2] at h
          have e : a + b = m := Option.some.inj h
          have i1 := sumW_live hg r b h2
          have ha : 1 ≤ a := by
            split at h1
            · exact hg _ _ h1
            · have := Option.some.inj h1
              omega
          omega
theorem wtF_pos {l : List Bk} : ∀ (f i n : Nat), wtF l f i = some n → 1 ≤ n
  | 0, _, _, h => by cases h
  | f + 1, i, n, h => by
    rw [wtF] at h
    simp only [Option.map_eq_some_iff] at h
    obtain ⟨m, _, rfl⟩ := h
    omega
theorem hOk.sInv {l : List Bk} (h : hOk l) (hb : szG Bk.bulk l ≤ 1048576) : sInv 1000000000000 199 1048576 l := by
  refine ⟨h.hIn, h.ch, fun i b hbk => ?_, fun i b hbk s hs => ?_, fun i b hbk => ?_⟩
  · by_cases hc : 0 < b.count
    · obtain ⟨n, hn, hw⟩ := h.light i b hbk hc
      obtain ⟨m, ⟨f, hm⟩, rfl⟩ := Wt.iff.1 hw
      rw [blk_get hbk] at hm
      have := sumW_live (wtF_pos f) _ _ hm
      omega
    · have := h.blk i b hbk
      by_cases h0 : b.count = 0
      · rw [bkOk_free h0] at this
        rw [free_slots this]
        exact Nat.zero_le _
      · have := ((bkOk_live h0).1 this).1
        omega
  · have h1 := slots_bulk hbk
    have h2 := ((tab_slots b.tab).2 s hs).1
    omega
  · have := h.blk i b hbk
    by_cases h0 : b.count = 0
    · rw [bkOk_free h0] at this
      rw [free_tab this]
      exact Nat.zero_le _
    · have w := b.tab.isTab_iff.1 ((bkOk_live h0).1 this).2.1
      cases ht : b.tab.hashed with
      | true => exact (w.hash ht).1.2
      | false => have := (w.packed ht).1; omega
theorem szG_le {α : Type} {w : α → Nat} {M : Nat} : ∀ {l : List α}, (∀ a ∈ l, w a ≤ M) → szG w l ≤ l.length * (1 + M)
  | [], _ => by simp [szG, gsum]
  | a :: r, h => by
    have h1 := h a (by simp)
    have h2 := szG_le (w := w) (M := M) (l := r) fun b hb => h b (by simp [hb])
    rw [szG_cons, List.length_cons, Nat.add_mul]
    omega
theorem tab_small {B : Nat} {t : Tb} (c : t.ch) (hs : ∀ s ∈ t.slots, s.val.bulk ≤ B) (hh : t.heads.length ≤ 1024) : t.bulk ≤ 1024 + 1024 * (401 + B) := by
  have h1 : szG Sl.bulk t.slots ≤ t.slots.length * (1 + (400 + B)) := szG_le fun s h => by
    have h2 := hs s h
    obtain ⟨k, hk⟩ := List.getElem?_of_mem h
    have h3 : s.key.str.size ≤ 400 := by
      have := (c.keys k s hk).1
      unfold keyOk at this
      cases ht : s.key.text with
      | true => rw [ht] at this; simp at this; omega
      | false => rw [ht] at this; simp at this; rw [this.1]; exact Nat.zero_le _
    have e : Sl.bulk s = s.key.str.size + s.val.bulk := rfl
    omega
  have h2 := c.len
  have h3 : t.slots.length * (1 + (400 + B)) ≤ 1024 * (1 + (400 + B)) := Nat.mul_le_mul_right _ h2
  unfold Tb.bulk
  omega
theorem sInv.tabs {c : Int} {L B : Nat} {l : List Bk} (h : sInv c L B l) (i : Nat) : (blk l i).tab.bulk ≤ 1024 + 1024 * (401 + B) := by
  obtain ⟨b1, _, b3, _⟩ := h.bk i
  exact tab_small b1 b3 (h.heads i)
theorem sInv.bulk {c : Int} {L B : Nat} {l : List Bk} (h : sInv c L B l) : szG Bk.bulk l ≤ l.length * (1 + (1024 + 1024 * (401 + B))) := szG_le fun b hb => by
  obtain ⟨i, hi⟩ := List.getElem?_of_mem hb
  have := h.tabs i
  rwa [blk_get hi] at this
/-! what SetShared does -/
def putCode (v : V) (p : List Ky) (push : Bool) (x : V) : Int := if (v.put p push x).2 = 0 then (if (v.put p push x).1.weight ≤ 200 then 0 else 9) else (v.put p push x).2
def shC (l : List Bk) (v : V) (p : List Ky) (push : Bool) (x : V) : Int := putCode (ldF l 200 v) p push (ldF l 200 x)
def root (rs : List V) (i : Int) : V := rs.getD i.toNat V.zero
def inRg (rs : List V) (i : Int) : Bool := decide (0 ≤ i ∧ i ≤ (rs.length : Int) - 1)
def setShOk (l : List Bk) (rs : List V) (i : Int) (p : List Ky) (j : Int) : Bool := inRg rs i && (inRg rs j && (countedB l rs && p.all keyOk))
theorem root_get {rs : List V} {i : Int} (h : inRg rs i = true) : rs[i.toNat]? = some (root rs i) ∧ 0 ≤ i ∧ i.toNat < rs.length := by
  unfold inRg at h
  have h := of_decide_eq_true h
  refine ⟨?_, h.1, by omega⟩
  unfold root
  rw [List.getD_eq_getElem?_getD, List.getElem?_eq_getElem (by omega)]
  rfl
theorem countedB_iff {l : List Bk} {rs : List V} : countedB l rs = true ↔ hOk l ∧ (∀ v ∈ rs, isHeld l v = true) ∧ sameC l (counts l rs) = true := by
  unfold countedB allHeld
  simp only [Bool.and_eq_true, heapB_iff, List.all_eq_true]
/-- what a write that is let through leans on -/
structure setGo (l : List Bk) (rs : List V) (i : Int) (p : List Ky) (push : Bool) (j : Int) : Prop where
  ok : hOk l
  hv : isHeld l (root rs i) = true
  hx : isHeld l (root rs j) = true
  keys : ∀ k ∈ p, keyOk k = true
  path : pathOk l p (root rs i) push
  len : p.length ≤ 200
theorem setGo.of {l : List Bk} {rs : List V} {i j : Int} {p : List Ky} {push : Bool} (h : setShOk l rs i p j = true) (h0 : shC l (root rs i) p push (root rs j) = 0) : setGo l rs i p push j := by
  unfold setShOk at h
  simp only [Bool.and_eq_true, List.all_eq_true] at h
  obtain ⟨h1, h2, h3, h4⟩ := h
  obtain ⟨hk, hh, _⟩ := countedB_iff.1 h3
  have hv := hh _ (List.mem_of_getElem? (root_get h1).1)
  have hx := hh _ (List.mem_of_getElem? (root_get h2).1)
  unfold shC putCode at h0
  have hp : ((ldF l 200 (root rs i)).put p push (ldF l 200 (root rs j))).2 = 0 := by
    split at h0
    · assumption
    · exact h0
  rw [if_pos hp] at h0
  have hw : ((ldF l 200 (root rs i)).put p push (ldF l 200 (root rs j))).1.weight ≤ 200 := by
    split at h0
    · assumption
    · cases h0
  have := put_heavy push (ldF l 200 (root rs j)) p _ hp
  exact ⟨hk, hv, hx, h4, pathOk_of hk push _ p 200 _ (hk.weighed hv) hp, by omega⟩
theorem setGo.start {l : List Bk} {rs : List V} {i j : Int} {p : List Ky} {push : Bool} (g : setGo l rs i p push j) (hb : szG Bk.bulk l ≤ 1048576) :
    down l (shareH l (root rs j)) ∧ sInv 1000000000001 199 1048576 (shareH l (root rs j)) ∧ was l (root rs i) ∧ refIn (shareH l (root rs j)).length (root rs j) ∧ (root rs j).bulk ≤ 1048576 := by
  refine ⟨(down.refl l).share _, (g.ok.sInv hb).share (by decide) _, held_was g.hv, ?_, ?_⟩
  · rw [shareH_len]
    exact held_ref g.hx
  · have := held_items g.hx
    have e := V.bulk_eq (root rs j)
    rw [this.1] at e
    have z : V.bulks [] = 0 := rfl
    omega
theorem setGo.fin {l : List Bk} {rs : List V} {i j : Int} {p : List Ky} {push : Bool} (g : setGo l rs i p push j) (hb : szG Bk.bulk l ≤ 1048576) :
    szG Bk.bulk (wrH p (shareH l (root rs j)) (root rs i) push (root rs j)).1 ≤ 1126999418470400 * 1 + 1126999418470400 ∧ (wrH p (shareH l (root rs j)) (root rs i) push (root rs j)).2.bulk ≤ 1048576 := by
  obtain ⟨d, s, w, r, b⟩ := g.start hb
  obtain ⟨w1, w2, w3, w4, w5⟩ := wr_ok g.ok.inR g.ok.ch push b p g.keys d s (by decide) (by have := g.len; omega) w g.path r
  refine ⟨?_, w5⟩
  have h1 := w1.bulk
  have h2 := szG_len (w := Bk.bulk) l
  rw [shareH_len] at w2
  have h3 := g.len
  have h4 : (wrH p (shareH l (root rs j)) (root rs i) push (root rs j)).1.length ≤ 1048777 := by omega
  have h5 : (wrH p (shareH l (root rs j)) (root rs i) push (root rs j)).1.length * (1 + (1024 + 1024 * (401 + 1048576))) ≤ 1048777 * (1 + (1024 + 1024 * (401 + 1048576))) := Nat.mul_le_mul_right _ h4
  omega
end Go.Sx
/-! Blocks that lie in memory: their counts, their tables, written in place. -/
namespace Go.Sx
open Go
section
variable {P : Program} {h0 h : Hp} {K : Value → Hp → Prop} {bag : Bag} {c : List Dt → Dt} {val : Value} {b off : Nat}
theorem bk_row (l : List Bk) (i : Nat) (u : Bk) (hi : i < l.length) : (l.set i u).flatMap Bk.dt = (l.take i).flatMap Bk.dt ++ (u.dt ++ (l.drop (i + 1)).flatMap Bk.dt) := by
  rw [set_split u hi, List.flatMap_append, List.flatMap_cons]
/-- a block within the blocks -/
theorem hold_bk {l : List Bk} {i b cap : Nat} (hi : i < l.length) : ∃ c, Hold c (.slice (some ⟨b, 0, none⟩) l.length cap) b (i * 6) ∧ ∀ u : Bk, c u.dt = .row 6 ((l.set i u).flatMap Bk.dt) := by
  obtain ⟨e, he, _⟩ := get_lt hi
  obtain ⟨_, h2⟩ := fm_split Bk.dt_len he
  exact ⟨_, (Hold.row (z := 6) (p := (l.take i).flatMap Bk.dt) (q := (l.drop (i + 1)).flatMap Bk.dt) (by omega)).at_ h2.symm, fun u => by rw [bk_row l i u hi]⟩
/-- .. its count -/
theorem hold_bcnt {l : List Bk} {i b cap : Nat} (hi : i < l.length) : ∃ c, Hold c (.slice (some ⟨b, 0, none⟩) l.length cap) b (i * 6) ∧ ∀ w : Int, c [.raw (.int .i64 w)] = .row 6 ((l.set i ((blk l i).withC w)).flatMap Bk.dt) := by
  obtain ⟨_, h2⟩ := fm_split Bk.dt_len (blk_at hi)
  refine ⟨_, (Hold.row (z := 6) (p := (l.take i).flatMap Bk.dt) (q := (blk l i).tab.dt ++ (l.drop (i + 1)).flatMap Bk.dt) (by omega)).at_ h2.symm, fun w => ?_⟩
  rw [bk_row l i _ hi]
  simp only [Bk.dt, Bk.withC, List.cons_append, List.nil_append]
/-- .. its table -/
theorem hold_btab {l : List Bk} {i b cap : Nat} (hi : i < l.length) : ∃ c, Hold c (.slice (some ⟨b, 0, none⟩) l.length cap) b (i * 6 + 1) ∧ ∀ t : Tb, c t.dt = .row 6 ((l.set i ((blk l i).withT t)).flatMap Bk.dt) := by
  obtain ⟨_, h2⟩ := fm_split Bk.dt_len (blk_at hi)
  refine ⟨_, (Hold.row (z := 6) (p := (l.take i).flatMap Bk.dt ++ [.raw (.int .i64 (blk l i).count)]) (q := (l.drop (i + 1)).flatMap Bk.dt) (by omega)).at_ ?_, fun t => ?_⟩
  · rw [List.length_append, h2]
    rfl
  · rw [bk_row l i _ hi]
    simp only [Bk.dt, Bk.withT, List.append_assoc, List.cons_append, List.nil_append]
theorem set_blk {l : List Bk} {i : Nat} (hi : i < l.length) : l.set i (blk l i) = l := by
  have := blk_at hi
  rw [List.getElem?_eq_getElem hi] at this
  rw [← Option.some.inj this]
  exact List.set_getElem_self hi
theorem withC_self (u : Bk) : u.withC u.count = u := rfl
theorem withT_self (u : Bk) : u.withT u.tab = u := rfl
/-- the cells of a block that is written -/
theorem bk_zip (u : Bk) {x y : Value} (m : My h0 h ((.row 1 (u.tab.heads.flatMap idt), x) :: (.row 10 (u.tab.slots.flatMap Sl.dt), y) :: bag)) : My h0 h (u.dt.zip [.int .i64 u.count, .bool u.tab.hashed, x, y, .int .i64 u.tab.next, .int .i64 u.tab.count] ++ bag) := by
  simp only [Bk.dt_eq, List.zip_cons_cons, List.zip_nil_right, List.cons_append, List.nil_append, My.raw_iff, one_bool, one_int, and_self, true_and]
  exact ((m.raw (u := .int .i64 u.tab.count) rfl).raw (u := .int .i64 u.tab.next) rfl).fourth.fourth
/-- a block is written -/
theorem bk_store (hd : Hold c val b off) {t j : Nat} {u : Bk} {x y : Value} {z : List Dt} (ht : tyS P t = some (true, 6)) (hz : z.length = 6) (m : My h0 h ((.row 1 (u.tab.heads.flatMap idt), x) :: (.row 10 (u.tab.slots.flatMap Sl.dt), y) :: (c z, val) :: bag)) (hj : j = off) (k : ∀ h', My h0 h' ((c u.dt, val) :: bag) → K undef h') :
    HSem P (stI t (.pointer (some ⟨b, j, none⟩)) (.agg #[.int .i64 u.count, .bool u.tab.hashed, x, y, .int .i64 u.tab.next, .int .i64 u.tab.count])) h K :=
  hd.store (x := z) (es := u.dt) ht (bk_zip u m) hz (Bk.dt_len u) rfl hj k
end
/-- a heap in a variable, its blocks at hand -/
def HpB (l : List Bk) (a : Option Addr) (n bp : Nat) (R : Bag) : Bag := (.row 6 (l.flatMap Bk.dt), .slice a l.length n) :: (.ptr [] [.raw (.slice a l.length n)] [], .pointer (some ⟨bp, 0, none⟩)) :: R
end Go.Sx
/-! A heap in a variable: a count is read or written, a block is opened. -/
namespace Go.Sx
open Go
section
variable {P : Program} {h0 h : Hp} {K : Value → Hp → Prop} {bag : Bag} {l : List Bk} {b cap i j t : Nat}
theorem bcnt_hold (hi : i < l.length) (m : My h0 h ((.row 6 (l.flatMap Bk.dt), .slice (some ⟨b, 0, none⟩) l.length cap) :: bag)) :
    ∃ c, Hold c (.slice (some ⟨b, 0, none⟩) l.length cap) b (i * 6) ∧ (∀ w : Int, c [.raw (.int .i64 w)] = .row 6 ((l.set i ((blk l i).withC w)).flatMap Bk.dt)) ∧ My h0 h ((c [.raw (.int .i64 (blk l i).count)], .slice (some ⟨b, 0, none⟩) l.length cap) :: bag) := by
  obtain ⟨c, hd, hc⟩ := hold_bcnt (l := l) (b := b) (cap := cap) hi
  refine ⟨c, hd, hc, ?_⟩
  rw [hc, withC_self, set_blk hi]
  exact m
theorem bcnt_ld (hi : i < l.length) (ht : tyS P t = some (false, 1)) (m : My h0 h ((.row 6 (l.flatMap Bk.dt), .slice (some ⟨b, 0, none⟩) l.length cap) :: bag)) (hj : j = i * 6) (k : K (.int .i64 (blk l i).count) h) : HPure P (ldI t (.pointer (some ⟨b, j, none⟩))) h K := by
  obtain ⟨c, hd, hc, m2⟩ := bcnt_hold hi m
  exact hd.ld1 (i := 0) ht m2 rfl (by omega) k
theorem bcnt_st (w : Int) (hi : i < l.length) (ht : tyS P t = some (false, 1)) (m : My h0 h ((.row 6 (l.flatMap Bk.dt), .slice (some ⟨b, 0, none⟩) l.length cap) :: bag)) (hj : j = i * 6)
    (k : ∀ h', My h0 h' ((.row 6 ((l.set i ((blk l i).withC w)).flatMap Bk.dt), .slice (some ⟨b, 0, none⟩) l.length cap) :: bag) → K undef h') : HSem P (stI t (.pointer (some ⟨b, j, none⟩)) (.int .i64 w)) h K := by
  obtain ⟨c, hd, hc, m2⟩ := bcnt_hold hi m
  exact hd.put1 ht rfl rfl m2 hj fun h' m3 => k h' (by rw [hc] at m3; exact m3)
/-- the cells of a block, bare -/
def bkraws (u : Bk) (x y : Value) : List Dt := [.raw (.int .i64 u.count), .raw (.bool u.tab.hashed), .raw x, .raw y, .raw (.int .i64 u.tab.next), .raw (.int .i64 u.tab.count)]
/-- a block is opened: its rows are taken out -/
theorem bk_open (hi : i < l.length) (m : My h0 h ((.row 6 (l.flatMap Bk.dt), .slice (some ⟨b, 0, none⟩) l.length cap) :: bag)) :
    ∃ c a n a' n', Hold c (.slice (some ⟨b, 0, none⟩) l.length cap) b (i * 6) ∧ (∀ u : Bk, c u.dt = .row 6 ((l.set i u).flatMap Bk.dt)) ∧
      My h0 h ((.row 1 ((blk l i).tab.heads.flatMap idt), .slice a (blk l i).tab.heads.length n) :: (.row 10 ((blk l i).tab.slots.flatMap Sl.dt), .slice a' (blk l i).tab.slots.length n') :: (c (bkraws (blk l i) (.slice a (blk l i).tab.heads.length n) (.slice a' (blk l i).tab.slots.length n')), .slice (some ⟨b, 0, none⟩) l.length cap) :: bag) := by
  obtain ⟨c, hd, hc⟩ := hold_bk (l := l) (b := b) (cap := cap) hi
  have e : [Dt.raw (.int .i64 (blk l i).count)] ++ ((blk l i).tab.dt ++ []) = (blk l i).dt := by
    rw [List.append_nil]
    rfl
  have m1 : My h0 h ((c ([Dt.raw (.int .i64 (blk l i).count)] ++ ((blk l i).tab.dt ++ [])), .slice (some ⟨b, 0, none⟩) l.length cap) :: bag) := by
    rw [e, hc, set_blk hi]
    exact m
  have hs := hd.sub [.raw (.int .i64 (blk l i).count)] []
  obtain ⟨a, n, a', n', m2⟩ := tb_open hs (t := (blk l i).tab) m1
  exact ⟨c, a, n, a', n', hd, hc, m2⟩
end
theorem shareH_other {l : List Bk} {v : V} (h : ¬ v.kind = 5) : shareH l v = l := if_neg h
theorem shareH_this {l : List Bk} {v : V} (h : v.kind = 5) : shareH l v = l.set v.num.toNat ((blk l v.num.toNat).withC ((blk l v.num.toNat).count + 1)) := if_pos h
theorem dropF_other {f : Nat} {l : List Bk} {v : V} (h : ¬ v.kind = 5) : dropF (f + 1) l v = l := by rw [dropF, if_neg h]
theorem dropF_keep {f : Nat} {l : List Bk} {v : V} (h : v.kind = 5) (k : 0 < (blk l v.num.toNat).count - 1) : dropF (f + 1) l v = l.set v.num.toNat ((blk l v.num.toNat).withC ((blk l v.num.toNat).count - 1)) := by rw [dropF, if_pos h, if_pos k]
theorem dropF_gone {f : Nat} {l : List Bk} {v : V} (h : v.kind = 5) (k : ¬ 0 < (blk l v.num.toNat).count - 1) : dropF (f + 1) l v = dropS (dropF f) (l.set v.num.toNat bk0) (blk l v.num.toNat).tab.slots := by rw [dropF, if_pos h, if_neg k]
theorem drop_no1 {l : List Bk} {rs : List V} {i : Int} (h : ¬ (0 ≤ i ∧ i ≤ (rs.length : Int) - 1)) : dropOf l rs i = (l, false) := if_neg (by rw [decide_eq_false h]; simp)
theorem drop_no2 {l : List Bk} {rs : List V} {i : Int} (h : countedB l rs = false) : dropOf l rs i = (l, false) := if_neg (by rw [h]; simp)
theorem drop_yes {l : List Bk} {rs : List V} {i : Int} (h : 0 ≤ i ∧ i ≤ (rs.length : Int) - 1) (k : countedB l rs = true) : dropOf l rs i = (dropF (slotsN l + 1) l (rs.getD i.toNat V.zero), true) := if_pos (by rw [decide_eq_true h, k]; rfl)
theorem counted_parts {l : List Bk} {rs : List V} (h : countedB l rs = true) : heapB l = true ∧ ∀ v ∈ rs, isHeld l v = true := by
  unfold countedB allHeld at h
  rw [Bool.and_eq_true, Bool.and_eq_true, List.all_eq_true] at h
  exact ⟨h.1, h.2.1⟩
theorem slotsN_bulk (l : List Bk) : slotsN l ≤ szG Bk.bulk l := by
  have key : ∀ r : List Bk, gsum (fun b : Bk => b.tab.slots.length) r ≤ gsum Bk.bulk r := by
    intro r
    induction r with
    | nil => exact Nat.le_refl _
    | cons b r ih =>
      simp only [gsum, List.map_cons, List.sum_cons] at ih ⊢
      have h1 : b.tab.slots.length ≤ b.bulk := by
        have := tab_slots b.tab
        exact this.1
      omega
  have := key l
  unfold szG
  show gsum (fun b : Bk => b.tab.slots.length) l ≤ _
  omega
end Go.Sx
/-! What storing a value needs. -/
namespace Go.Sx
open Go
theorem wfEs_parts : ∀ {es : List (Ky × V)} {x : Int} {seen : List Ky}, wfEs x es seen = true → ∀ e ∈ es, keyOk e.1 = true ∧ e.2.wf = true
  | [], _, _, _, e, he => by cases he
  | u :: r, x, seen, h, e, he => by
    rw [wfEs_cons] at h
    simp only [Bool.and_eq_true] at h
    obtain ⟨h1, _, _, h2, h3⟩ := h
    rcases List.mem_cons.1 he with rfl | he
    · exact ⟨h1, h2⟩
    · exact wfEs_parts h3 e he
theorem wf_mem {v : V} (h : v.wf = true) (k : v.kind = 4) : ∀ e ∈ v.items, keyOk e.1 = true ∧ e.2.wf = true := by
  rw [V.wf_eq] at h
  unfold wf0 at h
  rw [k] at h
  have h := (Bool.and_eq_true _ _ ▸ h : _ ∧ _).2
  simp at h
  exact wfEs_parts h.2.2
theorem valid_mem {v : V} (h : v.valid = true) (k : v.kind = 4) : v.items.length < 200 ∧ ∀ e ∈ v.items, keyOk e.1 = true ∧ e.2.valid = true := by
  unfold V.valid at h
  rw [Bool.and_eq_true] at h
  have hw := of_decide_eq_true h.1
  rw [V.weight_eq, if_pos k] at hw
  have hl := weights_len v.items
  refine ⟨by omega, fun e he => ?_⟩
  obtain ⟨q1, q2⟩ := wf_mem h.2 k e he
  refine ⟨q1, ?_⟩
  have hm := weights_mem he
  unfold V.valid
  rw [q2, Bool.and_true]
  exact decide_eq_true (by omega)
theorem allocH_in {l : List Bk} {t : Tb} (h : freeN l < l.length) : allocH l t = l.set (freeN l) ⟨1, t⟩ := if_pos h
theorem allocH_out {l : List Bk} {t : Tb} (h : freeN l = l.length) : allocH l t = l ++ [⟨1, t⟩] := if_neg (by omega)
theorem app_set (l : List Bk) (u w : Bk) : (l ++ [u]).set l.length w = l ++ [w] := by
  rw [List.set_append_right _ _ (Nat.le_refl _), Nat.sub_self]
  rfl
theorem allocH_cnt {l : List Bk} {t : Tb} (h : ∀ b ∈ l, 0 ≤ b.count) : ∀ b ∈ allocH l t, 0 ≤ b.count := by
  intro b hb
  unfold allocH at hb
  have e : (0 : Int) ≤ (⟨1, t⟩ : Bk).count := by show (0 : Int) ≤ 1; decide
  split at hb
  · rcases List.mem_or_eq_of_mem_set hb with hb | rfl
    · exact h b hb
    · exact e
  · rcases List.mem_append.1 hb with hb | hb
    · exact h b hb
    · rw [List.mem_singleton.1 hb]
      exact e
mutual
theorem sto_cnt : ∀ (v : V) (l : List Bk), (∀ b ∈ l, 0 ≤ b.count) → ∀ b ∈ (sto v l).1, 0 ≤ b.count
  | ⟨k, n, s, x, es⟩, l, h => by
    rw [sto]
    split
    · exact allocH_cnt (stoE_cnt es l tb0 h)
    · exact h
theorem stoE_cnt : ∀ (es : List (Ky × V)) (l : List Bk) (t : Tb), (∀ b ∈ l, 0 ≤ b.count) → ∀ b ∈ (stoE es l t).1, 0 ≤ b.count
  | [], l, t, h => by rw [stoE]; exact h
  | (k, v) :: r, l, t, h => by
    rw [stoE]
    exact stoE_cnt r _ _ (sto_cnt v l h)
end
theorem bulks_at {es : List (Ky × V)} {i : Nat} {e : Ky × V} (he : es[i]? = some e) : V.bulks (es.take i) + e.2.bulk ≤ V.bulks es := by
  have e1 := bulks_append (es.take i) (e :: es.drop (i + 1))
  rw [← at_split he] at e1
  obtain ⟨k, v⟩ := e
  simp only [V.bulks] at e1
  show V.bulks (es.take i) + v.bulk ≤ _
  omega
section
variable {P : Program} {h0 h : Hp} {K : Value → Hp → Prop} {bag : Bag}
/-- an entry whose items are taken out -/
def erw (e : Ky × V) (u : Value) : List Dt := [.raw (.bool e.1.text), .raw (.int .i64 e.1.num), .raw (.string e.1.str), .raw (.int .i64 e.2.kind), .raw (.int .i64 e.2.num), .raw (.string e.2.str), .raw (.int .i64 e.2.next), .raw u]
theorem erw_len (e : Ky × V) (u : Value) : (erw e u).length = 8 := rfl
theorem entry_open {A R : List Dt} {e : Ky × V} {v : Value} (m : My h0 h ((.row 8 (A ++ (edt e ++ R)), v) :: bag)) : ∃ a n, My h0 h ((.row 8 (e.2.items.flatMap edt), .slice a e.2.items.length n) :: (.row 8 (A ++ (erw e (.slice a e.2.items.length n) ++ R)), v) :: bag) := by
  rw [edt_eq] at m
  obtain ⟨u, m1⟩ := m.openAt (A := A) (R := R) (j := 7) rfl
  obtain ⟨a, n, rfl, _⟩ := m1.row_shape (by decide) e.2.items.length (fm_len edt_len _)
  exact ⟨a, n, m1⟩
theorem hsem_erwK {t bb j : Nat} {A R : List Dt} {e : Ky × V} {u : Value} {len cap : Nat} (ht : tyS P t = some (true, 3)) (m : My h0 h ((.row 8 (A ++ (erw e u ++ R)), .slice (some ⟨bb, 0, none⟩) len cap) :: bag)) (h0l : 0 < len) (hj : j = A.length)
    (k : K (.agg #[.bool e.1.text, .int .i64 e.1.num, .string e.1.str]) h) : HPure P (ldI t (.pointer (some ⟨bb, j, none⟩))) h K := by
  obtain ⟨xs, hr, hat⟩ := m.at_
  refine hsem_getN ht (hat h0l) hr (i := j) (ds := e.1.dt) ?_ rfl (by omega) fun ys r => ?_
  · rw [hj, List.drop_left]
    rfl
  · rw [RdL_key r]
    exact k
theorem hsem_erwV {t bb j : Nat} {A R : List Dt} {e : Ky × V} {u : Value} {len cap : Nat} (ht : tyS P t = some (true, 5)) (m : My h0 h ((.row 8 (A ++ (erw e u ++ R)), .slice (some ⟨bb, 0, none⟩) len cap) :: bag)) (h0l : 0 < len) (hj : j = A.length + 3)
    (k : K (.agg #[.int .i64 e.2.kind, .int .i64 e.2.num, .string e.2.str, .int .i64 e.2.next, u]) h) : HPure P (ldI t (.pointer (some ⟨bb, j, none⟩))) h K := by
  obtain ⟨xs, hr, hat⟩ := m.at_
  refine hsem_getN ht (hat h0l) hr (i := j) (ds := ([.int .i64 e.2.kind, .int .i64 e.2.num, .string e.2.str, .int .i64 e.2.next, u] : List Value).map .raw) ?_ rfl (by omega) fun ys r => ?_
  · rw [hj, ← List.drop_drop, List.drop_left]
    rfl
  · rw [r.of_raws]
    exact k
/-- one thing is laid aside: it becomes part of the base -/
theorem My.part {d : Dt} {v : Value} (m : My h0 h ((d, v) :: bag)) : ∃ h', My h0 h' [(d, v)] ∧ My h' h bag := by
  obtain ⟨B1, B2, l1, l2, k2, k3, k4⟩ := My.cons_iff.1 m
  obtain ⟨n1, n2, n3⟩ := List.nodup_append.1 k2
  have k4' : ∀ b o, h0 b = some o → h b = some o := k4
  refine ⟨fun b => if b ∈ B1 then h b else h0 b, My.cons_iff.2 ⟨B1, [], l1.frame fun b hb => by simp only [if_pos hb], by simp [OwL], by simpa using n1, fun b hb => k3 b (by simpa using .inl (by simpa using hb)), fun i o hi => ?_⟩, ⟨B2, l2, n2, fun b hb => ?_⟩, fun i o hi => ?_⟩
  · have hn : i ∉ B1 := fun hb => by
      rw [k3 i (List.mem_append.2 (.inl hb))] at hi
      cases hi
    simp only [if_neg hn]
    exact hi
  · have hn : b ∉ B1 := fun h1 => n3 b h1 b hb rfl
    simp only [if_neg hn]
    exact k3 b (List.mem_append.2 (.inr hb))
  · have hi : (if i ∈ B1 then h i else h0 i) = some o := hi
    split at hi
    · exact hi
    · exact k4' i o hi
/-- a value, and a heap in a variable -/
def HpR (h0 : Hp) (w : V) (l : List Bk) (bp : Nat) (R : Bag) (u : Value) (h' : Hp) : Prop := ∃ b c a n, u = .agg #[.int .i64 w.kind, .int .i64 w.num, .string w.str, .int .i64 w.next, .slice b w.items.length c] ∧ My h0 h' ((.row 8 (w.items.flatMap edt), .slice b w.items.length c) :: HpB l a n bp R)
end
end Go.Sx
/-! Counted heaps in plain Lean: what is kept where a reference is dropped; a heap without references is free. -/
namespace Go.Sx
open Go
/-- the live values of some slots; all live values of a heap -/
def refsS (ss : List Sl) : List V := (ss.filter (·.live)).map (·.val)
def refsB (l : List Bk) : List V := l.flatMap fun b => refsS b.tab.slots
theorem refsS_cons (s : Sl) (r : List Sl) : refsS (s :: r) = if s.live then s.val :: refsS r else refsS r := by
  unfold refsS
  cases h : s.live with
  | true => rw [List.filter_cons_of_pos (by simpa using h)]; rfl
  | false => rw [List.filter_cons_of_neg (by simp [h])]; rfl
theorem refsS_mem {ss : List Sl} {v : V} : v ∈ refsS ss ↔ ∃ s ∈ ss, s.live = true ∧ s.val = v := by
  unfold refsS
  simp only [List.mem_map, List.mem_filter]
  constructor
  · rintro ⟨s, ⟨h1, h2⟩, h3⟩; exact ⟨s, h1, h2, h3⟩
  · rintro ⟨s, h1, h2, h3⟩; exact ⟨s, ⟨h1, h2⟩, h3⟩
theorem refsB_mem {l : List Bk} {v : V} : v ∈ refsB l ↔ ∃ (i : Nat) (b : Bk), l[i]? = some b ∧ v ∈ refsS b.tab.slots := by
  unfold refsB
  simp only [List.mem_flatMap]
  constructor
  · rintro ⟨b, h1, h2⟩
    obtain ⟨i, hi⟩ := List.mem_iff_getElem?.1 h1
    exact ⟨i, b, hi, h2⟩
  · rintro ⟨i, b, h1, h2⟩
    exact ⟨b, List.mem_of_getElem? h1, h2⟩
/-- a reference to block i; how many there are -/
def to (i : Nat) (v : V) : Bool := decide (v.kind = 5) && decide (v.num = (i : Int))
def rc (i : Nat) (vs : List V) : Nat := (vs.filter (to i)).length
theorem rc_nil (i : Nat) : rc i [] = 0 := rfl
theorem rc_cons (i : Nat) (v : V) (r : List V) : rc i (v :: r) = rc i r + if to i v then 1 else 0 := by
  unfold rc
  cases h : to i v with
  | true => rw [List.filter_cons_of_pos h]; rfl
  | false => rw [List.filter_cons_of_neg (by simp [h])]; rfl
theorem rc_append (i : Nat) (a b : List V) : rc i (a ++ b) = rc i a + rc i b := by
  unfold rc
  rw [List.filter_append, List.length_append]
theorem rc_perm {i : Nat} {a b : List V} (h : a.Perm b) : rc i a = rc i b := (h.filter _).length_eq
theorem rc_pos {i : Nat} {vs : List V} (h : 0 < rc i vs) : ∃ v ∈ vs, to i v = true := by
  unfold rc at h
  obtain ⟨v, hv⟩ := List.exists_mem_of_length_pos h
  exact ⟨v, (List.mem_filter.1 hv).1, (List.mem_filter.1 hv).2⟩
theorem rc_zero {i : Nat} {vs : List V} (h : rc i vs = 0) {v : V} (hv : v ∈ vs) : to i v = false := by
  cases ht : to i v with
  | false => rfl
  | true =>
    have : v ∈ vs.filter (to i) := List.mem_filter.2 ⟨hv, ht⟩
    have := List.length_pos_of_mem this
    unfold rc at h
    omega
theorem to_kind {i : Nat} {v : V} (h : to i v = true) : v.kind = 5 ∧ v.num = (i : Int) := by
  unfold to at h
  simpa using h
theorem to_no {i : Nat} {v : V} (h : ¬ v.kind = 5) : to i v = false := by
  unfold to
  rw [decide_eq_false h]
  rfl
theorem rc_split {l : List Bk} {i : Nat} {b : Bk} (h : l[i]? = some b) (k : Nat) (u : Bk) : rc k (refsB (l.set i u)) + rc k (refsS b.tab.slots) = rc k (refsB l) + rc k (refsS u.tab.slots) := by
  have hlt := (List.getElem?_eq_some_iff.1 h).1
  have e1 : refsB l = refsB (l.take i) ++ (refsS b.tab.slots ++ refsB (l.drop (i + 1))) := by
    conv => lhs; rw [at_split h]
    unfold refsB
    rw [List.flatMap_append, List.flatMap_cons]
  have e2 : refsB (l.set i u) = refsB (l.take i) ++ (refsS u.tab.slots ++ refsB (l.drop (i + 1))) := by
    rw [set_split u hlt]
    unfold refsB
    rw [List.flatMap_append, List.flatMap_cons]
  rw [e1, e2]
  simp only [rc_append]
  omega
/-! what counts counts -/
theorem cnt1_at (c : List Int) (v : V) (i : Nat) (hi : i < c.length) : (cnt1 c v).getD i 0 = c.getD i 0 + (if to i v then 1 else 0 : Nat) := by
  unfold cnt1
  cases hh : hit c.length v with
  | false =>
    rw [if_neg (by simp)]
    have : to i v = false := by
      cases ht : to i v with
      | false => rfl
      | true =>
        obtain ⟨h1, h2⟩ := to_kind ht
        unfold hit at hh
        rw [decide_eq_true h1, Bool.true_and, decide_eq_false_iff_not] at hh
        omega
    rw [this]
    simp
  | true =>
    rw [if_pos rfl]
    unfold hit at hh
    simp only [Bool.and_eq_true, decide_eq_true_eq] at hh
    by_cases he : v.num.toNat = i
    · subst he
      have ht : to v.num.toNat v = true := by
        unfold to
        rw [decide_eq_true hh.1, Bool.true_and]
        exact decide_eq_true (by omega)
      rw [ht, getD_set_same hi]
      rfl
    · have ht : to i v = false := by
        unfold to
        rw [decide_eq_true hh.1, Bool.true_and]
        exact decide_eq_false (by omega)
      rw [ht, getD_set_ne he]
      simp
theorem cntV_at : ∀ (vs : List V) (c : List Int) (i : Nat), i < c.length → (cntV c vs).getD i 0 = c.getD i 0 + (rc i vs : Nat)
  | [], c, i, _ => by simp [cntV, rc_nil]
  | v :: r, c, i, hi => by
    rw [cntV, cntV_at r _ i (by rw [cnt1_len]; exact hi), cnt1_at c v i hi, rc_cons]
    omega
theorem cntSl_at : ∀ (ss : List Sl) (c : List Int) (i : Nat), i < c.length → (cntSl c ss).getD i 0 = c.getD i 0 + (rc i (refsS ss) : Nat)
  | [], c, i, _ => by simp [cntSl, refsS, rc_nil]
  | s :: r, c, i, hi => by
    rw [cntSl, refsS_cons]
    cases hl : s.live with
    | false => exact cntSl_at r c i hi
    | true =>
      simp only [if_true]
      rw [cntSl_at r _ i (by rw [cnt1_len]; exact hi), cnt1_at c s.val i hi, rc_cons]
      omega
theorem cntBl_at : ∀ (bs : List Bk) (c : List Int) (i : Nat), i < c.length → (cntBl c bs).getD i 0 = c.getD i 0 + (rc i (refsB bs) : Nat)
  | [], c, i, _ => by simp [cntBl, refsB, rc_nil]
  | b :: r, c, i, hi => by
    rw [cntBl, cntBl_at r _ i (by rw [cntSl_len]; exact hi), cntSl_at _ c i hi]
    have : refsB (b :: r) = refsS b.tab.slots ++ refsB r := by unfold refsB; rw [List.flatMap_cons]
    rw [this, rc_append]
    omega
theorem counts_at (l : List Bk) (rs : List V) (i : Nat) (hi : i < l.length) : (counts l rs).getD i 0 = (rc i (rs ++ refsB l) : Nat) := by
  unfold counts
  rw [cntBl_at _ _ i (by rw [cntV_len, List.length_replicate]; exact hi), cntV_at _ _ i (by rw [List.length_replicate]; exact hi), rc_append]
  have : (List.replicate l.length (0 : Int)).getD i 0 = 0 := by rw [List.getD_eq_getElem?_getD, List.getElem?_replicate]; split <;> rfl
  rw [this]
  omega
/-! counted -/
/-- a value that may be held, the counts aside -/
def held0 (n : Nat) (v : V) : Prop := if v.kind = 5 then (v.str = ⟨#[]⟩ ∧ v.next = 0 ∧ v.items = [] ∧ 0 ≤ v.num ∧ v.num.toNat < n) else (¬ v.kind = 4 ∧ v.wf = true)
/-- T: what is asked of the tables that are used; W: a bound of weights -/
structure Cnt (T : Tb → Prop) (W : Nat) (l : List Bk) (R : List V) : Prop where
  fr : ∀ (i : Nat) (b : Bk), l[i]? = some b → b.count = 0 → b.free = true
  tab : ∀ (i : Nat) (b : Bk), l[i]? = some b → ¬ b.count = 0 → T b.tab ∧ b.count ≤ 1000000000000
  held : ∀ v ∈ R ++ refsB l, held0 l.length v
  cnt : ∀ (i : Nat), i < l.length → (blk l i).count = (rc i (R ++ refsB l) : Nat)
  light : ∀ (i : Nat) (b : Bk), l[i]? = some b → 0 < b.count → ∃ n, n ≤ W ∧ Wt l i n
variable {T : Tb → Prop} {W : Nat}
theorem Cnt.perm {l : List Bk} {R S : List V} (h : Cnt T W l R) (p : R.Perm S) : Cnt T W l S :=
  ⟨h.fr, h.tab, fun v hv => h.held v ((p.append_right _).mem_iff.2 hv), fun i hi => by rw [h.cnt i hi, rc_perm (p.append_right _)], h.light⟩
theorem Cnt.is_held {l : List Bk} {R : List V} (h : Cnt T W l R) {v : V} (hv : v ∈ R ++ refsB l) : isHeld l v = true := by
  have h0 := h.held v hv
  unfold held0 at h0
  unfold isHeld hHeld
  by_cases k : v.kind = 5
  · rw [if_pos k] at h0 ⊢
    obtain ⟨h1, h2, h3, h4, h5⟩ := h0
    have hc := h.cnt v.num.toNat h5
    have hp : 0 < rc v.num.toNat (R ++ refsB l) := by
      cases hz : rc v.num.toNat (R ++ refsB l) with
      | succ n => omega
      | zero =>
        have := rc_zero hz hv
        unfold to at this
        rw [decide_eq_true k, Bool.true_and, decide_eq_false_iff_not] at this
        omega
    rw [decide_eq_true h1, decide_eq_true h2, decide_eq_true (show v.items.length = 0 by rw [h3]; rfl), decide_eq_true (show 0 ≤ v.num ∧ v.num ≤ (l.length : Int) - 1 by omega), decide_eq_true (show 0 < (blk l v.num.toNat).count by omega)]
    rfl
  · rw [if_neg k] at h0 ⊢
    rw [decide_eq_false h0.1, h0.2]
    rfl
theorem held_0 {l : List Bk} {v : V} (h : isHeld l v = true) : held0 l.length v := by
  unfold held0
  by_cases k : v.kind = 5
  · rw [if_pos k]
    obtain ⟨h1, h2, _⟩ := held_num h k
    have e := held_form h k
    refine ⟨?_, ?_, ?_, h1, h2⟩
    · rw [e]; rfl
    · rw [e]; rfl
    · rw [e]; rfl
  · rw [if_neg k]
    exact held_other h k
abbrev Ctd := Cnt (fun t => t.isTab = true) 200
theorem cnt_iff {l : List Bk} {R : List V} : countedB l R = true ↔ Ctd l R := by
  rw [countedB_iff]
  constructor
  · rintro ⟨hk, hr, hc⟩
    have hc := sameC_iff.1 hc
    refine ⟨fun i b hb h0 => ?_, fun i b hb h0 => ?_, fun v hv => ?_, fun i hi => ?_, hk.light⟩
    · have := hk.blk i b hb
      rwa [bkOk_free h0] at this
    · have := (bkOk_live h0).1 (hk.blk i b hb)
      exact ⟨this.2.1, this.1.2⟩
    · rcases List.mem_append.1 hv with hv | hv
      · exact held_0 (hr v hv)
      · obtain ⟨i, b, hb, hs⟩ := refsB_mem.1 hv
        obtain ⟨s, hm, hl, rfl⟩ := refsS_mem.1 hs
        obtain ⟨k, hk2⟩ := List.mem_iff_getElem?.1 hm
        exact held_0 (hk.inR i b hb k s hk2 hl)
    · rw [hc i (by rw [counts_len]; exact hi), counts_at l R i hi]
  · intro h
    refine ⟨⟨fun i b hb => ?_, h.light⟩, fun v hv => h.is_held (List.mem_append.2 (.inl hv)), sameC_iff.2 fun i hi => ?_⟩
    · by_cases h0 : b.count = 0
      · rw [bkOk_free h0]
        exact h.fr i b hb h0
      · refine (bkOk_live h0).2 ⟨⟨?_, (h.tab i b hb h0).2⟩, (h.tab i b hb h0).1, fun k s hs hl => h.is_held (List.mem_append.2 (.inr (refsB_mem.2 ⟨i, b, hb, refsS_mem.2 ⟨s, List.mem_of_getElem? hs, hl, rfl⟩⟩)))⟩
        have := h.cnt i (List.getElem?_eq_some_iff.1 hb).1
        rw [blk_get hb] at this
        omega
    · rw [counts_len] at hi
      rw [counts_at l R i hi]
      exact h.cnt i hi
/-- Without references every block is free. -/
theorem Cnt.all_free {l : List Bk} (h : Cnt T W l []) : ∀ (i : Nat) (b : Bk), l[i]? = some b → b.count = 0 ∧ b.tab.slots = [] := by
  have key : ∀ (d i n : Nat) (b : Bk), l[i]? = some b → 0 < b.count → Wt l i n → W - n ≤ d → False := by
    intro d
    induction d with
    | zero =>
      intro i n b hb hc hw hd
      obtain ⟨j, bj, hj, hv⟩ : ∃ (j : Nat) (bj : Bk), l[j]? = some bj ∧ ∃ s ∈ bj.tab.slots, s.live = true ∧ to i s.val = true := by
        have := h.cnt i (List.getElem?_eq_some_iff.1 hb).1
        rw [blk_get hb, List.nil_append] at this
        obtain ⟨v, hv, ht⟩ := rc_pos (i := i) (vs := refsB l) (by omega)
        obtain ⟨j, bj, hj, hs⟩ := refsB_mem.1 hv
        obtain ⟨s, hm, hl, rfl⟩ := refsS_mem.1 hs
        exact ⟨j, bj, hj, s, hm, hl, ht⟩
      obtain ⟨s, hs, hl, ht⟩ := hv
      obtain ⟨h5, hn⟩ := to_kind ht
      have hcj : 0 < bj.count := by
        by_cases h0 : bj.count = 0
        · rw [free_slots (h.fr j bj hj h0)] at hs
          cases hs
        · have := h.cnt j (List.getElem?_eq_some_iff.1 hj).1
          rw [blk_get hj] at this
          omega
      obtain ⟨m, hm, hwm⟩ := h.light j bj hj hcj
      obtain ⟨k, hk⟩ := List.mem_iff_getElem?.1 hs
      obtain ⟨n', hn', hlt⟩ := hwm.kid (k := k) (s := s) (by rw [blk_get hj]; exact hk) hl h5
      rw [show s.val.num.toNat = i by omega] at hn'
      have := hn'.uniq hw
      omega
    | succ d ih =>
      intro i n b hb hc hw hd
      obtain ⟨j, bj, hj, hv⟩ : ∃ (j : Nat) (bj : Bk), l[j]? = some bj ∧ ∃ s ∈ bj.tab.slots, s.live = true ∧ to i s.val = true := by
        have := h.cnt i (List.getElem?_eq_some_iff.1 hb).1
        rw [blk_get hb, List.nil_append] at this
        obtain ⟨v, hv, ht⟩ := rc_pos (i := i) (vs := refsB l) (by omega)
        obtain ⟨j, bj, hj, hs⟩ := refsB_mem.1 hv
        obtain ⟨s, hm, hl, rfl⟩ := refsS_mem.1 hs
        exact ⟨j, bj, hj, s, hm, hl, ht⟩
      obtain ⟨s, hs, hl, ht⟩ := hv
      obtain ⟨h5, hn⟩ := to_kind ht
      have hcj : 0 < bj.count := by
        by_cases h0 : bj.count = 0
        · rw [free_slots (h.fr j bj hj h0)] at hs
          cases hs
        · have := h.cnt j (List.getElem?_eq_some_iff.1 hj).1
          rw [blk_get hj] at this
          omega
      obtain ⟨m, hm, hwm⟩ := h.light j bj hj hcj
      obtain ⟨k, hk⟩ := List.mem_iff_getElem?.1 hs
      obtain ⟨n', hn', hlt⟩ := hwm.kid (k := k) (s := s) (by rw [blk_get hj]; exact hk) hl h5
      rw [show s.val.num.toNat = i by omega] at hn'
      have := hn'.uniq hw
      exact ih j m bj hj hcj hwm (by omega)
  intro i b hb
  have hz : b.count = 0 := by
    by_cases h0 : b.count = 0
    · exact h0
    · have := h.cnt i (List.getElem?_eq_some_iff.1 hb).1
      rw [blk_get hb] at this
      obtain ⟨n, hn, hw⟩ := h.light i b hb (by omega)
      exact (key (W - n) i n b hb (by omega) hw (Nat.le_refl _)).elim
  exact ⟨hz, free_slots (h.fr i b hb hz)⟩
/-! dropping -/
theorem wt_tabs {l l' : List Bk} (h : ∀ j, (blk l' j).tab = (blk l j).tab) : ∀ f i, wtF l' f i = wtF l f i
  | 0, _ => rfl
  | f + 1, i => by
    have e : wtF l' f = wtF l f := funext (wt_tabs h f)
    rw [wtF, wtF, e, h]
theorem sumW_eq {g g' : Nat → Option Nat} : ∀ (ss : List Sl), (∀ v ∈ refsS ss, v.kind = 5 → g v.num.toNat = g' v.num.toNat) → sumW g ss = sumW g' ss
  | [], _ => rfl
  | s :: r, h => by
    rw [refsS_cons] at h
    rw [sumW, sumW]
    cases hl : s.live with
    | false =>
      rw [hl] at h
      simp only [Bool.false_eq_true, if_false] at h ⊢
      exact sumW_eq r h
    | true =>
      rw [hl] at h
      simp only [if_true] at h ⊢
      rw [sumW_eq r fun v hv => h v (List.mem_cons_of_mem _ hv)]
      by_cases h5 : s.val.kind = 5
      · rw [if_pos h5, if_pos h5, h s.val (List.mem_cons_self ..) h5]
      · rw [if_neg h5, if_neg h5]
theorem refs_set {l : List Bk} {i : Nat} {u : Bk} {v : V} (h : v ∈ refsB (l.set i u)) : v ∈ refsS u.tab.slots ∨ v ∈ refsB l := by
  obtain ⟨j, b, hb, hv⟩ := refsB_mem.1 h
  rcases set_getB hb with ⟨_, rfl⟩ | hb
  · exact .inl hv
  · exact .inr (refsB_mem.2 ⟨j, b, hb, hv⟩)
theorem refs_at {l : List Bk} {i : Nat} {b : Bk} {v : V} (h : l[i]? = some b) (hv : v ∈ refsS b.tab.slots) : v ∈ refsB l := refsB_mem.2 ⟨i, b, h, hv⟩
theorem Cnt.skip {l : List Bk} {R : List V} {v : V} (h : Cnt T W l (v :: R)) (hk : ¬ v.kind = 5) : Cnt T W l R :=
  ⟨h.fr, h.tab, fun u hu => h.held u (List.mem_cons_of_mem _ hu), fun i hi => by
    have := h.cnt i hi
    rw [List.cons_append, rc_cons, to_no hk] at this
    simpa using this, h.light⟩
theorem Cnt.ref {l : List Bk} {R : List V} {v : V} (h : Cnt T W l (v :: R)) (hk : v.kind = 5) : 0 ≤ v.num ∧ v.num.toNat < l.length ∧ to v.num.toNat v = true := by
  have := h.held v (by simp)
  unfold held0 at this
  rw [if_pos hk] at this
  refine ⟨this.2.2.2.1, this.2.2.2.2, ?_⟩
  unfold to
  rw [decide_eq_true hk, Bool.true_and]
  exact decide_eq_true (by omega)
theorem to_other {i j : Nat} {v : V} (h : to i v = true) (hj : ¬ j = i) : to j v = false := by
  obtain ⟨h5, hn⟩ := to_kind h
  unfold to
  rw [decide_eq_true h5, Bool.true_and]
  exact decide_eq_false (by omega)
/-- a count goes down, and is still one at least -/
theorem Cnt.less {l : List Bk} {R : List V} {v : V} (h : Cnt T W l (v :: R)) (hk : v.kind = 5) (hc : 0 < (blk l v.num.toNat).count - 1) : Cnt T W (l.set v.num.toNat ((blk l v.num.toNat).withC ((blk l v.num.toNat).count - 1))) R := by
  obtain ⟨h1, h2, h3⟩ := h.ref hk
  have hb := blk_at h2
  have es : ((blk l v.num.toNat).withC ((blk l v.num.toNat).count - 1)).tab = (blk l v.num.toNat).tab := rfl
  have rcs : ∀ k, rc k (refsB (l.set v.num.toNat ((blk l v.num.toNat).withC ((blk l v.num.toNat).count - 1)))) = rc k (refsB l) := fun k => by
    have := rc_split hb k ((blk l v.num.toNat).withC ((blk l v.num.toNat).count - 1))
    rw [es] at this
    omega
  have hmem : ∀ u, u ∈ refsB (l.set v.num.toNat ((blk l v.num.toNat).withC ((blk l v.num.toNat).count - 1))) → u ∈ refsB l := fun u hu => by
    rcases refs_set hu with hu | hu
    · rw [es] at hu
      exact refs_at hb hu
    · exact hu
  have tabs : ∀ j, (blk (l.set v.num.toNat ((blk l v.num.toNat).withC ((blk l v.num.toNat).count - 1))) j).tab = (blk l j).tab := fun j => by
    by_cases hj : v.num.toNat = j
    · subst hj
      rw [blk_set_same h2, es]
    · rw [blk_set_ne hj]
  refine ⟨fun j b hb' h0 => ?_, fun j b hb' h0 => ?_, fun u hu => ?_, fun j hj => ?_, fun j b hb' h0 => ?_⟩
  · rcases set_getB hb' with ⟨_, rfl⟩ | hb'
    · have : (blk l v.num.toNat).count - 1 = 0 := h0
      omega
    · exact h.fr j b hb' h0
  · rcases set_getB hb' with ⟨_, rfl⟩ | hb'
    · have := h.tab _ _ hb (by omega)
      exact ⟨this.1, by show (blk l v.num.toNat).count - 1 ≤ _; omega⟩
    · exact h.tab j b hb' h0
  · rw [List.length_set]
    rcases List.mem_append.1 hu with hu | hu
    · exact h.held u (by simp [hu])
    · exact h.held u (List.mem_append.2 (.inr (hmem u hu)))
  · rw [List.length_set] at hj
    have hcj := h.cnt j hj
    rw [List.cons_append, rc_cons, rc_append] at hcj
    rw [rc_append, rcs]
    by_cases hji : v.num.toNat = j
    · subst hji
      rw [blk_set_same h2]
      show (blk l v.num.toNat).count - 1 = _
      rw [hcj, h3]
      simp only [if_true]
      omega
    · rw [blk_set_ne hji, hcj, to_other h3 (fun e => hji e.symm)]
      simp
  · have hpos : ∃ b', l[j]? = some b' ∧ 0 < b'.count := by
      rcases set_getB hb' with ⟨rfl, rfl⟩ | hb'
      · exact ⟨_, hb, by have : 0 < (blk l v.num.toNat).count - 1 := h0; omega⟩
      · exact ⟨b, hb', h0⟩
    obtain ⟨b', hb2, hc2⟩ := hpos
    obtain ⟨n, hn, f, hf⟩ := h.light j b' hb2 hc2
    exact ⟨n, hn, f, by rw [wt_tabs tabs]; exact hf⟩
theorem bk0_free : bk0.free = true := rfl
/-- the last reference goes: the block is free, what it named is named by the pending ones -/
theorem Cnt.gone {l : List Bk} {R : List V} {v : V} (h : Cnt T W l (v :: R)) (hk : v.kind = 5) (hc : ¬ 0 < (blk l v.num.toNat).count - 1) : Cnt T W (l.set v.num.toNat bk0) (refsS (blk l v.num.toNat).tab.slots ++ R) := by
  obtain ⟨h1, h2, h3⟩ := h.ref hk
  have hb := blk_at h2
  have rcs : ∀ k, rc k (refsB (l.set v.num.toNat bk0)) + rc k (refsS (blk l v.num.toNat).tab.slots) = rc k (refsB l) := fun k => by
    have := rc_split hb k bk0
    have e0 : rc k (refsS bk0.tab.slots) = 0 := rfl
    omega
  have hmem : ∀ u, u ∈ refsB (l.set v.num.toNat bk0) → u ∈ refsB l := fun u hu => by
    rcases refs_set hu with hu | hu
    · cases hu
    · exact hu
  have hi := h.cnt v.num.toNat h2
  rw [List.cons_append, rc_cons, rc_append, h3] at hi
  simp only [if_true] at hi
  have hz : rc v.num.toNat R + rc v.num.toNat (refsB l) = 0 := by omega
  have hz2 : rc v.num.toNat (refsB (l.set v.num.toNat bk0)) = 0 := by have := rcs v.num.toNat; omega
  refine ⟨fun j b hb' h0 => ?_, fun j b hb' h0 => ?_, fun u hu => ?_, fun j hj => ?_, fun j b hb' h0 => ?_⟩
  · rcases set_getB hb' with ⟨_, rfl⟩ | hb'
    · exact bk0_free
    · exact h.fr j b hb' h0
  · rcases set_getB hb' with ⟨_, rfl⟩ | hb'
    · exact absurd rfl h0
    · exact h.tab j b hb' h0
  · rw [List.length_set]
    rcases List.mem_append.1 hu with hu | hu
    · rcases List.mem_append.1 hu with hu | hu
      · exact h.held u (List.mem_append.2 (.inr (refs_at hb hu)))
      · exact h.held u (by simp [hu])
    · exact h.held u (List.mem_append.2 (.inr (hmem u hu)))
  · rw [List.length_set] at hj
    have hcj := h.cnt j hj
    rw [List.cons_append, rc_cons, rc_append] at hcj
    have hr := rcs j
    rw [rc_append, rc_append]
    by_cases hji : v.num.toNat = j
    · subst hji
      rw [blk_set_same h2]
      show (0 : Int) = _
      omega
    · rw [blk_set_ne hji, hcj, to_other h3 (fun e => hji e.symm)]
      simp only [Bool.false_eq_true, if_false]
      omega
  · rcases set_getB hb' with ⟨_, rfl⟩ | hb2
    · exact absurd h0 (by decide)
    · have hji : ¬ v.num.toNat = j := fun e => by
        subst e
        rw [List.getElem?_set, if_pos rfl, if_pos h2] at hb'
        cases hb'
        exact absurd h0 (by decide)
      obtain ⟨n, hn, f, hf⟩ := h.light j b hb2 h0
      refine ⟨n, hn, f, ?_⟩
      have key : ∀ (g j : Nat), ¬ v.num.toNat = j → wtF (l.set v.num.toNat bk0) g j = wtF l g j := by
        intro g
        induction g with
        | zero => intro j _; rfl
        | succ g ih =>
          intro j hj
          rw [wtF, wtF, blk_set_ne hj]
          congr 1
          refine sumW_eq _ fun u hu h5 => ih _ fun e => ?_
          by_cases hjl : j < l.length
          · have hbj : (l.set v.num.toNat bk0)[j]? = some (blk l j) := by
              rw [List.getElem?_set, if_neg hj]
              exact blk_at hjl
            have hub := refs_at hbj hu
            have ht := rc_zero hz2 hub
            have hh := h.held u (List.mem_append.2 (.inr (hmem u hub)))
            unfold held0 at hh
            rw [if_pos h5] at hh
            unfold to at ht
            rw [decide_eq_true h5, Bool.true_and, decide_eq_false_iff_not] at ht
            omega
          · rw [blk_out (by omega)] at hu
            cases hu
      rw [key f j hji]
      exact hf
theorem refIn_of {l : List Bk} {R : List V} {v : V} (h : Cnt T W l R) (hv : v ∈ R ++ refsB l) : refIn l.length v := fun k => by
  have := h.held v hv
  unfold held0 at this
  rw [if_pos k] at this
  exact ⟨this.2.2.2.1, this.2.2.2.2⟩
theorem Cnt.hIn {l : List Bk} {R : List V} (h : Cnt T W l R) : hIn l.length 1000000000000 l := by
  refine ⟨rfl, fun i b hb k s hs hl h5 => ?_, fun i b hb => ?_⟩
  · exact refIn_of h (List.mem_append.2 (.inr (refs_at hb (refsS_mem.2 ⟨s, List.mem_of_getElem? hs, hl, rfl⟩)))) h5
  · have hc := h.cnt i (List.getElem?_eq_some_iff.1 hb).1
    rw [blk_get hb] at hc
    by_cases h0 : b.count = 0
    · omega
    · have := (h.tab i b hb h0).2
      omega
mutual
/-- A reference is dropped. -/
theorem Cnt.drop : ∀ (f : Nat) (l : List Bk) (v : V) (R : List V), slotsN l < f → Cnt T W l (v :: R) → Cnt T W (dropF f l v) R
  | 0, _, _, _, hf, _ => by omega
  | f + 1, l, v, R, hf, h => by
    by_cases hk : v.kind = 5
    · by_cases hc : 0 < (blk l v.num.toNat).count - 1
      · rw [dropF_keep hk hc]
        exact h.less hk hc
      · rw [dropF_gone hk hc]
        obtain ⟨h1, h2, h3⟩ := h.ref hk
        have hs := slotsN_set h2 bk0
        have e0 : bk0.tab.slots.length = 0 := rfl
        refine Cnt.drops f (blk l v.num.toNat).tab.slots (l.set v.num.toNat bk0) R (fun hne => ?_) (h.gone hk hc)
        have : 0 < (blk l v.num.toNat).tab.slots.length := List.length_pos_iff.2 hne
        omega
    · rw [dropF_other hk]
      exact h.skip hk
theorem Cnt.drops (f : Nat) : ∀ (ss : List Sl) (l : List Bk) (R : List V), (ss ≠ [] → slotsN l < f) → Cnt T W l (refsS ss ++ R) → Cnt T W (dropS (dropF f) l ss) R
  | [], l, R, _, h => h
  | s :: r, l, R, hf, h => by
    rw [dropS]
    rw [refsS_cons] at h
    cases hl : s.live with
    | false =>
      rw [hl] at h
      simp only [Bool.false_eq_true, if_false] at h ⊢
      exact Cnt.drops f r l R (fun _ => hf (by simp)) h
    | true =>
      rw [hl] at h
      simp only [if_true] at h ⊢
      have h0 := hf (by simp)
      have h2 := Cnt.drop f l s.val (refsS r ++ R) h0 h
      have h3 := (drop_in f l s.val h.hIn (refIn_of h (by simp))).2
      exact Cnt.drops f r _ R (fun _ => by omega) h2
end
/-- .. of a counted heap -/
theorem counted_drop {l : List Bk} {rs : List V} {k : Nat} {v : V} (h : countedB l rs = true) (hk : rs[k]? = some v) : countedB (dropF (slotsN l + 1) l v) (rs.take k ++ rs.drop (k + 1)) = true := by
  refine cnt_iff.2 (Cnt.drop _ l v _ (Nat.lt_succ_self _) ((cnt_iff.1 h).perm ?_))
  conv => lhs; rw [at_split hk]
  exact List.perm_middle
/-! a new block -/
theorem freeN_count {l : List Bk} {R : List V} (h : Cnt T W l R) (hf : freeN l < l.length) : (blk l (freeN l)).count = 0 ∧ (blk l (freeN l)).tab.slots = [] := by
  have hb := blk_at hf
  have h1 := freeN_at hb
  have h2 := h.cnt _ hf
  have h0 : (blk l (freeN l)).count = 0 := by omega
  exact ⟨h0, free_slots (h.fr _ _ hb h0)⟩
theorem hnd_to (i j : Nat) : to j (hnd i) = decide (j = i) := by
  unfold to
  show (decide ((5 : Int) = 5) && decide (((i : Nat) : Int) = (j : Int))) = _
  rw [decide_eq_true rfl, Bool.true_and]
  by_cases h : j = i
  · rw [decide_eq_true h, h]
    exact decide_eq_true rfl
  · rw [decide_eq_false h]
    exact decide_eq_false (by omega)
theorem held0_up {n m : Nat} {v : V} (h : held0 n v) (e : n ≤ m) : held0 m v := by
  unfold held0 at h ⊢
  by_cases k : v.kind = 5
  · rw [if_pos k] at h ⊢
    exact ⟨h.1, h.2.1, h.2.2.1, h.2.2.2.1, by omega⟩
  · rw [if_neg k] at h ⊢
    exact h
theorem held0_hnd {n i : Nat} (h : i < n) : held0 n (hnd i) := by
  unfold held0
  rw [if_pos (show (hnd i).kind = 5 from rfl)]
  exact ⟨rfl, rfl, rfl, by show (0 : Int) ≤ (i : Nat); omega, by show ((i : Nat) : Int).toNat < n; omega⟩
theorem rc_far {l : List Bk} {R : List V} (h : Cnt T W l R) {j : Nat} (hj : l.length ≤ j) : rc j (R ++ refsB l) = 0 := by
  cases hz : rc j (R ++ refsB l) with
  | zero => rfl
  | succ n =>
    obtain ⟨v, hv, ht⟩ := rc_pos (i := j) (vs := R ++ refsB l) (by omega)
    obtain ⟨h5, hn⟩ := to_kind ht
    have := refIn_of h hv h5
    omega
theorem refsB_app (a b : List Bk) : refsB (a ++ b) = refsB a ++ refsB b := by unfold refsB; rw [List.flatMap_append]
theorem blk_app {l : List Bk} {u : Bk} {j : Nat} (hj : j < l.length) : blk (l ++ [u]) j = blk l j := by
  unfold blk
  rw [List.getD_eq_getElem?_getD, List.getD_eq_getElem?_getD, List.getElem?_append_left hj]
theorem blk_new {l : List Bk} {u : Bk} : blk (l ++ [u]) l.length = u := by
  unfold blk
  rw [List.getD_eq_getElem?_getD, List.getElem?_append_right (Nat.le_refl _), Nat.sub_self]
  rfl
/-- what the new heap's blocks are -/
theorem alloc_blk {l : List Bk} {t : Tb} (j : Nat) : blk (allocH l t) j = if j = freeN l then ⟨1, t⟩ else blk l j := by
  have hle := freeN_le l
  by_cases hf : freeN l < l.length
  · rw [allocH_in hf]
    by_cases hj : j = freeN l
    · rw [if_pos hj, hj, blk_set_same hf]
    · rw [if_neg hj, blk_set_ne (fun e => hj e.symm)]
  · have he : freeN l = l.length := by omega
    rw [allocH_out he]
    by_cases hj : j = freeN l
    · rw [if_pos hj, hj, he, blk_new]
    · rw [if_neg hj]
      by_cases hlt : j < l.length
      · exact blk_app hlt
      · have h2 : (l ++ [(⟨1, t⟩ : Bk)]).length ≤ j := by
          rw [List.length_append, List.length_singleton]
          omega
        exact (blk_out h2).trans (blk_out (show l.length ≤ j by omega)).symm
theorem alloc_rc {l : List Bk} {R : List V} (h : Cnt T W l R) (t : Tb) (k : Nat) : rc k (refsB (allocH l t)) = rc k (refsB l) + rc k (refsS t.slots) := by
  have hle := freeN_le l
  by_cases hf : freeN l < l.length
  · rw [allocH_in hf]
    have := rc_split (blk_at hf) k ⟨1, t⟩
    rw [(freeN_count h hf).2] at this
    have e0 : rc k (refsS []) = 0 := rfl
    have e1 : (⟨1, t⟩ : Bk).tab.slots = t.slots := rfl
    rw [e1] at this
    omega
  · rw [allocH_out (by omega), refsB_app, rc_append]
    have : refsB [(⟨1, t⟩ : Bk)] = refsS t.slots := by unfold refsB; rw [List.flatMap_cons, List.flatMap_nil, List.append_nil]
    rw [this]
theorem alloc_mem {l : List Bk} {t : Tb} {u : V} (h : u ∈ refsB (allocH l t)) : u ∈ refsS t.slots ∨ u ∈ refsB l := by
  have hle := freeN_le l
  by_cases hf : freeN l < l.length
  · rw [allocH_in hf] at h
    exact refs_set h
  · rw [allocH_out (by omega), refsB_app] at h
    rcases List.mem_append.1 h with h | h
    · exact .inr h
    · unfold refsB at h
      rw [List.flatMap_cons, List.flatMap_nil, List.append_nil] at h
      exact .inl h
theorem blk_some {l : List Bk} {j : Nat} {b : Bk} (h : l[j]? = some b) : j < l.length ∧ b = blk l j := ⟨(List.getElem?_eq_some_iff.1 h).1, (blk_get h).symm⟩
/-- weights of what does not name a block do not see it -/
theorem wt_skip {l l' : List Bk} {i : Nat} (hb : ∀ j, ¬ j = i → blk l' j = blk l j) (hr : ∀ u ∈ refsB l, u.kind = 5 → ¬ u.num.toNat = i) : ∀ (f j : Nat), ¬ j = i → j < l.length → wtF l' f j = wtF l f j
  | 0, _, _, _ => rfl
  | f + 1, j, hj, hlt => by
    rw [wtF, wtF, hb j hj]
    congr 1
    refine sumW_eq _ fun u hu h5 => ?_
    have hm : u ∈ refsB l := refs_at (blk_at hlt) hu
    by_cases hul : u.num.toNat < l.length
    · exact wt_skip hb hr f _ (hr u hm h5) hul
    · cases f with
      | zero => rfl
      | succ f => rw [wtF, wtF, hb _ (hr u hm h5)]; simp only [blk_out (show l.length ≤ u.num.toNat by omega)]; rfl
theorem alloc_lt {l : List Bk} {t : Tb} {j : Nat} (h : j < (allocH l t).length) (hj : ¬ j = freeN l) : j < l.length := by
  have hle := freeN_le l
  by_cases hf : freeN l < l.length
  · rw [allocH_in hf, List.length_set] at h
    exact h
  · rw [allocH_out (by omega), List.length_append, List.length_singleton] at h
    omega
theorem sum_skip {l l' : List Bk} {i : Nat} {ss : List Sl} {m : Nat} (hb : ∀ j, ¬ j = i → blk l' j = blk l j) (hr : ∀ u ∈ refsB l, u.kind = 5 → ¬ u.num.toNat = i) (hs : ∀ u ∈ refsS ss, u.kind = 5 → ¬ u.num.toNat = i ∧ u.num.toNat < l.length) (h : SumR l ss m) : SumR l' ss m := by
  obtain ⟨f, hf⟩ := h
  refine ⟨f, ?_⟩
  rw [← hf]
  exact sumW_eq _ fun u hu h5 => wt_skip hb hr f _ (hs u hu h5).1 (hs u hu h5).2
/-- A new block takes what it names from the pending references, and is named by one more. -/
theorem Cnt.alloc {l : List Bk} {R : List V} {t : Tb} {m : Nat} (h : Cnt T W l (refsS t.slots ++ R)) (ht : T t) (hm : m + 1 ≤ W) (hw : SumR l t.slots m) (h1 : 1 ≤ (1000000000000 : Int)) :
    Cnt T W (allocH l t) (hnd (freeN l) :: R) ∧ Wt (allocH l t) (freeN l) (m + 1) ∧ ∀ j, ¬ j = freeN l → j < l.length → ∀ n, Wt l j n → Wt (allocH l t) j n := by
  have hle := freeN_le l
  obtain ⟨q1, q2, q3⟩ := allocH_len l t
  have hz : rc (freeN l) ((refsS t.slots ++ R) ++ refsB l) = 0 := by
    by_cases hf : freeN l < l.length
    · have := h.cnt _ hf
      rw [(freeN_count h hf).1] at this
      omega
    · exact rc_far h (by omega)
  have hno : ∀ u ∈ (refsS t.slots ++ R) ++ refsB l, u.kind = 5 → ¬ u.num.toNat = freeN l ∧ u.num.toNat < l.length := fun u hu h5 => by
    have := refIn_of h hu h5
    have ht := rc_zero hz hu
    unfold to at ht
    rw [decide_eq_true h5, Bool.true_and, decide_eq_false_iff_not] at ht
    exact ⟨by omega, this.2⟩
  have hb : ∀ j, ¬ j = freeN l → blk (allocH l t) j = blk l j := fun j hj => by rw [alloc_blk, if_neg hj]
  have hbi : blk (allocH l t) (freeN l) = ⟨1, t⟩ := by rw [alloc_blk, if_pos rfl]
  have hr : ∀ u ∈ refsB l, u.kind = 5 → ¬ u.num.toNat = freeN l := fun u hu h5 => (hno u (List.mem_append.2 (.inr hu)) h5).1
  have hwi : Wt (allocH l t) (freeN l) (m + 1) := Wt.iff.2 ⟨m, by
    rw [hbi]
    exact sum_skip hb hr (fun u hu h5 => hno u (by simp [hu]) h5) hw, rfl⟩
  have hwj : ∀ j, ¬ j = freeN l → j < l.length → ∀ n, Wt l j n → Wt (allocH l t) j n := fun j hj hlt n ⟨f, hf⟩ => ⟨f, by rw [wt_skip hb hr f j hj hlt]; exact hf⟩
  refine ⟨⟨fun j b hjb h0 => ?_, fun j b hjb h0 => ?_, fun u hu => ?_, fun j hj => ?_, fun j b hjb h0 => ?_⟩, hwi, hwj⟩
  · obtain ⟨hlt, rfl⟩ := blk_some hjb
    by_cases hj : j = freeN l
    · rw [hj, hbi] at h0
      exact absurd (show (1 : Int) = 0 from h0) (by decide)
    · rw [hb j hj] at h0 ⊢
      exact h.fr j _ (blk_at (alloc_lt hlt hj)) h0
  · obtain ⟨hlt, rfl⟩ := blk_some hjb
    by_cases hj : j = freeN l
    · rw [hj, hbi]
      exact ⟨ht, h1⟩
    · rw [hb j hj] at h0 ⊢
      exact h.tab j _ (blk_at (alloc_lt hlt hj)) h0
  · rcases List.mem_append.1 hu with hu | hu
    · rcases List.mem_cons.1 hu with rfl | hu
      · exact held0_hnd q3
      · exact held0_up (h.held u (by simp [hu])) q1
    · rcases alloc_mem hu with hu | hu
      · exact held0_up (h.held u (by simp [hu])) q1
      · exact held0_up (h.held u (by simp [hu])) q1
  · rw [rc_append, rc_cons, alloc_rc h, hnd_to]
    simp only [rc_append] at hz
    by_cases hji : j = freeN l
    · rw [hji, hbi, decide_eq_true rfl]
      simp only [if_true]
      show (1 : Int) = _
      omega
    · rw [hb j hji, h.cnt j (alloc_lt hj hji), decide_eq_false hji]
      simp only [rc_append, Bool.false_eq_true, if_false]
      omega
  · obtain ⟨hlt, rfl⟩ := blk_some hjb
    by_cases hj : j = freeN l
    · rw [hj]
      exact ⟨m + 1, hm, hwi⟩
    · rw [hb j hj] at h0
      have hlt2 := alloc_lt hlt hj
      obtain ⟨n, hn, hwn⟩ := h.light j _ (blk_at hlt2) h0
      exact ⟨n, hn, hwj j hj hlt2 n hwn⟩
/-- One more reference to what is held. -/
theorem Cnt.share {l : List Bk} {R : List V} {v : V} (h : Cnt T W l R) (hv : v ∈ R ++ refsB l) (hc : v.kind = 5 → (blk l v.num.toNat).count < 1000000000000) : Cnt T W (shareH l v) (v :: R) := by
  have hv0 := h.held v hv
  by_cases hk : v.kind = 5
  · rw [shareH_this hk]
    have hri := refIn_of h hv hk
    obtain ⟨h1, h2⟩ := hri
    have h3 : to v.num.toNat v = true := by
      unfold to
      rw [decide_eq_true hk, Bool.true_and]
      exact decide_eq_true (by omega)
    have hb := blk_at h2
    have hcc := hc hk
    have es : ((blk l v.num.toNat).withC ((blk l v.num.toNat).count + 1)).tab = (blk l v.num.toNat).tab := rfl
    have hcn := h.cnt _ h2
    have hpos : 0 < (blk l v.num.toNat).count := by
      have := (Cnt.is_held h hv)
      exact (held_num this hk).2.2
    have rcs : ∀ k, rc k (refsB (l.set v.num.toNat ((blk l v.num.toNat).withC ((blk l v.num.toNat).count + 1)))) = rc k (refsB l) := fun k => by
      have := rc_split hb k ((blk l v.num.toNat).withC ((blk l v.num.toNat).count + 1))
      rw [es] at this
      omega
    have hmem : ∀ u, u ∈ refsB (l.set v.num.toNat ((blk l v.num.toNat).withC ((blk l v.num.toNat).count + 1))) → u ∈ refsB l := fun u hu => by
      rcases refs_set hu with hu | hu
      · rw [es] at hu
        exact refs_at hb hu
      · exact hu
    have tabs : ∀ j, (blk (l.set v.num.toNat ((blk l v.num.toNat).withC ((blk l v.num.toNat).count + 1))) j).tab = (blk l j).tab := fun j => by
      by_cases hj : v.num.toNat = j
      · subst hj
        rw [blk_set_same h2, es]
      · rw [blk_set_ne hj]
    refine ⟨fun j b hb' h0 => ?_, fun j b hb' h0 => ?_, fun u hu => ?_, fun j hj => ?_, fun j b hb' h0 => ?_⟩
    · rcases set_getB hb' with ⟨_, rfl⟩ | hb'
      · have : (blk l v.num.toNat).count + 1 = 0 := h0
        omega
      · exact h.fr j b hb' h0
    · rcases set_getB hb' with ⟨_, rfl⟩ | hb'
      · have := h.tab _ _ hb (by omega)
        exact ⟨this.1, by show (blk l v.num.toNat).count + 1 ≤ _; omega⟩
      · exact h.tab j b hb' h0
    · rw [List.length_set]
      rcases List.mem_append.1 hu with hu | hu
      · rcases List.mem_cons.1 hu with rfl | hu
        · exact hv0
        · exact h.held u (by simp [hu])
      · exact h.held u (List.mem_append.2 (.inr (hmem u hu)))
    · rw [List.length_set] at hj
      have hcj := h.cnt j hj
      rw [List.cons_append, rc_cons, rc_append, rcs]
      rw [rc_append] at hcj
      by_cases hji : v.num.toNat = j
      · subst hji
        rw [blk_set_same h2]
        show (blk l v.num.toNat).count + 1 = _
        rw [hcj, h3]
        simp only [if_true]
        omega
      · rw [blk_set_ne hji, hcj, to_other h3 (fun e => hji e.symm)]
        simp
    · have hpos2 : ∃ b', l[j]? = some b' ∧ 0 < b'.count := by
        rcases set_getB hb' with ⟨rfl, rfl⟩ | hb'
        · exact ⟨_, hb, hpos⟩
        · exact ⟨b, hb', h0⟩
      obtain ⟨b', hb2, hc2⟩ := hpos2
      obtain ⟨n, hn, f, hf⟩ := h.light j b' hb2 hc2
      exact ⟨n, hn, f, by rw [wt_tabs tabs]; exact hf⟩
  · rw [shareH_other hk]
    refine ⟨h.fr, h.tab, fun u hu => ?_, fun i hi => ?_, h.light⟩
    · rcases List.mem_cons.1 hu with rfl | hu
      · exact hv0
      · exact h.held u hu
    · rw [List.cons_append, rc_cons, to_no hk, h.cnt i hi]
      simp
end Go.Sx
/-! Tables of counted heaps: what a key's new value does to the live values. -/
namespace Go.Sx
open Go
theorem refsS_append (a b : List Sl) : refsS (a ++ b) = refsS a ++ refsS b := by
  unfold refsS
  rw [List.filter_append, List.map_append]
theorem push_refs (t : Tb) (k : Ky) (v : V) : refsS (t.push k v).slots = refsS t.slots ++ [v] := by
  show refsS (t.slots ++ [⟨k, v, true, t.link k⟩]) = _
  rw [refsS_append]
  rfl
theorem pushAll_refs : ∀ (ss : List Sl) (o : Tb), refsS (o.pushAll ss).slots = refsS o.slots ++ refsS ss
  | [], o => by rw [Tb.pushAll]; simp [refsS]
  | s :: r, o => by
    rw [Tb.pushAll, pushAll_refs r, refsS_cons]
    split
    · rw [push_refs, List.append_assoc]
      rfl
    · rfl
theorem build_refs (t : Tb) : refsS t.build.slots = refsS t.slots := by
  unfold Tb.build
  rw [pushAll_refs]
  rfl
theorem hashIf_refs (t : Tb) (k : Ky) : refsS (t.hashIf k).slots = refsS t.slots := by
  unfold Tb.hashIf
  split
  · exact build_refs t
  · rfl
theorem growIf_refs (t : Tb) : refsS t.growIf.slots = refsS t.slots := by
  unfold Tb.growIf
  split
  · exact build_refs t
  · rfl
theorem put_new {t : Tb} {k : Ky} (h : t.find k = none) (x : V) : refsS (t.put k x).slots = refsS t.slots ++ [x] := by
  unfold Tb.put
  rw [h]
  show refsS (((t.hashIf k).growIf).push k x).slots = _
  rw [push_refs, growIf_refs, hashIf_refs]
/-- a value in the place of another -/
theorem put_old {t : Tb} {k : Ky} {j : Nat} (h : t.find k = some j) (x : V) : ∃ (s : Sl) (a b : List V), t.slots[j]? = some s ∧ s.live = true ∧ refsS t.slots = a ++ s.val :: b ∧ refsS (t.put k x).slots = a ++ x :: b := by
  obtain ⟨s, hs, hl⟩ := Tb.find_live h
  refine ⟨s, refsS (t.slots.take j), refsS (t.slots.drop (j + 1)), hs, hl, ?_, ?_⟩
  · conv => lhs; rw [← List.take_append_drop j t.slots, drop_cons hs, refsS_append, refsS_cons, hl]
    rfl
  · unfold Tb.put
    rw [h]
    show refsS (t.setVal j x).slots = _
    rw [Tb.setVal_eq hs]
    show refsS (t.slots.take j ++ ⟨s.key, x, s.live, s.link⟩ :: t.slots.drop (j + 1)) = _
    rw [refsS_append, refsS_cons]
    show refsS (t.slots.take j) ++ (if s.live = true then x :: refsS (t.slots.drop (j + 1)) else _) = _
    rw [hl]
    rfl
/-! a table stays one -/
theorem p2_roomN {c : Nat} (h : c < 1024) : p2 (roomN c) = true := by
  unfold roomN
  by_cases h0 : 8 ≤ c
  case neg => rw [dbl_stop (by omega)]; rfl
  rw [dbl_up (by omega)]
  by_cases h1 : 16 ≤ c
  case neg => rw [dbl_stop (by omega)]; rfl
  rw [dbl_up (by omega)]
  by_cases h2 : 32 ≤ c
  case neg => rw [dbl_stop (by omega)]; rfl
  rw [dbl_up (by omega)]
  by_cases h3 : 64 ≤ c
  case neg => rw [dbl_stop (by omega)]; rfl
  rw [dbl_up (by omega)]
  by_cases h4 : 128 ≤ c
  case neg => rw [dbl_stop (by omega)]; rfl
  rw [dbl_up (by omega)]
  by_cases h5 : 256 ≤ c
  case neg => rw [dbl_stop (by omega)]; rfl
  rw [dbl_up (by omega)]
  by_cases h6 : 512 ≤ c
  case neg => rw [dbl_stop (by omega)]; rfl
  rw [dbl_up (by omega)]
  rw [dbl_stop (by omega)]
  rfl
theorem Tb.wf.withNext {t : Tb} (w : t.wf) {n : Int} (h1 : t.next ≤ n) (h2 : n ≤ 1000000001) : (Tb.mk t.hashed t.heads t.slots n t.count).wf where
  next := ⟨by have := w.next.1; show 0 ≤ n; omega, h2⟩
  keys i s hs := by
    obtain ⟨a, b, c⟩ := w.keys i s hs
    refine ⟨a, ?_, c⟩
    show s.key.text = true ∨ s.key.num < n
    rcases b with b | b
    · exact .inl b
    · exact .inr (by omega)
  dist := w.dist
  cnt := w.cnt
  packed h := by
    obtain ⟨a, b, c⟩ := w.packed h
    refine ⟨a, ?_, c⟩
    show (t.slots.length : Int) ≤ n
    omega
  hash := w.hash
theorem Tb.wf.push {t : Tb} (w : t.wf) {k : Ky} (v : V) (hf : t.fits k) (hk : keyOk k = true) (hn : k.text = true ∨ k.num < t.next) (hd : ∀ s ∈ t.slots, s.live = true → ¬ s.key = k) : (t.push k v).wf where
  next := w.next
  keys i s hs := by
    rcases snoc_get (show (t.slots ++ [_])[i]? = some s from hs) with ⟨_, hs⟩ | ⟨rfl, rfl⟩
    · exact w.keys i s hs
    · exact ⟨hk, hn, .inl rfl⟩
  dist i j s u hj hs hu hl hm := by
    rcases snoc_get (show (t.slots ++ [_])[i]? = some s from hs) with ⟨_, hs⟩ | ⟨rfl, rfl⟩
    · rcases snoc_get (show (t.slots ++ [_])[j]? = some u from hu) with ⟨_, hu⟩ | ⟨rfl, rfl⟩
      · exact w.dist i j s u hj hs hu hl hm
      · omega
    · rcases snoc_get (show (t.slots ++ [_])[j]? = some u from hu) with ⟨_, hu⟩ | ⟨rfl, rfl⟩
      · exact hd u (List.mem_of_getElem? hu) hm
      · omega
  cnt := by
    show t.count + 1 = (liveN (t.slots ++ [_]) : Nat)
    rw [liveN_append, liveN_one, w.cnt]
    simp
  packed h := by
    have h : t.hashed = false := h
    obtain ⟨a, b, c, d⟩ := w.packed h
    obtain ⟨e1, e2⟩ := hf.2 h
    have ln : (t.push k v).slots.length = t.slots.length + 1 := by show (t.slots ++ [_]).length = _; simp
    refine ⟨?_, ?_, by omega, fun i s hs => ?_⟩
    · rw [push_heads']
      exact a
    · rw [ln]
      show ((t.slots.length + 1 : Nat) : Int) ≤ t.next
      rcases hn with hn | hn
      · rw [e2] at hn
        cases hn
      · rw [e2] at hn
        have hn : (t.slots.length : Int) < t.next := hn
        omega
    · rcases snoc_get (show (t.slots ++ [_])[i]? = some s from hs) with ⟨_, hs⟩ | ⟨rfl, rfl⟩
      · exact d i s hs
      · refine ⟨e2, ?_⟩
        show t.link k = -1
        unfold Tb.link
        rw [h]
        rfl
  hash h := by
    have h : t.hashed = true := h
    obtain ⟨a, b, c, d, e⟩ := w.hash h
    have e1 := hf.1 h
    have ln : (t.push k v).slots.length = t.slots.length + 1 := by show (t.slots ++ [_]).length = _; simp
    have hl : (t.push k v).heads.length = t.heads.length := push_heads' t k v
    have hm : k.hash % t.heads.length < t.heads.length := Nat.mod_lt _ (by omega)
    refine ⟨by rw [hl]; exact a, by rw [hl]; exact b, by omega, fun i s hs => ?_, ?_⟩
    · rw [hl]
      show (hdsN t.heads.length (t.slots ++ [_]) i)[s.key.hash % t.heads.length]? = _
      rcases snoc_get (show (t.slots ++ [_])[i]? = some s from hs) with ⟨hi, hs⟩ | ⟨rfl, rfl⟩
      · rw [hdsN_append _ _ _ _ (by omega)]
        exact d i s hs
      · rw [hdsN_append _ _ _ _ (Nat.le_refl _), ← e]
        show t.heads[k.hash % t.heads.length]? = some (t.link k)
        unfold Tb.link
        rw [h]
        exact getD_at hm
    · rw [hl, ln]
      show (if t.hashed then t.heads.set (k.hash % t.heads.length) (t.slots.length : Nat) else t.heads) = hdsN t.heads.length (t.slots ++ [_]) _
      rw [if_pos h, hdsN_succ (s := ⟨k, v, true, t.link k⟩) (by simp), hdsN_append _ _ _ _ (Nat.le_refl _), ← e]
theorem Tb.wf.fresh {t : Tb} (w : t.wf) (hl : liveN t.slots < 1024) : t.fresh.wf where
  next := w.next
  keys i s hs := by cases hs
  dist i j s u hj hs := by cases hs
  cnt := rfl
  packed h := by cases h
  hash _ := by
    have e : t.fresh.heads.length = roomN (liveN t.slots) := by show (List.replicate _ _).length = _; simp
    obtain ⟨a, b, c⟩ := roomN_spec hl
    refine ⟨by omega, by rw [e]; exact p2_roomN hl, by show 0 ≤ _; omega, fun i s hs => (by cases hs), ?_⟩
    rw [e]
    rfl
theorem Tb.wf.buildTo {t : Tb} (w : t.wf) (hl : liveN t.slots < 1024) : ∀ i, i ≤ t.slots.length → (t.fresh.pushAll (t.slots.take i)).wf ∧ ∀ u ∈ (t.fresh.pushAll (t.slots.take i)).slots, ∃ (j : Nat) (s : Sl), j < i ∧ t.slots[j]? = some s ∧ s.live = true ∧ s.key = u.key
  | 0, _ => ⟨w.fresh hl, fun u hu => by cases hu⟩
  | i + 1, h => by
    obtain ⟨s, hs, _⟩ := get_lt (l := t.slots) (i := i) (by omega)
    obtain ⟨a, b⟩ := Tb.wf.buildTo w hl i (by omega)
    have on := Tb.onWay.all w.ch hl i (by omega)
    rw [Tb.pushAll_snoc hs]
    cases hv : s.live with
    | false =>
      exact ⟨a, fun u hu => by
        obtain ⟨j, x, h1, h2⟩ := b u hu
        exact ⟨j, x, by omega, h2⟩⟩
    | true =>
      have hk := w.keys i s hs
      refine ⟨a.push s.val (on.fits hl hs hv _) hk.1 (by rw [on.next]; exact hk.2.1) fun u hu _ e => ?_, fun u hu => ?_⟩
      · obtain ⟨j, x, h1, h2, h3, h4⟩ := b u hu
        exact w.dist i j s x h1 hs h2 hv h3 (h4.trans e)
      · rcases List.mem_append.1 (show u ∈ (t.fresh.pushAll (t.slots.take i)).slots ++ [_] from hu) with hu | hu
        · obtain ⟨j, x, h1, h2⟩ := b u hu
          exact ⟨j, x, by omega, h2⟩
        · simp only [List.mem_singleton] at hu
          subst hu
          exact ⟨i, s, by omega, hs, hv, rfl⟩
theorem Tb.wf.build {t : Tb} (w : t.wf) (hl : liveN t.slots < 1024) : t.build.wf ∧ ∀ u ∈ t.build.slots, ∃ s ∈ t.slots, s.live = true ∧ s.key = u.key := by
  obtain ⟨a, b⟩ := w.buildTo hl t.slots.length (Nat.le_refl _)
  rw [List.take_length] at a b
  exact ⟨a, fun u hu => by
    obtain ⟨j, s, _, h2, h3⟩ := b u hu
    exact ⟨s, List.mem_of_getElem? h2, h3⟩⟩
theorem Tb.wf.setVal {t : Tb} (w : t.wf) {i : Nat} {s : Sl} (hs : t.slots[i]? = some s) (hl : s.live = true) (v : V) : (t.setVal i v).wf := by
  rw [Tb.setVal_eq hs]
  have ln := set_len (u := (⟨s.key, v, s.live, s.link⟩ : Sl)) hs
  have get : ∀ {j : Nat} {x : Sl}, (t.slots.take i ++ (⟨s.key, v, s.live, s.link⟩ : Sl) :: t.slots.drop (i + 1))[j]? = some x → ∃ y, t.slots[j]? = some y ∧ x.key = y.key ∧ x.live = y.live ∧ x.link = y.link ∧ (x.val = y.val ∨ y.live = true) := fun h => by
    rcases set_get hs h with ⟨rfl, rfl⟩ | ⟨_, h⟩
    · exact ⟨s, hs, rfl, rfl, rfl, .inr hl⟩
    · exact ⟨_, h, rfl, rfl, rfl, .inl rfl⟩
  have hd : ∀ (n m : Nat), hdsN n (t.slots.take i ++ (⟨s.key, v, s.live, s.link⟩ : Sl) :: t.slots.drop (i + 1)) m = hdsN n t.slots m := by
    intro n m
    induction m with
    | zero => rfl
    | succ m ih =>
      rw [hdsN, hdsN]
      cases hx : (t.slots.take i ++ (⟨s.key, v, s.live, s.link⟩ : Sl) :: t.slots.drop (i + 1))[m]? with
      | none =>
        have : t.slots[m]? = none := by
          rw [List.getElem?_eq_none_iff] at hx ⊢
          omega
        rw [this]
        exact ih
      | some x =>
        obtain ⟨y, h1, h2, _⟩ := get hx
        rw [h1]
        show List.set _ _ _ = List.set _ _ _
        rw [ih, h2]
  exact {
    next := w.next
    keys := fun j x hx => by
      obtain ⟨y, h1, h2, h3, h4, h5⟩ := get hx
      obtain ⟨a, b, c⟩ := w.keys j y h1
      rw [h2, h3]
      refine ⟨a, b, ?_⟩
      rcases h5 with h5 | h5
      · rw [h5]; exact c
      · exact .inl h5
    dist := fun a b x y hb hx hy lx ly => by
      obtain ⟨x', h1, h2, h3, _⟩ := get hx
      obtain ⟨y', g1, g2, g3, _⟩ := get hy
      rw [h2, g2]
      exact w.dist a b x' y' hb h1 g1 (by rw [← h3]; exact lx) (by rw [← g3]; exact ly)
    cnt := by
      have := liveN_set hs (⟨s.key, v, s.live, s.link⟩ : Sl)
      have e : (⟨s.key, v, s.live, s.link⟩ : Sl).live = s.live := rfl
      rw [e] at this
      show t.count = _
      rw [w.cnt]
      show ((liveN t.slots : Nat) : Int) = ((liveN (t.slots.take i ++ (⟨s.key, v, s.live, s.link⟩ : Sl) :: t.slots.drop (i + 1)) : Nat) : Int)
      omega
    packed := fun h => by
      obtain ⟨a, b, c, d⟩ := w.packed h
      refine ⟨a, ?_, ?_, fun j x hx => ?_⟩
      · show ((List.length (t.slots.take i ++ _) : Nat) : Int) ≤ _
        rw [ln]
        exact b
      · show List.length (t.slots.take i ++ _) ≤ _
        rw [ln]
        exact c
      · obtain ⟨y, h1, h2, _, h4, _⟩ := get hx
        rw [h2, h4]
        exact d j y h1
    hash := fun h => by
      obtain ⟨a, b, c, d, e⟩ := w.hash h
      refine ⟨a, b, ?_, fun j x hx => ?_, ?_⟩
      · show List.length (t.slots.take i ++ _) ≤ _
        rw [ln]
        exact c
      · obtain ⟨y, h1, h2, _, h4, _⟩ := get hx
        show (hdsN _ (t.slots.take i ++ _) j)[_]? = _
        rw [hd, h2, h4]
        exact d j y h1
      · show t.heads = hdsN _ (t.slots.take i ++ _) (List.length (t.slots.take i ++ _))
        rw [hd, ln]
        exact e }
theorem Tb.wf.put {t : Tb} (w : t.wf) {k : Ky} (v : V) (hk : keyOk k = true) (hl : t.find k = none → liveN t.slots < 1024) : (t.put k v).wf := by
  unfold Tb.put
  split
  · rename_i j hf
    obtain ⟨s, hs, hv⟩ := Tb.find_live hf
    exact w.setVal hs hv v
  · rename_i hf
    have l1 := hl hf
    have hn := w.find_none hf
    have c1 := (w.ch.hashIf l1 k)
    have w1 : (t.hashIf k).wf ∧ ∀ s ∈ (t.hashIf k).slots, s.live = true → ¬ s.key = k := by
      unfold Tb.hashIf
      split
      · obtain ⟨a, b⟩ := w.build l1
        exact ⟨a, fun s hs _ e => by
          obtain ⟨u, h1, h2, h3⟩ := b s hs
          exact hn u h1 h2 (h3.trans e)⟩
      · exact ⟨w, hn⟩
    have w2 : ((t.hashIf k).growIf).wf ∧ ∀ s ∈ ((t.hashIf k).growIf).slots, s.live = true → ¬ s.key = k := by
      unfold Tb.growIf
      split
      · obtain ⟨a, b⟩ := w1.1.build c1.2.1
        exact ⟨a, fun s hs _ e => by
          obtain ⟨u, h1, h2, h3⟩ := b s hs
          exact w1.2 u h1 h2 (h3.trans e)⟩
      · exact w1
    obtain ⟨f1, f2⟩ := Tb.put_fits w.ch l1 k
    obtain ⟨b1, b2, b3⟩ := Tb.bumpNext f1 hk
    exact (w2.1.withNext b1 b2).push v f2 hk b3 w2.2
end Go.Sx
/-! A stored value keeps a heap counted. -/
namespace Go.Sx
open Go
/-- what a held value weighs; what some weigh -/
def wOf (l : List Bk) (v : V) (n : Nat) : Prop := if v.kind = 5 then Wt l v.num.toNat n else n = 1
def SumL (l : List Bk) : List V → Nat → Prop
  | [], n => n = 0
  | v :: r, n => ∃ a b, wOf l v a ∧ SumL l r b ∧ n = a + b
theorem sumL_append {l : List Bk} : ∀ {p q : List V} {a b : Nat}, SumL l p a → SumL l q b → SumL l (p ++ q) (a + b)
  | [], q, a, b, h, k => by
    have h : a = 0 := h
    subst h
    rw [Nat.zero_add]
    exact k
  | v :: r, q, a, b, h, k => by
    obtain ⟨c, d, h1, h2, h3⟩ := h
    exact ⟨c, d + b, h1, sumL_append h2 k, by omega⟩
theorem sumL_keep {l l' : List Bk} : ∀ {p : List V} {a : Nat}, (∀ u ∈ p, ∀ n, wOf l u n → wOf l' u n) → SumL l p a → SumL l' p a
  | [], a, _, h => h
  | v :: r, a, hk, h => by
    obtain ⟨c, d, h1, h2, h3⟩ := h
    exact ⟨c, d, hk v (by simp) c h1, sumL_keep (fun u hu => hk u (by simp [hu])) h2, h3⟩
theorem sumR_of {l : List Bk} : ∀ {ss : List Sl} {n : Nat}, SumL l (refsS ss) n → SumR l ss n
  | [], n, h => by
    have h : n = 0 := h
    subst h
    exact SumR.nil l
  | s :: r, n, h => by
    rw [refsS_cons] at h
    refine (SumR.append (p := [s]) (q := r)).2 ?_
    cases hl : s.live with
    | false =>
      rw [hl] at h
      exact ⟨0, n, SumR.one.2 (.inl ⟨hl, rfl⟩), sumR_of (by simpa using h), by omega⟩
    | true =>
      rw [hl] at h
      obtain ⟨a, b, h1, h2, h3⟩ := h
      refine ⟨a, b, ?_, sumR_of h2, h3⟩
      unfold wOf at h1
      by_cases h5 : s.val.kind = 5
      · rw [if_pos h5] at h1
        exact SumR.one.2 (.inr (.inl ⟨hl, h5, h1⟩))
      · rw [if_neg h5] at h1
        exact SumR.one.2 (.inr (.inr ⟨hl, h5, h1⟩))
/-- One more pending value that is no reference. -/
theorem Cnt.add {T : Tb → Prop} {W : Nat} {l : List Bk} {R : List V} {v : V} (h : Cnt T W l R) (h5 : ¬ v.kind = 5) (hv : held0 l.length v) : Cnt T W l (v :: R) := by
  refine ⟨h.fr, h.tab, fun u hu => ?_, fun i hi => ?_, h.light⟩
  · rcases List.mem_cons.1 hu with rfl | hu
    · exact hv
    · exact h.held u hu
  · rw [List.cons_append, rc_cons, to_no h5, h.cnt i hi]
    simp
theorem ref_used {T : Tb → Prop} {W : Nat} {l : List Bk} {R : List V} (h : Cnt T W l R) {u : V} (hu : u ∈ R) (h5 : u.kind = 5) : ¬ u.num.toNat = freeN l ∧ u.num.toNat < l.length := by
  have hh := h.is_held (v := u) (by simp [hu])
  obtain ⟨q1, q2, q3⟩ := held_num hh h5
  refine ⟨fun e => ?_, q2⟩
  have := (freeN_count h (by omega)).1
  rw [e] at q3
  omega
/-! tables on the way -/
theorem growHash_next {t : Tb} (w : t.wf) (hl : liveN t.slots < 1024) (k : Ky) : ((t.hashIf k).growIf).next = t.next ∧ ∀ u ∈ ((t.hashIf k).growIf).slots, u.live = true → ∃ s ∈ t.slots, s.live = true ∧ s.key = u.key := by
  have c1 := w.ch.hashIf hl k
  have h1 : (t.hashIf k).wf ∧ (t.hashIf k).next = t.next ∧ ∀ u ∈ (t.hashIf k).slots, u.live = true → ∃ s ∈ t.slots, s.live = true ∧ s.key = u.key := by
    unfold Tb.hashIf
    split
    · exact ⟨(w.build hl).1, (w.ch.build hl).next, fun u hu _ => (w.build hl).2 u hu⟩
    · exact ⟨w, rfl, fun u hu h => ⟨u, hu, h, rfl⟩⟩
  obtain ⟨w1, n1, k1⟩ := h1
  have h2 : ((t.hashIf k).growIf).next = (t.hashIf k).next ∧ ∀ u ∈ ((t.hashIf k).growIf).slots, u.live = true → ∃ s ∈ (t.hashIf k).slots, s.live = true ∧ s.key = u.key := by
    unfold Tb.growIf
    split
    · exact ⟨(w1.ch.build c1.2.1).next, fun u hu _ => (w1.build c1.2.1).2 u hu⟩
    · exact ⟨rfl, fun u hu h => ⟨u, hu, h, rfl⟩⟩
  refine ⟨h2.1.trans n1, fun u hu hv => ?_⟩
  obtain ⟨s, a, b, c⟩ := h2.2 u hu hv
  obtain ⟨s', a', b', c'⟩ := k1 s a b
  exact ⟨s', a', b', c'.trans c⟩
theorem put_new_next {t : Tb} (w : t.wf) (hl : liveN t.slots < 1024) {k : Ky} (hf : t.find k = none) (x : V) : (t.put k x).next = (if k.text then t.next else max t.next (k.num + 1)) ∧ ∀ u ∈ (t.put k x).slots, u.live = true → u.key = k ∨ ∃ s ∈ t.slots, s.live = true ∧ s.key = u.key := by
  obtain ⟨a, b⟩ := growHash_next w hl k
  unfold Tb.put
  rw [hf]
  refine ⟨?_, fun u hu hv => ?_⟩
  · show (if k.text then ((t.hashIf k).growIf).next else max ((t.hashIf k).growIf).next (k.num + 1)) = _
    rw [a]
  · rcases List.mem_append.1 (show u ∈ ((t.hashIf k).growIf).slots ++ [_] from hu) with hu | hu
    · exact .inr (b u hu hv)
    · simp only [List.mem_singleton] at hu
      subst hu
      exact .inl rfl
/-! values -/
theorem tb0_wf : tb0.wf where
  next := ⟨Int.le_refl _, by decide⟩
  keys i s hs := by simp [tb0] at hs
  dist i j s u hj hs := by simp [tb0] at hs
  cnt := rfl
  packed _ := ⟨rfl, Int.le_refl _, Nat.zero_le _, fun i s hs => by simp [tb0] at hs⟩
  hash h := by cases h
theorem wf_kind5 {v : V} (h : v.wf = true) : ¬ v.kind = 5 := by
  intro h5
  rw [V.wf_eq] at h
  unfold wf0 at h
  rw [h5] at h
  simp at h
theorem wf_arrs {v : V} (h : v.wf = true) (h4 : v.kind = 4) : v.next ≤ 1000000001 ∧ 0 ≤ v.next ∧ wfEs v.next v.items [] = true := by
  rw [V.wf_eq] at h
  unfold wf0 at h
  rw [h4] at h
  simp at h
  exact ⟨h.2.2.1.2, h.2.2.1.1, h.2.2.2⟩
end Go.Sx
/-! A block's own copy keeps a heap counted. -/
namespace Go.Sx
open Go
variable {T : Tb → Prop} {W : Nat}
theorem refsB_set {u b : Bk} (e : u.tab = b.tab) : ∀ (l : List Bk) (i : Nat), l[i]? = some b → refsB (l.set i u) = refsB l
  | [], i, h => by simp at h
  | c :: r, 0, h => by
    have h : c = b := by simpa using h
    subst h
    rw [List.set_cons_zero]
    unfold refsB
    rw [List.flatMap_cons, List.flatMap_cons, e]
  | c :: r, i + 1, h => by
    have ih := refsB_set e r i (by simpa using h)
    rw [List.set_cons_succ]
    unfold refsB at ih ⊢
    rw [List.flatMap_cons, List.flatMap_cons, ih]
theorem refsB_share (l : List Bk) (v : V) : refsB (shareH l v) = refsB l := by
  unfold shareH
  split
  · by_cases hi : v.num.toNat < l.length
    · exact refsB_set (b := blk l v.num.toNat) (u := (blk l v.num.toNat).withC ((blk l v.num.toNat).count + 1)) rfl l _ (blk_at hi)
    · rw [List.set_eq_of_length_le (by omega)]
  · rfl
theorem rc_le (i : Nat) (vs : List V) : rc i vs ≤ vs.length := List.length_filter_le _ _
theorem cnt_shares : ∀ (ss : List Sl) (l : List Bk) (R : List V), Cnt T W l R → (∀ v ∈ refsS ss, v ∈ R ++ refsB l) → (R ++ refsB l).length + ss.length ≤ 1000000000000 → Cnt T W (shareSl l ss) (refsS ss ++ R)
  | [], l, R, h, _, _ => h
  | s :: r, l, R, h, hm, hb => by
    rw [shareSl]
    rw [refsS_cons] at hm ⊢
    rw [List.length_cons] at hb
    cases hl : s.live with
    | false =>
      rw [hl] at hm
      simp only [Bool.false_eq_true, if_false] at hm ⊢
      exact cnt_shares r l R h hm (by omega)
    | true =>
      rw [hl] at hm
      simp only [if_true] at hm ⊢
      have h1 : Cnt T W (shareH l s.val) (s.val :: R) := h.share (hm _ (by simp)) fun h5 => by
        obtain ⟨_, q⟩ := refIn_of h (hm s.val (by simp)) h5
        rw [h.cnt _ q]
        have := rc_le s.val.num.toNat (R ++ refsB l)
        omega
      have h2 := cnt_shares r (shareH l s.val) (s.val :: R) h1 (fun u hu => by
        rw [refsB_share, List.cons_append]
        exact List.mem_cons_of_mem _ (hm u (by simp [hu]))) (by rw [refsB_share, List.cons_append, List.length_cons]; omega)
      exact h2.perm List.perm_middle
theorem sumR_tabs {l l' : List Bk} (h : ∀ j, (blk l' j).tab = (blk l j).tab) {ss : List Sl} {m : Nat} (k : SumR l ss m) : SumR l' ss m := by
  obtain ⟨f, hf⟩ := k
  refine ⟨f, ?_⟩
  rw [show wtF l' f = wtF l f from funext fun i => wt_tabs h f i]
  exact hf
/-- A block of one's own: what v named, or an empty one, named once. -/
theorem cnt_own {l : List Bk} {R : List V} {v : V} (h : Cnt T W l (v :: R)) (h0 : T tb0) (hW : 1 ≤ W) (hb : (v :: R ++ refsB l).length + (blk l v.num.toNat).tab.slots.length ≤ 1000000000000) :
    Cnt T W (ownH l v).1 (hnd (ownH l v).2 :: R) ∧ (blk (ownH l v).1 (ownH l v).2).count = 1 := by
  unfold ownH
  by_cases h5 : v.kind = 5
  · rw [if_pos h5]
    have hh := h.is_held (v := v) (by simp)
    obtain ⟨q1, q2, q3⟩ := held_num hh h5
    have hv : v = hnd v.num.toNat := by
      have e := held_form hh h5
      have en : ((v.num.toNat : Nat) : Int) = v.num := by omega
      unfold hnd
      rw [en]
      exact e
    split
    · rename_i hc
      refine ⟨?_, hc⟩
      show Cnt T W l (hnd v.num.toNat :: R)
      rw [← hv]
      exact h
    · rename_i hc
      have hs := cnt_shares (blk l v.num.toNat).tab.slots l (v :: R) h (fun u hu => List.mem_append.2 (.inr (refs_at (blk_at q2) hu))) hb
      have hs2 : Cnt T W (shareSl l (blk l v.num.toNat).tab.slots) (v :: (refsS (blk l v.num.toNat).tab.slots ++ R)) := hs.perm List.perm_middle
      have up := shareSl_blk (blk l v.num.toNat).tab.slots l v.num.toNat
      have hl := hs2.less h5 (by have := up.2; omega)
      have hl : Cnt T W (splitH l v.num.toNat) (refsS (blk l v.num.toNat).tab.slots ++ R) := hl
      have tabs : ∀ j, (blk (splitH l v.num.toNat) j).tab = (blk l j).tab := fun j => by
        have e := (shareSl_blk (blk l v.num.toNat).tab.slots l j).1
        unfold splitH
        by_cases hj : v.num.toNat = j
        · subst hj
          rw [blk_set_same (by rw [shareSl_len]; exact q2)]
          exact e
        · rw [blk_set_ne hj]
          exact e
      obtain ⟨n, hn, hw⟩ := h.light _ _ (blk_at q2) q3
      obtain ⟨m, hm, rfl⟩ := Wt.iff.1 hw
      refine ⟨(Cnt.alloc hl (h.tab _ _ (blk_at q2) (by omega)).1 hn (sumR_tabs tabs hm) (by decide)).1, ?_⟩
      show (blk (allocH _ _) (freeN _)).count = 1
      rw [allocH_at]
  · rw [if_neg h5]
    refine ⟨(Cnt.alloc (t := tb0) (m := 0) (h.skip h5) h0 hW (SumR.nil l) (by decide)).1, ?_⟩
    show (blk (allocH _ _) (freeN _)).count = 1
    rw [allocH_at]
end Go.Sx
/-! A value put into a block that one pending reference alone names. -/
namespace Go.Sx
open Go
variable {T : Tb → Prop} {W : Nat}
theorem sumL_of {l : List Bk} : ∀ {ss : List Sl} {n : Nat}, SumR l ss n → SumL l (refsS ss) n
  | [], n, h => SumR.uniq h (SumR.nil l)
  | s :: r, n, h => by
    obtain ⟨a, b, h1, h2, h3⟩ := (SumR.append (p := [s]) (q := r)).1 h
    have ih := sumL_of h2
    rw [refsS_cons]
    rcases SumR.one.1 h1 with ⟨q1, q2⟩ | ⟨q1, q2, q3⟩ | ⟨q1, q2, q3⟩
    · rw [q1, h3, q2, Nat.zero_add]
      exact ih
    · rw [q1]
      refine ⟨a, b, ?_, ih, h3⟩
      unfold wOf
      rw [if_pos q2]
      exact q3
    · rw [q1]
      refine ⟨a, b, ?_, ih, h3⟩
      unfold wOf
      rw [if_neg q2]
      exact q3
theorem sumL_split {l : List Bk} : ∀ {p q : List V} {n : Nat}, SumL l (p ++ q) n → ∃ a b, SumL l p a ∧ SumL l q b ∧ n = a + b
  | [], q, n, h => ⟨0, n, rfl, h, by omega⟩
  | v :: r, q, n, h => by
    obtain ⟨c, d, h1, h2, h3⟩ := h
    obtain ⟨a, b, k1, k2, k3⟩ := sumL_split h2
    exact ⟨c + a, b, ⟨c, a, h1, k1, rfl⟩, k2, by omega⟩
theorem put_weigh {l : List Bk} {t : Tb} {m n : Nat} (h : SumL l (refsS t.slots) m) (k : Ky) {x : V} (hx : wOf l x n) : ∃ m', m' ≤ m + n ∧ SumL l (refsS (t.put k x).slots) m' := by
  cases hf : t.find k with
  | none =>
    rw [put_new hf]
    exact ⟨m + n, Nat.le_refl _, sumL_append h ⟨n, 0, hx, rfl, by omega⟩⟩
  | some j =>
    obtain ⟨s, a, b, _, _, h1, h2⟩ := put_old hf x
    rw [h1] at h
    obtain ⟨c, d, k1, ⟨e, f, k4, k5, k6⟩, k3⟩ := sumL_split h
    rw [h2]
    exact ⟨c + (n + f), by omega, sumL_append k1 ⟨n, f, hx, k5, rfl⟩⟩
theorem put_rc {t : Tb} {k : Ky} (ho : ∀ (j : Nat) (s : Sl), t.find k = some j → t.slots[j]? = some s → ¬ s.val.kind = 5) (x : V) (i : Nat) : rc i (refsS (t.put k x).slots) = rc i (refsS t.slots) + if to i x then 1 else 0 := by
  cases hf : t.find k with
  | none =>
    rw [put_new hf, rc_append, rc_cons, rc_nil]
    omega
  | some j =>
    obtain ⟨s, a, b, h0, _, h1, h2⟩ := put_old hf x
    rw [h1, h2, rc_append, rc_append, rc_cons, rc_cons, to_no (ho j s hf h0)]
    simp only [Bool.false_eq_true, if_false]
    omega
theorem put_mem {t : Tb} {k : Ky} {x u : V} (h : u ∈ refsS (t.put k x).slots) : u = x ∨ u ∈ refsS t.slots := by
  cases hf : t.find k with
  | none =>
    rw [put_new hf] at h
    rcases List.mem_append.1 h with h | h
    · exact .inr h
    · exact .inl (by simpa using h)
  | some j =>
    obtain ⟨s, a, b, h0, _, h1, h2⟩ := put_old hf x
    rw [h2] at h
    rw [h1]
    rcases List.mem_append.1 h with h | h
    · exact .inr (by simp [h])
    · rcases List.mem_cons.1 h with h | h
      · exact .inl h
      · exact .inr (by simp [h])
/-- A pending value is put where no reference stood. -/
theorem cnt_setT {W' : Nat} {l : List Bk} {R : List V} {i m n : Nat} {k : Ky} {x : V} (h : Cnt T W l (x :: hnd i :: R)) (hi : i < l.length) (hc : (blk l i).count = 1)
    (ho : ∀ (j : Nat) (s : Sl), (blk l i).tab.find k = some j → (blk l i).tab.slots[j]? = some s → ¬ s.val.kind = 5) (ht : T ((blk l i).tab.put k x)) (hm : Wt l i m) (hx : wOf l x n) (hW : m + n ≤ W') (hWW : W ≤ W') :
    Cnt T W' (setT l i k x) (hnd i :: R) ∧ (∃ m', m' ≤ m + n ∧ Wt (setT l i k x) i m') ∧ ∀ j, ¬ j = i → j < l.length → ∀ q, Wt l j q → Wt (setT l i k x) j q := by
  have hb := blk_at hi
  have hci := h.cnt i hi
  rw [hc, List.cons_append, List.cons_append, rc_cons, rc_cons, hnd_to, decide_eq_true rfl] at hci
  simp only [if_true] at hci
  have hz : rc i (R ++ refsB l) = 0 ∧ to i x = false := by
    cases hx : to i x with
    | false => rw [hx] at hci; simp at hci; exact ⟨by omega, rfl⟩
    | true => rw [hx] at hci; simp at hci; omega
  have hno : ∀ u ∈ refsB l, u.kind = 5 → ¬ u.num.toNat = i := fun u hu h5 e => by
    have q := rc_zero hz.1 (v := u) (by simp [hu])
    have r := refIn_of h (v := u) (by simp [hu]) h5
    unfold to at q
    rw [decide_eq_true h5, Bool.true_and, decide_eq_false_iff_not] at q
    omega
  have hbs : ∀ j, ¬ j = i → blk (setT l i k x) j = blk l j := fun j hj => by
    unfold setT
    exact blk_set_ne (fun e => hj e.symm)
  have hbi : blk (setT l i k x) i = (blk l i).withT ((blk l i).tab.put k x) := by
    unfold setT
    exact blk_set_same hi
  have ln : (setT l i k x).length = l.length := by unfold setT; rw [List.length_set]
  have keep : ∀ j, ¬ j = i → j < l.length → ∀ q, Wt l j q → Wt (setT l i k x) j q := fun j hj hlt q ⟨f, hf⟩ => ⟨f, by rw [wt_skip hbs hno f j hj hlt]; exact hf⟩
  obtain ⟨m0, w1, w2⟩ := Wt.iff.1 hm
  have keepV : ∀ u ∈ x :: refsB l, ∀ q, wOf l u q → wOf (setT l i k x) u q := fun u hu q hq => by
    unfold wOf at hq ⊢
    by_cases h5 : u.kind = 5
    · rw [if_pos h5] at hq ⊢
      have r := refIn_of h (v := u) (by rcases List.mem_cons.1 hu with rfl | hu <;> simp [*]) h5
      refine keep _ (fun e => ?_) r.2 q hq
      rcases List.mem_cons.1 hu with rfl | hu
      · have q2 := hz.2
        unfold to at q2
        rw [decide_eq_true h5, Bool.true_and, decide_eq_false_iff_not] at q2
        omega
      · exact hno u hu h5 e
    · rw [if_neg h5] at hq ⊢
      exact hq
  obtain ⟨m', p1, p2⟩ := put_weigh (sumL_of w1) k hx
  have wi : Wt (setT l i k x) i (m' + 1) := Wt.iff.2 ⟨m', by
    rw [hbi]
    exact sumR_of (sumL_keep (fun u hu => keepV u (by
      rcases put_mem hu with rfl | hu
      · simp
      · exact List.mem_cons_of_mem _ (refs_at hb hu))) p2), rfl⟩
  have rcs : ∀ j, rc j (refsB (setT l i k x)) = rc j (refsB l) + if to j x then 1 else 0 := fun j => by
    have q := rc_split hb j ((blk l i).withT ((blk l i).tab.put k x))
    have e : ((blk l i).withT ((blk l i).tab.put k x)).tab = (blk l i).tab.put k x := rfl
    rw [e, put_rc ho] at q
    unfold setT
    omega
  refine ⟨⟨fun j b hj h0 => ?_, fun j b hj h0 => ?_, fun u hu => ?_, fun j hj => ?_, fun j b hj h0 => ?_⟩, ⟨m' + 1, by omega, wi⟩, keep⟩
  · obtain ⟨hlt, rfl⟩ := blk_some hj
    by_cases e : j = i
    · subst e
      rw [hbi] at h0
      have h0 : (blk l j).count = 0 := h0
      omega
    · rw [hbs j e] at h0 ⊢
      exact h.fr j _ (blk_at (by omega)) h0
  · obtain ⟨hlt, rfl⟩ := blk_some hj
    by_cases e : j = i
    · subst e
      rw [hbi]
      exact ⟨ht, by show (blk l j).count ≤ _; omega⟩
    · rw [hbs j e] at h0 ⊢
      exact h.tab j _ (blk_at (by omega)) h0
  · rw [ln]
    rcases List.mem_append.1 hu with hu | hu
    · exact h.held u (by rw [List.cons_append]; exact List.mem_cons_of_mem _ (List.mem_append.2 (.inl hu)))
    · rcases refs_set (show u ∈ refsB (l.set i _) from hu) with hu | hu
      · rcases put_mem hu with rfl | hu
        · exact h.held u (by simp)
        · exact h.held u (List.mem_append.2 (.inr (refs_at hb hu)))
      · exact h.held u (List.mem_append.2 (.inr hu))
  · rw [ln] at hj
    have q := h.cnt j hj
    rw [List.cons_append, rc_cons, rc_append] at q
    rw [rc_append, rcs]
    have e : (blk (setT l i k x) j).count = (blk l j).count := by
      by_cases e : j = i
      · subst e
        rw [hbi]
        rfl
      · rw [hbs j e]
    rw [e, q]
    congr 1
    omega
  · obtain ⟨hlt, rfl⟩ := blk_some hj
    by_cases e : j = i
    · subst e
      exact ⟨m' + 1, by omega, wi⟩
    · rw [hbs j e] at h0
      obtain ⟨q, hq, hw⟩ := h.light j _ (blk_at (by omega)) h0
      exact ⟨q, by omega, keep j e (by omega) q hw⟩
end Go.Sx
/-! What one pending reference alone names is not touched by what goes on beside it. -/
namespace Go.Sx
open Go
variable {T : Tb → Prop} {W : Nat}
theorem frame_ne {l : List Bk} {R : List V} {v : V} {i : Nat} (h : Cnt T W l (v :: R)) (hm : hnd i ∈ R) (hc : (blk l i).count = 1) (h5 : v.kind = 5) : i < l.length ∧ ¬ v.num.toNat = i := by
  have hi : i < l.length := by
    have := (refIn_of h (v := hnd i) (by simp [hm]) rfl).2
    have e : ((i : Nat) : Int).toNat = i := by omega
    exact e ▸ this
  refine ⟨hi, fun e => ?_⟩
  have ht : to i v = true := by
    have := (h.ref h5).2.2
    rwa [e] at this
  have q := h.cnt i hi
  rw [hc, List.cons_append, rc_cons, ht, rc_append] at q
  simp only [if_true] at q
  have hp : 0 < rc i R := by
    cases hz : rc i R with
    | succ n => omega
    | zero =>
      have := rc_zero hz hm
      rw [hnd_to, decide_eq_true rfl] at this
      cases this
  omega
/-! .. by new references and new blocks -/
end Go.Sx
/-! A value is taken out of a block that one pending reference alone names. -/
namespace Go.Sx
open Go
variable {T : Tb → Prop} {W : Nat}
theorem wOf_pos {l : List Bk} {v : V} {n : Nat} (h : wOf l v n) : 1 ≤ n := by
  unfold wOf at h
  split at h
  · obtain ⟨m, _, rfl⟩ := Wt.iff.1 h
    omega
  · omega
theorem zero_wf : V.zero.wf = true := by rw [V.wf_eq]; rfl
theorem wOf_zero (l : List Bk) : wOf l V.zero 1 := by
  unfold wOf
  rw [if_neg (by decide)]
theorem take_weigh {l : List Bk} {t : Tb} {m : Nat} (h : SumL l (refsS t.slots) m) {k : Ky} {j : Nat} {s : Sl} (hf : t.find k = some j) (hs : t.slots[j]? = some s) : ∃ m' n, m' + n = m + 1 ∧ 1 ≤ n ∧ wOf l s.val n ∧ SumL l (refsS (t.put k V.zero).slots) m' := by
  obtain ⟨s2, a, b, e1, _, h1, h2⟩ := put_old hf V.zero
  have es : s2 = s := by rw [hs] at e1; exact (Option.some.inj e1).symm
  subst es
  rw [h1] at h
  obtain ⟨c, d, k1, ⟨e, f, k4, k5, k6⟩, k3⟩ := sumL_split h
  have := wOf_pos k4
  rw [h2]
  exact ⟨c + (1 + f), e, by omega, this, k4, sumL_append k1 ⟨1, f, wOf_zero l, k5, rfl⟩⟩
theorem cnt_take {l : List Bk} {R : List V} {i m j : Nat} {k : Ky} {s : Sl} (h : Cnt T W l (hnd i :: R)) (hi : i < l.length) (hc : (blk l i).count = 1) (hf : (blk l i).tab.find k = some j) (hs : (blk l i).tab.slots[j]? = some s)
    (ht : T ((blk l i).tab.put k V.zero)) (hm : Wt l i m) :
    Cnt T W (setT l i k V.zero) (s.val :: hnd i :: R) ∧ (∃ m' n, m' + n = m + 1 ∧ wOf l s.val n ∧ wOf (setT l i k V.zero) s.val n ∧ Wt (setT l i k V.zero) i m') ∧ ∀ q, ¬ q = i → q < l.length → ∀ n, Wt l q n → Wt (setT l i k V.zero) q n := by
  have hb := blk_at hi
  have hci := h.cnt i hi
  rw [hc, List.cons_append, rc_cons, hnd_to, decide_eq_true rfl] at hci
  simp only [if_true] at hci
  have hz : rc i (R ++ refsB l) = 0 := by omega
  have hno : ∀ u ∈ refsB l, u.kind = 5 → ¬ u.num.toNat = i := fun u hu h5 e => by
    have q := rc_zero hz (v := u) (by simp [hu])
    have r := refIn_of h (v := u) (by simp [hu]) h5
    unfold to at q
    rw [decide_eq_true h5, Bool.true_and, decide_eq_false_iff_not] at q
    omega
  have hbs : ∀ q, ¬ q = i → blk (setT l i k V.zero) q = blk l q := fun q hq => by
    unfold setT
    exact blk_set_ne (fun e => hq e.symm)
  have hbi : blk (setT l i k V.zero) i = (blk l i).withT ((blk l i).tab.put k V.zero) := by
    unfold setT
    exact blk_set_same hi
  have ln : (setT l i k V.zero).length = l.length := by unfold setT; rw [List.length_set]
  have keep : ∀ q, ¬ q = i → q < l.length → ∀ n, Wt l q n → Wt (setT l i k V.zero) q n := fun q hq hlt n ⟨f, hf⟩ => ⟨f, by rw [wt_skip hbs hno f q hq hlt]; exact hf⟩
  obtain ⟨m0, w1, w2⟩ := Wt.iff.1 hm
  obtain ⟨s2, a, b, e1, e2, e3, e4⟩ := put_old hf V.zero
  have es : s2 = s := by rw [hs] at e1; exact (Option.some.inj e1).symm
  subst es
  have hsv : s2.val ∈ refsB l := refs_at hb (by rw [e3]; simp)
  have keepV : ∀ u, u = V.zero ∨ u ∈ refsB l → ∀ q, wOf l u q → wOf (setT l i k V.zero) u q := fun u hu q hq => by
    unfold wOf at hq ⊢
    by_cases h5 : u.kind = 5
    · rw [if_pos h5] at hq ⊢
      rcases hu with rfl | hu
      · exact absurd h5 (by decide)
      · exact keep _ (hno u hu h5) (refIn_of h (v := u) (by simp [hu]) h5).2 q hq
    · rw [if_neg h5] at hq ⊢
      exact hq
  obtain ⟨m', ns, p1, p0, p3, p2⟩ := take_weigh (sumL_of w1) hf e1
  have wi : Wt (setT l i k V.zero) i (m' + 1) := Wt.iff.2 ⟨m', by
    rw [hbi]
    exact sumR_of (sumL_keep (fun u hu => keepV u (by
      rcases put_mem hu with hu | hu
      · exact .inl hu
      · exact .inr (refs_at hb hu))) p2), rfl⟩
  have rcs : ∀ q, rc q (refsB (setT l i k V.zero)) + (if to q s2.val then 1 else 0) = rc q (refsB l) := fun q => by
    have r := rc_split hb q ((blk l i).withT ((blk l i).tab.put k V.zero))
    have e : ((blk l i).withT ((blk l i).tab.put k V.zero)).tab = (blk l i).tab.put k V.zero := rfl
    rw [e, e3, e4, rc_append, rc_append, rc_cons, rc_cons, to_no (v := V.zero) (by decide)] at r
    simp only [Bool.false_eq_true, if_false] at r
    unfold setT
    omega
  refine ⟨⟨fun q b hj h0 => ?_, fun q b hj h0 => ?_, fun u hu => ?_, fun q hj => ?_, fun q b hj h0 => ?_⟩, ⟨m' + 1, ns, by omega, p3, keepV _ (.inr hsv) ns p3, wi⟩, keep⟩
  · obtain ⟨hlt, rfl⟩ := blk_some hj
    by_cases e : q = i
    · subst e
      rw [hbi] at h0
      have h0 : (blk l q).count = 0 := h0
      omega
    · rw [hbs q e] at h0 ⊢
      exact h.fr q _ (blk_at (by omega)) h0
  · obtain ⟨hlt, rfl⟩ := blk_some hj
    by_cases e : q = i
    · subst e
      rw [hbi]
      exact ⟨ht, by show (blk l q).count ≤ _; omega⟩
    · rw [hbs q e] at h0 ⊢
      exact h.tab q _ (blk_at (by omega)) h0
  · rw [ln]
    rcases List.mem_append.1 hu with hu | hu
    · rcases List.mem_cons.1 hu with rfl | hu
      · exact h.held _ (List.mem_append.2 (.inr hsv))
      · exact h.held u (List.mem_append.2 (.inl hu))
    · rcases refs_set (show u ∈ refsB (l.set i _) from hu) with hu | hu
      · rcases put_mem hu with rfl | hu
        · unfold held0
          rw [if_neg (by decide)]
          exact ⟨by decide, zero_wf⟩
        · exact h.held u (List.mem_append.2 (.inr (refs_at hb hu)))
      · exact h.held u (List.mem_append.2 (.inr hu))
  · rw [ln] at hj
    have r := h.cnt q hj
    have r2 := rcs q
    rw [rc_append] at r
    rw [List.cons_append, rc_cons, rc_append]
    have e : (blk (setT l i k V.zero) q).count = (blk l q).count := by
      by_cases e : q = i
      · subst e
        rw [hbi]
        rfl
      · rw [hbs q e]
    rw [e, r]
    congr 1
    omega
  · obtain ⟨hlt, rfl⟩ := blk_some hj
    by_cases e : q = i
    · subst e
      obtain ⟨n, hn, hw⟩ := h.light q _ hb (by omega)
      obtain ⟨f1, g1⟩ := hw
      obtain ⟨f2, g2⟩ := hm
      refine ⟨m' + 1, ?_, wi⟩
      have : n = m := by
        obtain ⟨a1, b1, c1⟩ := Wt.iff.1 (⟨f1, g1⟩ : Wt l q n)
        have := SumR.uniq b1 w1
        omega
      omega
    · rw [hbs q e] at h0
      obtain ⟨n, hn, hw⟩ := h.light q _ (blk_at (by omega)) h0
      exact ⟨n, hn, keep q e (by omega) n hw⟩
end Go.Sx
/-! The frame of a block's own copy. -/
namespace Go.Sx
open Go
variable {T : Tb → Prop} {W : Nat}
theorem frame_lt {l : List Bk} {R : List V} {i : Nat} (h : Cnt T W l R) (hm : hnd i ∈ R) : i < l.length := by
  have := (refIn_of h (v := hnd i) (by simp [hm]) rfl).2
  have e : (hnd i).num.toNat = i := Int.toNat_natCast i
  exact e ▸ this
theorem frame_in {l : List Bk} {R : List V} {i : Nat} (h : Cnt T W l R) (hm : hnd i ∈ R) (hc : (blk l i).count = 1) : ∀ u ∈ refsB l, u.kind = 5 → ¬ u.num.toNat = i := fun u hu h5 e => by
  have q := h.cnt i (frame_lt h hm)
  rw [hc, rc_append] at q
  have hp : 0 < rc i R := by
    cases hz : rc i R with
    | succ n => omega
    | zero =>
      have := rc_zero hz hm
      rw [hnd_to, decide_eq_true rfl] at this
      cases this
  have hz : rc i (refsB l) = 0 := by omega
  have q := rc_zero hz hu
  have r := refIn_of h (v := u) (by simp [hu]) h5
  unfold to at q
  rw [decide_eq_true h5, Bool.true_and, decide_eq_false_iff_not] at q
  omega
end Go.Sx
/-! Counted heaps: other predicates of tables, other bounds; tables with few live slots. -/
namespace Go.Sx
open Go
theorem Cnt.mono {T T' : Tb → Prop} {W W' : Nat} {l : List Bk} {R : List V} (h : Cnt T W l R) (hT : ∀ t, T t → T' t) (hW : W ≤ W') : Cnt T' W' l R :=
  ⟨h.fr, fun i b hb h0 => ⟨hT _ (h.tab i b hb h0).1, (h.tab i b hb h0).2⟩, h.held, h.cnt, fun i b hb h0 => by
    obtain ⟨n, h1, h2⟩ := h.light i b hb h0
    exact ⟨n, Nat.le_trans h1 hW, h2⟩⟩
/-- a table with few slots, which hold small values -/
def isFew (L : Nat) (t : Tb) : Prop := t.isTab = true ∧ t.slots.length ≤ L ∧ ∀ s ∈ t.slots, s.val.bulk ≤ 16
theorem isFew.up {L L' : Nat} (h : L ≤ L') (t : Tb) (k : isFew L t) : isFew L' t := ⟨k.1, Nat.le_trans k.2.1 h, k.2.2⟩
theorem isFew_tb0 (L : Nat) : isFew L tb0 := ⟨(Tb.isTab_iff _).2 tb0_wf, Nat.zero_le _, fun s hs => by cases hs⟩
theorem isFew.live {L : Nat} {t : Tb} (h : isFew L t) : liveN t.slots ≤ L := Nat.le_trans (liveN_le _) h.2.1
theorem pushAll_few : ∀ (ss : List Sl) (o : Tb), (o.pushAll ss).slots.length ≤ o.slots.length + ss.length ∧ ∀ u ∈ (o.pushAll ss).slots, (∃ s ∈ o.slots, u.val = s.val) ∨ ∃ s ∈ ss, u.val = s.val
  | [], o => ⟨Nat.le_refl _, fun u hu => .inl ⟨u, hu, rfl⟩⟩
  | s :: r, o => by
    obtain ⟨h1, h2⟩ := pushAll_few r (if s.live then o.push s.key s.val else o)
    rw [Tb.pushAll]
    have e : (if s.live then o.push s.key s.val else o).slots.length ≤ o.slots.length + 1 := by
      split
      · show (o.slots ++ [_]).length ≤ _
        rw [List.length_append]
        exact Nat.le_refl _
      · omega
    refine ⟨by rw [List.length_cons]; omega, fun u hu => ?_⟩
    rcases h2 u hu with ⟨w, hw, e2⟩ | ⟨w, hw, e2⟩
    · split at hw
      · have hw : w ∈ o.slots ++ [⟨s.key, s.val, true, o.link s.key⟩] := hw
        rcases List.mem_append.1 hw with hw | hw
        · exact .inl ⟨w, hw, e2⟩
        · simp only [List.mem_singleton] at hw
          exact .inr ⟨s, by simp, by rw [e2, hw]⟩
      · exact .inl ⟨w, hw, e2⟩
    · exact .inr ⟨w, by simp [hw], e2⟩
theorem build_few (t : Tb) : t.build.slots.length ≤ t.slots.length ∧ ∀ u ∈ t.build.slots, ∃ s ∈ t.slots, u.val = s.val := by
  obtain ⟨h1, h2⟩ := pushAll_few t.slots t.fresh
  have e : t.fresh.slots = [] := rfl
  rw [e, List.length_nil, Nat.zero_add] at h1
  refine ⟨h1, fun u hu => ?_⟩
  rcases h2 u hu with ⟨s, hs, _⟩ | h
  · rw [e] at hs; cases hs
  · exact h
theorem hashGrow_few (t : Tb) (k : Ky) : ((t.hashIf k).growIf).slots.length ≤ t.slots.length ∧ ∀ u ∈ ((t.hashIf k).growIf).slots, ∃ s ∈ t.slots, u.val = s.val := by
  have a : (t.hashIf k).slots.length ≤ t.slots.length ∧ ∀ u ∈ (t.hashIf k).slots, ∃ s ∈ t.slots, u.val = s.val := by
    unfold Tb.hashIf
    split
    · exact build_few t
    · exact ⟨Nat.le_refl _, fun u hu => ⟨u, hu, rfl⟩⟩
  unfold Tb.growIf
  split
  · obtain ⟨b1, b2⟩ := build_few (t.hashIf k)
    refine ⟨Nat.le_trans b1 a.1, fun u hu => ?_⟩
    obtain ⟨s, hs, e⟩ := b2 u hu
    obtain ⟨w, hw, e2⟩ := a.2 s hs
    exact ⟨w, hw, e.trans e2⟩
  · exact a
theorem put_new_few {t : Tb} {k : Ky} (h : t.find k = none) (x : V) : (t.put k x).slots.length ≤ t.slots.length + 1 ∧ ∀ u ∈ (t.put k x).slots, u.val = x ∨ ∃ s ∈ t.slots, u.val = s.val := by
  obtain ⟨a1, a2⟩ := hashGrow_few t k
  have e : (t.put k x).slots = ((t.hashIf k).growIf).slots ++ [⟨k, x, true, ((t.hashIf k).growIf).link k⟩] := by
    unfold Tb.put
    rw [h]
    rfl
  rw [e]
  refine ⟨by rw [List.length_append]; exact Nat.succ_le_succ a1, fun u hu => ?_⟩
  rcases List.mem_append.1 hu with hu | hu
  · exact .inr (a2 u hu)
  · simp only [List.mem_singleton] at hu
    exact .inl (by rw [hu])
theorem put_old_few {t : Tb} {k : Ky} {j : Nat} (h : t.find k = some j) (x : V) : (t.put k x).slots.length = t.slots.length ∧ ∀ u ∈ (t.put k x).slots, u.val = x ∨ ∃ s ∈ t.slots, u.val = s.val := by
  obtain ⟨s, a, b, hs, _⟩ := Go.Sx.put_old h x
  have hj := (List.getElem?_eq_some_iff.1 hs).1
  have e : (t.put k x).slots = t.slots.take j ++ ⟨s.key, x, s.live, s.link⟩ :: t.slots.drop (j + 1) := by
    unfold Tb.put
    rw [h]
    show (t.setVal j x).slots = _
    unfold Tb.setVal
    rw [hs]
  rw [e]
  refine ⟨by rw [List.length_append, List.length_take, List.length_cons, List.length_drop]; omega, fun u hu => ?_⟩
  rcases List.mem_append.1 hu with hu | hu
  · exact .inr ⟨u, List.mem_of_mem_take hu, rfl⟩
  · rcases List.mem_cons.1 hu with rfl | hu
    · exact .inl rfl
    · exact .inr ⟨u, List.mem_of_mem_drop hu, rfl⟩
theorem isFew.put {L : Nat} {t : Tb} (h : isFew L t) (hL : L < 1024) {k : Ky} (hk : keyOk k = true) {x : V} (hx : x.bulk ≤ 16) : isFew (L + 1) (t.put k x) := by
  have w := (t.isTab_iff).1 h.1
  have hl := h.live
  have e : (t.put k x).slots.length ≤ t.slots.length + 1 ∧ ∀ u ∈ (t.put k x).slots, u.val = x ∨ ∃ s ∈ t.slots, u.val = s.val := by
    cases hf : t.find k with
    | none => exact put_new_few hf x
    | some j => exact ⟨by rw [(put_old_few hf x).1]; omega, (put_old_few hf x).2⟩
  refine ⟨(Tb.isTab_iff _).2 (w.put x hk fun _ => Nat.lt_of_le_of_lt hl hL), Nat.le_trans e.1 (Nat.succ_le_succ h.2.1), fun u hu => ?_⟩
  rcases e.2 u hu with q | ⟨s, hs, q⟩
  · rw [q]; exact hx
  · rw [q]; exact h.2.2 s hs
theorem refsS_len (ss : List Sl) : (refsS ss).length = liveN ss := by unfold refsS liveN; rw [List.length_map]
/-- .. that take a value for another -/
theorem isFew.put_old {L : Nat} {t : Tb} (h : isFew L t) {k : Ky} {j : Nat} (hf : t.find k = some j) {x : V} (hx : x.bulk ≤ 16) : isFew L (t.put k x) := by
  have w := (t.isTab_iff).1 h.1
  obtain ⟨s, a, b, h1, h2, h3, h4⟩ := Go.Sx.put_old hf x
  have e : t.put k x = t.setVal j x := by unfold Tb.put; rw [hf]
  refine ⟨?_, by rw [(put_old_few hf x).1]; exact h.2.1, fun u hu => ?_⟩
  · rw [e]
    exact (Tb.isTab_iff _).2 (w.setVal h1 h2 x)
  · rcases (put_old_few hf x).2 u hu with q | ⟨s, hs, q⟩
    · rw [q]; exact hx
    · rw [q]; exact h.2.2 s hs
end Go.Sx
/-! What is still named keeps its weight when a reference is dropped. -/
namespace Go.Sx
open Go
variable {T : Tb → Prop} {W : Nat}
theorem less_keep (l : List Bk) (i : Nat) (c : Int) (u : V) (q : Nat) (h : wOf l u q) (hi : i < l.length) : wOf (l.set i ((blk l i).withC c)) u q := by
  have tabs : ∀ j, (blk (l.set i ((blk l i).withC c)) j).tab = (blk l j).tab := fun j => by
    by_cases hj : i = j
    · subst hj
      rw [blk_set_same hi]
      rfl
    · rw [blk_set_ne hj]
  unfold wOf at h ⊢
  split
  · rename_i h5
    rw [if_pos h5] at h
    obtain ⟨f, hf⟩ := h
    exact ⟨f, by rw [wt_tabs tabs]; exact hf⟩
  · rename_i h5
    rw [if_neg h5] at h
    exact h
theorem gone_keep {l : List Bk} {R : List V} {v : V} (h : Cnt T W l (v :: R)) (hk : v.kind = 5) (hp : ¬ 0 < (blk l v.num.toNat).count - 1) : ∀ u ∈ R ++ refsB l, ∀ q, wOf l u q → wOf (l.set v.num.toNat bk0) u q := by
  obtain ⟨h1, h2, h3⟩ := h.ref hk
  have q := h.cnt _ h2
  rw [List.cons_append, rc_cons, h3] at q
  simp only [if_true] at q
  have hz : rc v.num.toNat (R ++ refsB l) = 0 := by omega
  have hno : ∀ u ∈ R ++ refsB l, u.kind = 5 → ¬ u.num.toNat = v.num.toNat := fun u hu h5 e => by
    have q := rc_zero hz hu
    have r := refIn_of h (v := u) (by rw [List.cons_append]; exact List.mem_cons_of_mem _ hu) h5
    unfold to at q
    rw [decide_eq_true h5, Bool.true_and, decide_eq_false_iff_not] at q
    omega
  intro u hu q hq
  unfold wOf at hq ⊢
  by_cases h5 : u.kind = 5
  · rw [if_pos h5] at hq ⊢
    obtain ⟨f, hf⟩ := hq
    refine ⟨f, ?_⟩
    rw [wt_skip (fun j hj => blk_set_ne (fun e => hj e.symm)) (fun u hu => hno u (List.mem_append.2 (.inr hu))) f _ (hno u hu h5) (refIn_of h (v := u) (by rw [List.cons_append]; exact List.mem_cons_of_mem _ hu) h5).2]
    exact hf
  · rw [if_neg h5] at hq ⊢
    exact hq
mutual
theorem drop_keepW : ∀ (f : Nat) (l : List Bk) (v : V) (R : List V), slotsN l < f → Cnt T W l (v :: R) → ∀ u ∈ R, ∀ q, wOf l u q → wOf (dropF f l v) u q
  | 0, _, _, _, hf, _ => by omega
  | f + 1, l, v, R, hf, h => fun u hu q hq => by
    by_cases hk : v.kind = 5
    · obtain ⟨h1, h2, h3⟩ := h.ref hk
      by_cases hp : 0 < (blk l v.num.toNat).count - 1
      · rw [dropF_keep hk hp]
        exact less_keep l _ _ u q hq h2
      · rw [dropF_gone hk hp]
        have hs := slotsN_set h2 bk0
        have e0 : bk0.tab.slots.length = 0 := rfl
        exact drops_keepW f (blk l v.num.toNat).tab.slots (l.set v.num.toNat bk0) R (fun hn => by
          have : 0 < (blk l v.num.toNat).tab.slots.length := List.length_pos_iff.2 hn
          omega) (h.gone hk hp) u hu q (gone_keep h hk hp u (by simp [hu]) q hq)
    · rw [dropF_other hk]
      exact hq
theorem drops_keepW (f : Nat) : ∀ (ss : List Sl) (l : List Bk) (R : List V), (ss ≠ [] → slotsN l < f) → Cnt T W l (refsS ss ++ R) → ∀ u ∈ R, ∀ q, wOf l u q → wOf (dropS (dropF f) l ss) u q
  | [], l, R, _, _ => fun u _ q hq => hq
  | s :: r, l, R, hf, h => fun u hu q hq => by
    rw [dropS]
    rw [refsS_cons] at h
    cases hl : s.live with
    | false =>
      rw [hl] at h
      simp only [Bool.false_eq_true, if_false] at h ⊢
      exact drops_keepW f r l R (fun _ => hf (by simp)) h u hu q hq
    | true =>
      rw [hl] at h
      simp only [if_true] at h ⊢
      have h0 := hf (by simp)
      have h2 := Cnt.drop f l s.val (refsS r ++ R) h0 h
      have h3 := (drop_in f l s.val h.hIn (refIn_of h (by simp))).2
      exact drops_keepW f r _ R (fun _ => by omega) h2 u hu q (drop_keepW f l s.val (refsS r ++ R) h0 h u (List.mem_append.2 (.inr hu)) q hq)
end
end Go.Sx
/-! Weights around a block's own copy. -/
namespace Go.Sx
open Go
variable {T : Tb → Prop} {W : Nat}
theorem alloc_keepV {l : List Bk} {R : List V} {t : Tb} {m : Nat} (h : Cnt T W l (refsS t.slots ++ R)) (ht : T t) (hm : m + 1 ≤ W) (hw : SumR l t.slots m) : wOf (allocH l t) (hnd (freeN l)) (m + 1) ∧ ∀ u ∈ R, ∀ q, wOf l u q → wOf (allocH l t) u q := by
  obtain ⟨_, q2, q3⟩ := Cnt.alloc h ht hm hw (by decide)
  refine ⟨?_, fun u hu q hq => ?_⟩
  · unfold wOf
    rw [if_pos (show (hnd _).kind = 5 from rfl)]
    exact q2
  · unfold wOf at hq ⊢
    by_cases h5 : u.kind = 5
    · rw [if_pos h5] at hq ⊢
      obtain ⟨r1, r2⟩ := ref_used h (u := u) (by simp [hu]) h5
      exact q3 _ r1 r2 q hq
    · rw [if_neg h5] at hq ⊢
      exact hq
theorem own_weigh {l : List Bk} {R : List V} {v : V} (h : Cnt T W l (v :: R)) (h0 : T tb0) (hW : 1 ≤ W) (hb : (v :: R ++ refsB l).length + (blk l v.num.toNat).tab.slots.length ≤ 1000000000000) {n : Nat} (hn : wOf l v n) :
    wOf (ownH l v).1 (hnd (ownH l v).2) n ∧ ∀ u ∈ R, ∀ q, wOf l u q → wOf (ownH l v).1 u q := by
  unfold ownH
  by_cases h5 : v.kind = 5
  · rw [if_pos h5]
    have hh := h.is_held (v := v) (by simp)
    obtain ⟨q1, q2, q3⟩ := held_num hh h5
    unfold wOf at hn
    rw [if_pos h5] at hn
    split
    · refine ⟨?_, fun u _ q hq => hq⟩
      show wOf l (hnd v.num.toNat) n
      unfold wOf
      rw [if_pos (show (hnd _).kind = 5 from rfl)]
      exact hn
    · have hs := cnt_shares (blk l v.num.toNat).tab.slots l (v :: R) h (fun u hu => List.mem_append.2 (.inr (refs_at (blk_at q2) hu))) hb
      have hs2 : Cnt T W (shareSl l (blk l v.num.toNat).tab.slots) (v :: (refsS (blk l v.num.toNat).tab.slots ++ R)) := hs.perm List.perm_middle
      have up := shareSl_blk (blk l v.num.toNat).tab.slots l v.num.toNat
      have hl := hs2.less h5 (by have := up.2; omega)
      have hl : Cnt T W (splitH l v.num.toNat) (refsS (blk l v.num.toNat).tab.slots ++ R) := hl
      have tabs : ∀ j, (blk (splitH l v.num.toNat) j).tab = (blk l j).tab := fun j => by
        have e := (shareSl_blk (blk l v.num.toNat).tab.slots l j).1
        unfold splitH
        by_cases hj : v.num.toNat = j
        · subst hj
          rw [blk_set_same (by rw [shareSl_len]; exact q2)]
          exact e
        · rw [blk_set_ne hj]
          exact e
      obtain ⟨n2, hn2, hw2⟩ := h.light _ _ (blk_at q2) q3
      obtain ⟨m2, hm2, rfl⟩ := Wt.iff.1 hw2
      obtain ⟨m, hm, rfl⟩ := Wt.iff.1 hn
      have em := SumR.uniq hm2 hm
      obtain ⟨r1, r2⟩ := alloc_keepV hl (h.tab _ _ (blk_at q2) (by omega)).1 (m := m) (by omega) (sumR_tabs tabs hm)
      refine ⟨r1, fun u hu q hq => r2 u hu q ?_⟩
      unfold wOf at hq ⊢
      split
      · rename_i k5
        rw [if_pos k5] at hq
        obtain ⟨f, hf⟩ := hq
        exact ⟨f, by rw [wt_tabs tabs]; exact hf⟩
      · rename_i k5
        rw [if_neg k5] at hq
        exact hq
  · rw [if_neg h5]
    unfold wOf at hn
    rw [if_neg h5] at hn
    subst hn
    exact alloc_keepV (t := tb0) (m := 0) (h.skip h5) h0 hW (SumR.nil l)
end Go.Sx
/-! How many references a heap of small tables holds. -/
namespace Go.Sx
open Go
theorem few_blk {L W : Nat} {l : List Bk} {R : List V} (h : Cnt (isFew L) W l R) (j : Nat) : (blk l j).tab.slots.length ≤ 1024 ∧ liveN (blk l j).tab.slots ≤ L := by
  by_cases hj : j < l.length
  · by_cases h0 : (blk l j).count = 0
    · rw [free_slots (h.fr _ _ (blk_at hj) h0)]
      exact ⟨Nat.zero_le _, Nat.zero_le _⟩
    · obtain ⟨q, _⟩ := h.tab _ _ (blk_at hj) h0
      exact ⟨((Tb.isTab_iff _).1 q.1).ch.len, q.live⟩
  · rw [blk_out (by omega)]
    exact ⟨Nat.zero_le _, Nat.zero_le _⟩
theorem few_all {L W : Nat} {l : List Bk} {R : List V} (h : Cnt (isFew L) W l R) (j : Nat) : (blk l j).tab.slots.length ≤ L ∧ ∀ s ∈ (blk l j).tab.slots, s.val.bulk ≤ 16 := by
  by_cases hj : j < l.length
  · by_cases h0 : (blk l j).count = 0
    · rw [free_slots (h.fr _ _ (blk_at hj) h0)]
      exact ⟨Nat.zero_le _, fun s hs => by cases hs⟩
    · obtain ⟨q, _⟩ := h.tab _ _ (blk_at hj) h0
      exact q.2
  · rw [blk_out (by omega)]
    exact ⟨Nat.zero_le _, fun s hs => by cases hs⟩
theorem refsB_few {L : Nat} : ∀ (l : List Bk), (∀ b ∈ l, liveN b.tab.slots ≤ L) → (refsB l).length ≤ l.length * L
  | [], _ => Nat.zero_le _
  | b :: r, h => by
    have ih := refsB_few r fun u hu => h u (by simp [hu])
    have h1 := h b (by simp)
    have e : refsB (b :: r) = refsS b.tab.slots ++ refsB r := by unfold refsB; rw [List.flatMap_cons]
    rw [e, List.length_append, refsS_len, List.length_cons, Nat.succ_mul]
    omega
theorem refsB_le {L W : Nat} {l : List Bk} {R : List V} (h : Cnt (isFew L) W l R) : (refsB l).length ≤ l.length * L := refsB_few l fun b hb => by
  obtain ⟨j, hj⟩ := List.getElem?_of_mem hb
  have := (few_blk h j).2
  rwa [blk_get hj] at this
end Go.Sx
/-! A write into a counted heap. -/
namespace Go.Sx
open Go
theorem put_put {t : Tb} (c : t.ch) {k : Ky} {j : Nat} (w : t.wf) (hf : t.find k = some j) (z x : V) : (t.put k z).put k x = t.put k x := by
  obtain ⟨s, hs, hl, hk⟩ := Tb.find_key c hf
  have e1 : t.put k z = t.setVal j z := by unfold Tb.put; rw [hf]
  have e2 : t.put k x = t.setVal j x := by unfold Tb.put; rw [hf]
  have w2 : (t.setVal j z).wf := w.setVal hs hl z
  rw [e1, e2]
  have hj := (List.getElem?_eq_some_iff.1 hs).1
  have e3 : (t.setVal j z).slots = t.slots.set j ⟨s.key, z, s.live, s.link⟩ := by
    rw [Tb.setVal_eq hs]
    exact (set_split _ hj).symm
  have g : (t.setVal j z).slots[j]? = some ⟨s.key, z, s.live, s.link⟩ := by
    rw [e3, List.getElem?_set_self hj]
  have hf2 : (t.setVal j z).find k = some j := by
    cases hq : (t.setVal j z).find k with
    | none => exact absurd hk (w2.find_none hq ⟨s.key, z, s.live, s.link⟩ (List.mem_of_getElem? g) hl)
    | some i =>
      obtain ⟨u, hu, ul, uk⟩ := Tb.find_key w2.ch hq
      rcases Nat.lt_trichotomy i j with h | h | h
      · exact absurd (uk.trans hk.symm) (w2.dist j i ⟨s.key, z, s.live, s.link⟩ u h g hu hl ul)
      · rw [h]
      · exact absurd (hk.trans uk.symm) (w2.dist i j u ⟨s.key, z, s.live, s.link⟩ h hu g ul hl)
  have e4 : (t.setVal j z).put k x = (t.setVal j z).setVal j x := by unfold Tb.put; rw [hf2]
  rw [e4, Tb.setVal_eq g]
  have a1 : (t.setVal j z).hashed = t.hashed ∧ (t.setVal j z).heads = t.heads ∧ (t.setVal j z).next = t.next ∧ (t.setVal j z).count = t.count := by
    rw [Tb.setVal_eq hs]
    exact ⟨rfl, rfl, rfl, rfl⟩
  obtain ⟨b1, b2, b3, b4⟩ := a1
  have e5 : ∀ y : Sl, (t.setVal j z).slots.take j ++ y :: (t.setVal j z).slots.drop (j + 1) = t.slots.take j ++ y :: t.slots.drop (j + 1) := fun y => by
    rw [← set_split y (by rw [e3, List.length_set]; exact hj), ← set_split y hj, e3, List.set_set]
  rw [b1, b2, b3, b4, e5, Tb.setVal_eq hs]
end Go.Sx
/-! Heaps that agree but for some blocks that are named from outside alone. -/
namespace Go.Sx
open Go
variable {T : Tb → Prop} {W : Nat} {P : Nat → Prop} {g0 g : Nat → Bk}
structure Agr (P : Nat → Prop) (g0 g : Nat → Bk) (l l' : List Bk) : Prop where
  len : l'.length = l.length
  out : ∀ i, ¬ P i → blk l' i = blk l i
  one : ∀ i, P i → (blk l i).count = 1 ∧ (blk l' i).count = 1 ∧ blk l i = g0 i ∧ blk l' i = g i
/-- what is no hole is set in both -/
theorem Agr.set {l l' : List Bk} (a : Agr P g0 g l l') {i : Nat} (hi : ¬ P i) (b : Bk) : Agr P g0 g (l.set i b) (l'.set i b) := by
  refine ⟨by rw [List.length_set, List.length_set, a.len], fun j hj => ?_, fun j hj => ?_⟩
  · by_cases e : i = j
    · subst e
      by_cases h : i < l.length
      · rw [blk_set_same h, blk_set_same (by rw [a.len]; exact h)]
      · have ln := a.len
        rw [List.set_eq_of_length_le (l := l) (by omega), List.set_eq_of_length_le (l := l') (by omega)]
        exact a.out i hi
    · rw [blk_set_ne e, blk_set_ne e]
      exact a.out j hj
  · have e : ¬ i = j := fun e => hi (e ▸ hj)
    rw [blk_set_ne e, blk_set_ne e]
    exact a.one j hj
theorem Agr.share {l l' : List Bk} (a : Agr P g0 g l l') {v : V} (h : v.kind = 5 → ¬ P v.num.toNat) : Agr P g0 g (shareH l v) (shareH l' v) := by
  by_cases hk : v.kind = 5
  · rw [shareH_this hk, shareH_this hk, a.out _ (h hk)]
    exact a.set (h hk) _
  · rw [shareH_other hk, shareH_other hk]
    exact a
mutual
theorem Agr.drop : ∀ (f : Nat) (l l' : List Bk) (v : V) (R : List V), slotsN l < f → Cnt T W l (v :: R) → (∀ i, P i → hnd i ∈ R) → Agr P g0 g l l' → Agr P g0 g (dropF f l v) (dropF f l' v)
  | 0, _, _, _, _, hf, _, _, _ => by omega
  | f + 1, l, l', v, R, hf, h, hm, a => by
    by_cases hk : v.kind = 5
    · have hne : ¬ P v.num.toNat := fun hp => (frame_ne h (hm _ hp) (a.one _ hp).1 hk).2 rfl
      have eb := a.out _ hne
      by_cases hp : 0 < (blk l v.num.toNat).count - 1
      · rw [dropF_keep hk hp, dropF_keep hk (by rw [eb]; exact hp), eb]
        exact a.set hne _
      · rw [dropF_gone hk hp, dropF_gone hk (by rw [eb]; exact hp), eb]
        obtain ⟨h1, h2, h3⟩ := h.ref hk
        have hs := slotsN_set h2 bk0
        have e0 : bk0.tab.slots.length = 0 := rfl
        exact Agr.drops f (blk l v.num.toNat).tab.slots (l.set v.num.toNat bk0) (l'.set v.num.toNat bk0) R (fun hn => by
          have : 0 < (blk l v.num.toNat).tab.slots.length := List.length_pos_iff.2 hn
          omega) (h.gone hk hp) hm (a.set hne _)
    · rw [dropF_other hk, dropF_other hk]
      exact a
theorem Agr.drops (f : Nat) : ∀ (ss : List Sl) (l l' : List Bk) (R : List V), (ss ≠ [] → slotsN l < f) → Cnt T W l (refsS ss ++ R) → (∀ i, P i → hnd i ∈ R) → Agr P g0 g l l' → Agr P g0 g (dropS (dropF f) l ss) (dropS (dropF f) l' ss)
  | [], l, l', R, _, _, _, a => a
  | s :: r, l, l', R, hf, h, hm, a => by
    rw [dropS, dropS]
    rw [refsS_cons] at h
    cases hl : s.live with
    | false =>
      rw [hl] at h
      simp only [Bool.false_eq_true, if_false] at h ⊢
      exact Agr.drops f r l l' R (fun _ => hf (by simp)) h hm a
    | true =>
      rw [hl] at h
      simp only [if_true] at h ⊢
      have h0 := hf (by simp)
      have h2 := Cnt.drop f l s.val (refsS r ++ R) h0 h
      have h3 := (drop_in f l s.val h.hIn (refIn_of h (by simp))).2
      exact Agr.drops f r _ _ R (fun _ => by omega) h2 hm (Agr.drop f l l' s.val (refsS r ++ R) h0 h (fun i hi => List.mem_append.2 (.inr (hm i hi))) a)
end
end Go.Sx
/-! .. new references, new blocks, a block's own copy. -/
namespace Go.Sx
open Go
variable {T : Tb → Prop} {W : Nat} {P : Nat → Prop} {g0 g : Nat → Bk}
theorem Agr.shares : ∀ (ss : List Sl) {l l' : List Bk}, Agr P g0 g l l' → (∀ u ∈ refsS ss, u.kind = 5 → ¬ P u.num.toNat) → Agr P g0 g (shareSl l ss) (shareSl l' ss)
  | [], l, l', a, _ => a
  | s :: r, l, l', a, h => by
    rw [shareSl, shareSl]
    rw [refsS_cons] at h
    cases hl : s.live with
    | false =>
      rw [hl] at h
      simp only [Bool.false_eq_true, if_false] at h ⊢
      exact Agr.shares r a h
    | true =>
      rw [hl] at h
      simp only [if_true] at h ⊢
      exact Agr.shares r (a.share (h s.val (by simp))) fun u hu => h u (by simp [hu])
theorem Agr.count {l l' : List Bk} (a : Agr P g0 g l l') (i : Nat) : (blk l' i).count = (blk l i).count := by
  by_cases h : P i
  · rw [(a.one i h).1, (a.one i h).2.1]
  · rw [a.out i h]
theorem Agr.free {l l' : List Bk} (a : Agr P g0 g l l') : freeN l' = freeN l := by
  refine freeN_is (fun j b hj hb => ?_) (by rw [a.len]; exact freeN_le l) (fun b hb h0 => ?_)
  · obtain ⟨hlt, rfl⟩ := blk_some hb
    have hlt2 : j < l.length := by rw [← a.len]; exact hlt
    rw [a.count j]
    exact freeN_before hj (blk_at hlt2)
  · obtain ⟨hlt, rfl⟩ := blk_some hb
    rw [a.count] at h0
    have hlt2 : freeN l < l.length := by rw [← a.len]; exact hlt
    exact freeN_at (blk_at hlt2) h0
theorem Agr.alloc {l l' : List Bk} (a : Agr P g0 g l l') (t : Tb) : Agr P g0 g (allocH l t) (allocH l' t) := by
  have ef := a.free
  have hno : ∀ i, P i → ¬ i = freeN l := fun i hi e => by
    have h1 := (a.one i hi).1
    by_cases hlt : freeN l < l.length
    · have := freeN_at (blk_at hlt)
      rw [← e, h1] at this
      exact this (by decide)
    · rw [e, blk_out (by omega)] at h1
      exact absurd h1 (by decide)
  refine ⟨?_, fun i hi => ?_, fun i hi => ?_⟩
  · unfold allocH
    rw [ef, a.len]
    split
    · rw [List.length_set, List.length_set, a.len]
    · rw [List.length_append, List.length_append, a.len]
  · rw [alloc_blk, alloc_blk, ef, a.out i hi]
  · rw [alloc_blk, alloc_blk, ef, if_neg (hno i hi), if_neg (hno i hi)]
    exact a.one i hi
theorem Agr.own {l l' : List Bk} {R : List V} {v : V} (a : Agr P g0 g l l') (h : Cnt T W l (v :: R)) (hm : ∀ i, P i → hnd i ∈ R) : Agr P g0 g (ownH l v).1 (ownH l' v).1 ∧ (ownH l' v).2 = (ownH l v).2 ∧ ¬ P (ownH l v).2 := by
  have hfree : ∀ {q : List Bk}, (∀ i, P i → (blk q i).count = 1) → ¬ P (freeN q) := fun {q} hq hp => by
    have h1 := hq _ hp
    by_cases hlt : freeN q < q.length
    · have := freeN_at (blk_at hlt)
      rw [h1] at this
      exact this (by decide)
    · rw [blk_out (by omega)] at h1
      exact absurd h1 (by decide)
  unfold ownH
  by_cases h5 : v.kind = 5
  · have hne : ¬ P v.num.toNat := fun hp => (frame_ne h (hm _ hp) (a.one _ hp).1 h5).2 rfl
    have eb := a.out _ hne
    rw [if_pos h5, if_pos h5, eb]
    obtain ⟨q1, q2, q3⟩ := held_num (h.is_held (v := v) (by simp)) h5
    by_cases h1 : (blk l v.num.toNat).count = 1
    · rw [if_pos h1, if_pos h1]
      exact ⟨a, rfl, hne⟩
    · rw [if_neg h1, if_neg h1]
      have s1 := a.shares (blk l v.num.toNat).tab.slots fun u hu k5 hp => frame_in h (List.mem_cons_of_mem _ (hm _ hp)) (a.one _ hp).1 u (refs_at (blk_at q2) hu) k5 rfl
      have s2 : Agr P g0 g (splitH l v.num.toNat) (splitH l' v.num.toNat) := by
        unfold splitH
        rw [eb, s1.out _ hne]
        exact s1.set hne _
      exact ⟨s2.alloc _, s2.free, hfree fun i hi => (s2.one i hi).1⟩
  · rw [if_neg h5, if_neg h5]
    exact ⟨a.alloc _, a.free, hfree fun i hi => (a.one i hi).1⟩
theorem Agr.setT {l l' : List Bk} (a : Agr P g0 g l l') {i : Nat} (hi : ¬ P i) (k : Ky) (x : V) : Agr P g0 g (setT l i k x) (setT l' i k x) := by
  unfold Go.Sx.setT
  rw [a.out i hi]
  exact a.set hi _
theorem Agr.inner {l l' : List Bk} (a : Agr P g0 g l l') {i : Nat} (hi : ¬ P i) (k : Ky) : innerH l' i k = innerH l i k := by
  unfold innerH
  rw [a.out i hi]
end Go.Sx
/-! A write into a counted heap keeps it counted. -/
namespace Go.Sx
open Go
theorem put_at {t : Tb} (w : t.wf) {k : Ky} {j : Nat} (hf : t.find k = some j) (z : V) : (t.put k z).find k = some j ∧ ∃ s, (t.put k z).slots[j]? = some s ∧ s.val = z := by
  obtain ⟨s, hs, hl, hk⟩ := Tb.find_key w.ch hf
  have e1 : t.put k z = t.setVal j z := by unfold Tb.put; rw [hf]
  have w2 : (t.setVal j z).wf := w.setVal hs hl z
  have hj := (List.getElem?_eq_some_iff.1 hs).1
  have e3 : (t.setVal j z).slots = t.slots.set j ⟨s.key, z, s.live, s.link⟩ := by
    rw [Tb.setVal_eq hs]
    exact (set_split _ hj).symm
  have g : (t.setVal j z).slots[j]? = some ⟨s.key, z, s.live, s.link⟩ := by
    rw [e3, List.getElem?_set_self hj]
  rw [e1]
  refine ⟨?_, _, g, rfl⟩
  cases hq : (t.setVal j z).find k with
  | none => exact absurd hk (w2.find_none hq ⟨s.key, z, s.live, s.link⟩ (List.mem_of_getElem? g) hl)
  | some i =>
    obtain ⟨u, hu, ul, uk⟩ := Tb.find_key w2.ch hq
    rcases Nat.lt_trichotomy i j with h | h | h
    · exact absurd (uk.trans hk.symm) (w2.dist j i ⟨s.key, z, s.live, s.link⟩ u h g hu hl ul)
    · rw [h]
    · exact absurd (hk.trans uk.symm) (w2.dist i j u ⟨s.key, z, s.live, s.link⟩ h hu g ul hl)
theorem slots_ext : ∀ (l l' : List Bk), l'.length = l.length → (∀ i, (blk l' i).tab.slots.length = (blk l i).tab.slots.length) → slotsN l' = slotsN l
  | [], [], _, _ => rfl
  | [], _ :: _, h, _ => by simp at h
  | _ :: _, [], h, _ => by simp at h
  | b :: r, b' :: r', h, hs => by
    have ih := slots_ext r r' (by simpa using h) fun i => hs (i + 1)
    have h0 : b'.tab.slots.length = b.tab.slots.length := hs 0
    unfold slotsN gsum at ih ⊢
    rw [List.map_cons, List.map_cons, List.sum_cons, List.sum_cons, ih, h0]
theorem blk_ext {l l' : List Bk} (h : l'.length = l.length) (hs : ∀ i, blk l' i = blk l i) : l' = l := by
  refine List.ext_getElem? fun i => ?_
  by_cases hi : i < l.length
  · rw [blk_at hi, blk_at (by omega), hs i]
  · rw [List.getElem?_eq_none (by omega), List.getElem?_eq_none (by omega)]
theorem set_ext {l l' : List Bk} {j : Nat} (b : Bk) (h : l'.length = l.length) (hs : ∀ i, ¬ i = j → blk l' i = blk l i) : l'.set j b = l.set j b := by
  refine blk_ext (by rw [List.length_set, List.length_set, h]) fun i => ?_
  by_cases e : i = j
  · subst e
    by_cases hi : i < l.length
    · rw [blk_set_same hi, blk_set_same (by omega)]
    · rw [blk_out (by rw [List.length_set]; omega), blk_out (by rw [List.length_set]; omega)]
  · rw [blk_set_ne (fun q => e q.symm), blk_set_ne (fun q => e q.symm), hs i e]
theorem Agr.slots {P : Nat → Prop} {g0 g : Nat → Bk} {l l' : List Bk} (a : Agr P g0 g l l') (hs : ∀ i, P i → (g i).tab.slots.length = (g0 i).tab.slots.length) : slotsN l' = slotsN l :=
  slots_ext l l' a.len fun i => by
    by_cases h : P i
    · rw [(a.one i h).2.2.1, (a.one i h).2.2.2, hs i h]
    · rw [a.out i h]
/-- what one root alone names, no other one names -/
theorem one_ne {T : Tb → Prop} {W : Nat} {l : List Bk} {R : List V} {i : Nat} (h : Cnt T W l (hnd i :: R)) (hi : i < l.length) (hc : (blk l i).count = 1) : ∀ u ∈ R, u.kind = 5 → ¬ u.num.toNat = i := fun u hu h5 e => by
  have hci := h.cnt i hi
  rw [hc, List.cons_append, rc_cons, hnd_to, decide_eq_true rfl] at hci
  simp only [if_true] at hci
  have hz : rc i (R ++ refsB l) = 0 := by omega
  have q := rc_zero hz (v := u) (by simp [hu])
  have r := refIn_of h (v := u) (by simp [hu]) h5
  unfold to at q
  rw [decide_eq_true h5, Bool.true_and, decide_eq_false_iff_not] at q
  omega
theorem wOf_hnd {l : List Bk} {i n : Nat} : wOf l (hnd i) n ↔ Wt l i n := by
  unfold wOf
  rw [if_pos (show (hnd i).kind = 5 from rfl)]
  rfl
/-- what a write makes of a counted heap -/
def WrK (L W n q : Nat) (p : List Ky) (l : List Bk) (R : List V) (v x : V) (w : List Bk × V) : Prop :=
  Cnt (isFew (L + p.length)) (W + n + p.length) w.1 (w.2 :: R) ∧
  (∃ m, m ≤ q + n + p.length ∧ wOf w.1 w.2 m) ∧
  (∀ u ∈ R, ∀ a, wOf l u a → wOf w.1 u a) ∧
  w.2.bulk ≤ 16 ∧ w.1.length ≤ l.length + p.length ∧
  ∀ (P : Nat → Prop) (g0 g : Nat → Bk) (l' : List Bk), Agr P g0 g l l' → (∀ i, P i → hnd i ∈ R) → (∀ i, P i → (g i).tab.slots.length = (g0 i).tab.slots.length) → Agr P g0 g w.1 (wrH p l' v false x).1 ∧ (wrH p l' v false x).2 = w.2
theorem wrK_nil {L W n q : Nat} {l : List Bk} {R : List V} {v x : V} (h : Cnt (isFew L) W l (v :: x :: R)) (hx : wOf l x n) (hb : x.bulk ≤ 16) : WrK L W n q [] l R v x (wrH [] l v false x) := by
  rw [wrH_drop]
  have d := Cnt.drop (slotsN l + 1) l v (x :: R) (Nat.lt_succ_self _) h
  have dk := drop_keepW (slotsN l + 1) l v (x :: R) (Nat.lt_succ_self _) h
  refine ⟨d.mono (fun t k => k) (by omega), ⟨n, by omega, dk x (by simp) n hx⟩, fun u hu a ha => dk u (by simp [hu]) a ha, hb, ?_, fun P g0 g l' a hm hs => ?_⟩
  · have := (drop_in (slotsN l + 1) l v h.hIn (refIn_of h (by simp))).1.len
    show (dropF (slotsN l + 1) l v).length ≤ l.length + 0
    omega
  · rw [wrH_drop, a.slots hs]
    exact ⟨Agr.drop (slotsN l + 1) l l' v (x :: R) (Nat.lt_succ_self _) h (fun i hi => by simp [hm i hi]) a, rfl⟩
end Go.Sx
/-! .. its step: a block's own copy with the slot emptied, the write below, and the slot filled. -/
namespace Go.Sx
open Go
/-- a block's own copy, its slot emptied -/
structure Took (L W n q : Nat) (l1 l2 : List Bk) (R : List V) (j : Nat) (k : Ky) (u x : V) : Prop where
  cnt : Cnt (isFew L) W l2 (u :: x :: hnd j :: R)
  one : (blk l2 j).count = 1
  one1 : (blk l1 j).count = 1
  len : l2.length = l1.length
  out : ∀ i, ¬ i = j → blk l2 i = blk l1 i
  slots : (blk l1 j).tab.slots.length = (blk l2 j).tab.slots.length
  same : ∀ y, (blk l1 j).withT ((blk l1 j).tab.put k y) = (blk l2 j).withT ((blk l2 j).tab.put k y)
  old : ∀ (i : Nat) (s : Sl), (blk l2 j).tab.find k = some i → (blk l2 j).tab.slots[i]? = some s → ¬ s.val.kind = 5
  inn : u = innerH l1 j k
  wt : ∃ m a, m + a ≤ q + 1 ∧ 1 ≤ m ∧ Wt l2 j m ∧ wOf l2 u a
  wx : wOf l2 x n
  keep : ∀ w ∈ R, ∀ a, wOf l1 w a → wOf l2 w a
theorem own_few {L W : Nat} {l : List Bk} {R : List V} (h : Cnt (isFew L) W l R) {j : Nat} (hj : j < l.length) (hc : (blk l j).count = 1) : isFew L (blk l j).tab := (h.tab j _ (blk_at hj) (by omega)).1
theorem took {L W n q : Nat} {l1 : List Bk} {R : List V} {j : Nat} {x : V} (k : Ky) (h : Cnt (isFew L) W l1 (hnd j :: x :: R)) (hc : (blk l1 j).count = 1) (hq : Wt l1 j q) (hx : wOf l1 x n) :
    ∃ l2, Took L W n q l1 l2 R j k (innerH l1 j k) x := by
  have hj := frame_lt h (i := j) (by simp)
  have fw := own_few h hj hc
  have w := (Tb.isTab_iff _).1 fw.1
  have perm : ∀ u : V, (u :: hnd j :: x :: R).Perm (u :: x :: hnd j :: R) := fun u => (List.Perm.swap x (hnd j) R).cons u
  have q1 : 1 ≤ q := wOf_pos (wOf_hnd.2 hq)
  cases hf : (blk l1 j).tab.find k with
  | none =>
    have e : innerH l1 j k = V.zero := by
      unfold innerH
      rw [hf]
    rw [e]
    refine ⟨l1, ⟨(h.add (v := V.zero) (by decide) ?_).perm (perm _), hc, hc, rfl, fun _ _ => rfl, rfl, fun _ => rfl, fun i s hi => ?_, e.symm, ⟨q, 1, Nat.le_refl _, q1, hq, wOf_zero _⟩, hx, fun _ _ _ h => h⟩⟩
    · unfold held0
      rw [if_neg (by decide)]
      exact ⟨by decide, zero_wf⟩
    · rw [hf] at hi
      cases hi
  | some jj =>
    obtain ⟨s, hs, hl, hk⟩ := Tb.find_key w.ch hf
    rw [innerH_some hf hs]
    obtain ⟨t1, ⟨m', a, e1, _, e3, e4⟩, t3⟩ := cnt_take h hj hc hf hs (fw.put_old hf (by decide)) hq
    have hbi : blk (setT l1 j k V.zero) j = (blk l1 j).withT ((blk l1 j).tab.put k V.zero) := by
      unfold setT
      exact blk_set_same hj
    have hbn : ∀ i, ¬ i = j → blk (setT l1 j k V.zero) i = blk l1 i := fun i hi => by
      unfold setT
      exact blk_set_ne (fun e => hi e.symm)
    have kp : ∀ u ∈ x :: R, ∀ a, wOf l1 u a → wOf (setT l1 j k V.zero) u a := fun u hu a ha => by
      unfold wOf at ha ⊢
      by_cases h5 : u.kind = 5
      · rw [if_pos h5] at ha ⊢
        exact t3 _ (one_ne h hj hc u hu h5) (refIn_of h (v := u) (List.mem_append.2 (.inl (List.mem_cons_of_mem _ hu))) h5).2 _ ha
      · rw [if_neg h5] at ha ⊢
        exact ha
    obtain ⟨pa, s2, pb, pc⟩ := put_at w hf V.zero
    refine ⟨setT l1 j k V.zero, ⟨t1.perm (perm _), by rw [hbi]; exact hc, hc, setT_len _ _ _ _, hbn, ?_, fun y => ?_, fun i s' hi hs' => ?_, (innerH_some hf hs).symm, ⟨m', a, by omega, wOf_pos (wOf_hnd.2 e4), e4, e3⟩, kp x (by simp) n hx, fun u hu => kp u (by simp [hu])⟩⟩
    · rw [hbi]
      exact (put_old_few hf V.zero).1.symm
    · rw [hbi]
      show _ = Bk.withT _ (((blk l1 j).tab.put k V.zero).put k y)
      rw [put_put w.ch w hf]
      rfl
    · rw [hbi] at hi hs'
      have hi : ((blk l1 j).tab.put k V.zero).find k = some i := hi
      have hs' : ((blk l1 j).tab.put k V.zero).slots[i]? = some s' := hs'
      rw [pa] at hi
      cases hi
      rw [pb] at hs'
      cases hs'
      rw [pc]
      decide
end Go.Sx
