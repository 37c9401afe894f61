/-
  A part of the abstract machine over the model's Code, or of the proof that what it shows holds of the model; no program is in sight, and nothing is assumed.
-/
import Derived.Test.YtedfplodobpgfaaGreatDoorSxHeld
/-! What is done to heaps, in plain Lean: load, share, drop, store. -/
namespace Go.Sx
open Go
/-! the tree of a held value -/
def ldS (g : V → V) (ss : List Sl) : List (Ky × V) := (ss.filter (·.live)).map fun s => (s.key, g s.val)
def ldF (l : List Bk) : Nat → V → V
  | 0, v => v
  | f + 1, v => if v.kind = 5 then ⟨4, 0, ⟨#[]⟩, (blk l v.num.toNat).tab.next, ldS (ldF l f) (blk l v.num.toNat).tab.slots⟩ else v
theorem ldF_other {l : List Bk} {f : Nat} {v : V} (h : ¬ v.kind = 5) : ldF l f v = v := by
  cases f with
  | zero => rfl
  | succ f => rw [ldF, if_neg h]
theorem ldF_handle {l : List Bk} {f : Nat} {v : V} (h : v.kind = 5) : ldF l (f + 1) v = ⟨4, 0, ⟨#[]⟩, (blk l v.num.toNat).tab.next, ldS (ldF l f) (blk l v.num.toNat).tab.slots⟩ := by rw [ldF, if_pos h]
theorem ldS_snoc {g : V → V} {ss : List Sl} {i : Nat} {s : Sl} (h : ss[i]? = some s) : ldS g (ss.take (i + 1)) = if s.live then ldS g (ss.take i) ++ [(s.key, g s.val)] else ldS g (ss.take i) := by
  unfold ldS
  rw [take_snoc h, List.filter_append, List.map_append]
  cases hl : s.live <;> simp [hl]
theorem ldS_len (g : V → V) (ss : List Sl) : (ldS g ss).length = liveN ss := List.length_map ..
theorem ldS_le (g : V → V) (ss : List Sl) (i : Nat) : (ldS g (ss.take i)).length ≤ i := by
  rw [ldS_len]
  have := liveN_le (ss.take i)
  rw [List.length_take] at this
  omega
/-- a weighed value: not a handle, or its block has a weight by then -/
def weighed (l : List Bk) (f : Nat) (v : V) : Prop := isHeld l v = true ∧ (v.kind = 5 → ∃ n, wtF l f v.num.toNat = some n)
theorem sumW_mem {g : Nat → Option Nat} : ∀ {ss : List Sl} {n : Nat}, sumW g ss = some n → ∀ s ∈ ss, s.live = true → s.val.kind = 5 → ∃ m, g s.val.num.toNat = some m
  | [], _, _, s, hs, _, _ => by cases hs
  | u :: r, n, h, s, hs, hl, hk => by
    rw [sumW] at h
    cases hu : u.live with
    | false =>
      rw [hu] at h
      simp only [Bool.false_eq_true, if_false] at h
      cases hs with
      | head => rw [hl] at hu; cases hu
      | tail _ hs => exact sumW_mem h s hs hl hk
    | true =>
      rw [hu] at h
      simp only [if_true] at h
      cases h1 : (if u.val.kind = 5 then g u.val.num.toNat else some 1) with
      | none => rw [h1] at h; cases h
      | some a =>
        cases h2 : sumW g r with
        | none => rw [h1, h2] at h; cases h
        | some b =>
          cases hs with
          | head => rw [if_pos hk] at h1; exact ⟨a, h1⟩
          | tail _ hs => exact sumW_mem h2 s hs hl hk
theorem weighed.kids {l : List Bk} {f : Nat} {v : V} (hin : inR l) (w : weighed l (f + 1) v) (hk : v.kind = 5) : ∀ (k : Nat) (s : Sl), (blk l v.num.toNat).tab.slots[k]? = some s → s.live = true → weighed l f s.val := by
  intro k s hs hl
  obtain ⟨q1, q2, q3⟩ := held_num w.1 hk
  obtain ⟨n, hn⟩ := w.2 hk
  rw [wtF] at hn
  simp only [Option.map_eq_some_iff] at hn
  obtain ⟨m, hm, _⟩ := hn
  exact ⟨hin _ _ (blk_at q2) k s hs hl, fun h5 => sumW_mem hm s (List.mem_of_getElem? hs) hl h5⟩
theorem hOk.weighed {l : List Bk} (h : hOk l) {v : V} (hv : isHeld l v = true) : weighed l 200 v := by
  refine ⟨hv, fun hk => ?_⟩
  obtain ⟨q1, q2, q3⟩ := held_num hv hk
  obtain ⟨n, hn, hw⟩ := h.light _ _ (blk_at q2) q3
  exact ⟨n, hw.fuel hn⟩
/-- all tables are right enough to be walked -/
def allCh (l : List Bk) : Prop := ∀ (i : Nat) (b : Bk), l[i]? = some b → b.tab.ch
theorem free_tab {b : Bk} (h : b.free = true) : b.tab = tb0 := by
  unfold Bk.free at h
  simp only [Bool.and_eq_true, decide_eq_true_eq, Bool.not_eq_true'] at h
  obtain ⟨h1, h2, h3, h4, h5⟩ := h
  obtain ⟨c, ⟨a1, a2, a3, a4, a5⟩⟩ := b
  simp only at h1 h2 h3 h4 h5 ⊢
  rw [h1, List.eq_nil_of_length_eq_zero h2, List.eq_nil_of_length_eq_zero h3, h4, h5]
  rfl
theorem hOk.ch {l : List Bk} (h : hOk l) : allCh l := by
  intro i b hb
  have := h.blk i b hb
  by_cases hc : b.count = 0
  · rw [bkOk_free hc] at this
    rw [free_tab this]
    exact tb0_ch
  · exact tab_ch ((bkOk_live hc).1 this).2.1
theorem blk_out {l : List Bk} {i : Nat} (h : l.length ≤ i) : blk l i = bk0 := by
  unfold blk
  rw [List.getD_eq_getElem?_getD, List.getElem?_eq_none h]
  rfl
theorem allCh.blk {l : List Bk} (h : allCh l) (i : Nat) : (blk l i).tab.ch := by
  by_cases hi : i < l.length
  · exact h i _ (blk_at hi)
  · rw [blk_out (by omega)]
    exact tb0_ch
/-- how much a loaded tree holds -/
theorem ld_bulk {l : List Bk} (hin : inR l) (hc : allCh l) : ∀ (f : Nat) (v : V), weighed l f v → ∀ n, (v.kind = 5 → wtF l f v.num.toNat = some n) → (¬ v.kind = 5 → n = 1) → (ldF l f v).bulk + 401 ≤ 801 * n
  | 0, v, w, n, h, k => by
    by_cases h5 : v.kind = 5
    · have := h h5
      cases this
    · have e := held_items w.1
      have hb := V.bulk_eq v
      rw [e.1] at hb
      have hz : V.bulks [] = 0 := rfl
      rw [hz] at hb
      have := k h5
      show v.bulk + 401 ≤ _
      omega
  | f + 1, v, w, n, h, k => by
    by_cases h5 : v.kind = 5
    · have hn := h h5
      rw [wtF] at hn
      simp only [Option.map_eq_some_iff] at hn
      obtain ⟨m, hm, rfl⟩ := hn
      rw [ldF_handle h5]
      have hks := (hc.blk v.num.toNat).keys
      have key : ∀ (ss : List Sl) (m : Nat), (∀ s ∈ ss, s.live = true → weighed l f s.val ∧ s.key.str.size ≤ 400) → sumW (wtF l f) ss = some m → V.bulks (ldS (ldF l f) ss) ≤ 801 * m := by
        intro ss
        induction ss with
        | nil => intro m _ hm; simp [ldS, V.bulks]
        | cons s r ih =>
          intro m hs hm
          rw [sumW] at hm
          unfold ldS at ih ⊢
          rw [List.filter_cons]
          cases hl : s.live with
          | false =>
            rw [hl] at hm
            simp only [Bool.false_eq_true, if_false] at hm ⊢
            exact ih m (fun u hu => hs u (by simp [hu])) hm
          | true =>
            rw [hl] at hm
            simp only [if_true] at hm ⊢
            obtain ⟨hw, hsz⟩ := hs s (by simp) hl
            cases h1 : (if s.val.kind = 5 then wtF l f s.val.num.toNat else some 1) with
            | none => rw [h1] at hm; cases hm
            | some a =>
              cases h2 : sumW (wtF l f) r with
              | none => rw [h1, h2] at hm; cases hm
              | some b =>
                rw [h1, h2] at hm
                have e : a + b = m := Option.some.inj hm
                have i1 := ih b (fun u hu => hs u (by simp [hu])) h2
                have i2 := ld_bulk hin hc f s.val hw a (fun q => by rw [if_pos q] at h1; exact h1) (fun q => by rw [if_neg q] at h1; exact (Option.some.inj h1).symm)
                rw [List.map_cons]
                simp only [V.bulks]
                omega
      have hsl : ∀ s ∈ (blk l v.num.toNat).tab.slots, s.live = true → weighed l f s.val ∧ s.key.str.size ≤ 400 := fun s hs hl => by
        obtain ⟨k, hk⟩ := List.getElem?_of_mem hs
        refine ⟨w.kids hin h5 k s hk hl, ?_⟩
        have := (hks k s hk).1
        unfold keyOk at this
        cases ht : s.key.text with
        | true => rw [ht] at this; simp at this; omega
        | false => rw [ht] at this; simp at this; rw [this.1]; exact Nat.zero_le _
      have hq := key _ m hsl hm
      have hb := V.bulk_eq (⟨4, 0, ⟨#[]⟩, (blk l v.num.toNat).tab.next, ldS (ldF l f) (blk l v.num.toNat).tab.slots⟩ : V)
      have e1 : (⟨4, 0, ⟨#[]⟩, (blk l v.num.toNat).tab.next, ldS (ldF l f) (blk l v.num.toNat).tab.slots⟩ : V).items = ldS (ldF l f) (blk l v.num.toNat).tab.slots := rfl
      have e2 : (⟨4, 0, ⟨#[]⟩, (blk l v.num.toNat).tab.next, ldS (ldF l f) (blk l v.num.toNat).tab.slots⟩ : V).str.size = 0 := rfl
      rw [e1, e2] at hb
      omega
    · have e := held_items w.1
      have hb := V.bulk_eq v
      rw [e.1] at hb
      have hz : V.bulks [] = 0 := rfl
      rw [hz] at hb
      have := k h5
      rw [ldF_other h5]
      omega
end Go.Sx
namespace Go.Sx
open Go
def loadOf (l : List Bk) (v : V) : V × Bool := if heapB l && isHeld l v then (ldF l 200 v, true) else (V.zero, false)
theorem load_yes {l : List Bk} {v : V} (h : heapB l = true) (k : isHeld l v = true) : loadOf l v = (ldF l 200 v, true) := if_pos (by rw [h, k]; rfl)
theorem load_no1 {l : List Bk} {v : V} (h : heapB l = false) : loadOf l v = (V.zero, false) := if_neg (by rw [h]; simp)
theorem load_no2 {l : List Bk} {v : V} (k : isHeld l v = false) : loadOf l v = (V.zero, false) := if_neg (by rw [k]; simp)
theorem ld_small {l : List Bk} (h : hOk l) {v : V} (hv : isHeld l v = true) : (ldF l 200 v).bulk ≤ 160200 := by
  have w := h.weighed hv
  by_cases h5 : v.kind = 5
  · obtain ⟨q1, q2, q3⟩ := held_num hv h5
    obtain ⟨n, hn, hw⟩ := h.light _ _ (blk_at q2) q3
    have := ld_bulk h.inR h.ch 200 v w n (fun _ => hw.fuel hn) (fun q => absurd h5 q)
    omega
  · have := ld_bulk h.inR h.ch 200 v w 1 (fun q => absurd q h5) (fun _ => rfl)
    omega
theorem loadOf_bulk (l : List Bk) (v : V) : (loadOf l v).1.bulk ≤ 160200 := by
  unfold loadOf
  split
  · rename_i h
    simp only [Bool.and_eq_true] at h
    exact ld_small (heapB_iff.1 h.1) h.2
  · exact Nat.zero_le _
/-! sharing -/
def Bk.withC (b : Bk) (n : Int) : Bk := ⟨n, b.tab⟩
def Bk.withT (b : Bk) (t : Tb) : Bk := ⟨b.count, t⟩
def shareH (l : List Bk) (v : V) : List Bk := if v.kind = 5 then l.set v.num.toNat ((blk l v.num.toNat).withC ((blk l v.num.toNat).count + 1)) else l
theorem shareH_len (l : List Bk) (v : V) : (shareH l v).length = l.length := by
  unfold shareH
  split
  · rw [List.length_set]
  · rfl
def shareOk (l : List Bk) (v : V) : Bool := heapB l && (isHeld l v && !(decide (v.kind = 5) && decide ((blk l v.num.toNat).count = 1000000000000)))
def shareOf (l : List Bk) (v : V) : List Bk := if shareOk l v then shareH l v else l
/-! counts -/
def allHeld (l : List Bk) (roots : List V) : Bool := roots.all (isHeld l)
def sameC (l : List Bk) (c : List Int) : Bool := allIx c.length fun i => decide ((blk l i).count = c.getD i 0)
def countedB (l : List Bk) (roots : List V) : Bool := heapB l && (allHeld l roots && sameC l (counts l roots))
theorem sameC_iff {l : List Bk} {c : List Int} : sameC l c = true ↔ ∀ i, i < c.length → (blk l i).count = c.getD i 0 := by
  unfold sameC
  rw [allIx_iff]
  exact ⟨fun h i hi => of_decide_eq_true (h i hi), fun h i hi => decide_eq_true (h i hi)⟩
theorem counted_no1 {l : List Bk} {rs : List V} (h : heapB l = false) : countedB l rs = false := by unfold countedB; rw [h]; rfl
theorem counted_no2 {l : List Bk} {rs : List V} {v : V} (hv : v ∈ rs) (h : isHeld l v = false) : countedB l rs = false := by
  unfold countedB allHeld
  rw [show rs.all (isHeld l) = false from List.all_eq_false.2 ⟨v, hv, by rw [h]; simp⟩]
  simp
theorem counted_no3 {l : List Bk} {rs : List V} (h : sameC l (counts l rs) = false) : countedB l rs = false := by unfold countedB; rw [h]; simp
theorem counted_yes {l : List Bk} {rs : List V} (h : heapB l = true) (h2 : ∀ v ∈ rs, isHeld l v = true) (h3 : sameC l (counts l rs) = true) : countedB l rs = true := by
  unfold countedB allHeld
  rw [h, h3, List.all_eq_true.2 h2]
  rfl
/-! dropping -/
def slotsN (l : List Bk) : Nat := gsum (fun b : Bk => b.tab.slots.length) l
def dropS (g : List Bk → V → List Bk) : List Bk → List Sl → List Bk
  | l, [] => l
  | l, s :: r => dropS g (if s.live then g l s.val else l) r
def dropF : Nat → List Bk → V → List Bk
  | 0, l, _ => l
  | f + 1, l, v => if v.kind = 5 then
      (if 0 < (blk l v.num.toNat).count - 1 then l.set v.num.toNat ((blk l v.num.toNat).withC ((blk l v.num.toNat).count - 1))
       else dropS (dropF f) (l.set v.num.toNat bk0) (blk l v.num.toNat).tab.slots)
    else l
theorem dropS_append (g : List Bk → V → List Bk) (p q : List Sl) : ∀ l, dropS g l (p ++ q) = dropS g (dropS g l p) q := by
  induction p with
  | nil => intro l; rfl
  | cons e r ih => intro l; rw [List.cons_append, dropS, dropS, ih]
theorem dropS_snoc {g : List Bk → V → List Bk} {l : List Bk} {ss : List Sl} {i : Nat} {s : Sl} (h : ss[i]? = some s) : dropS g l (ss.take (i + 1)) = if s.live then g (dropS g l (ss.take i)) s.val else dropS g l (ss.take i) := by
  rw [take_snoc h, dropS_append]
  rfl
theorem gsum_set {α : Type} {w : α → Nat} {l : List α} {i : Nat} {a : α} (h : l[i]? = some a) (u : α) : gsum w (l.set i u) + w a = gsum w l + w u := by
  have hi := (List.getElem?_eq_some_iff.1 h).1
  have e1 : l = l.take i ++ a :: l.drop (i + 1) := at_split h
  rw [set_split u hi]
  conv => rhs; rw [e1]
  simp only [gsum, List.map_append, List.map_cons, List.sum_append, List.sum_cons]
  omega
theorem blk_set_ne {l : List Bk} {i j : Nat} {b : Bk} (h : ¬ i = j) : blk (l.set i b) j = blk l j := by
  unfold blk
  rw [List.getD_eq_getElem?_getD, List.getD_eq_getElem?_getD, List.getElem?_set, if_neg h]
theorem blk_set_same {l : List Bk} {i : Nat} {b : Bk} (h : i < l.length) : blk (l.set i b) i = b := by
  unfold blk
  rw [List.getD_eq_getElem?_getD, List.getElem?_set, if_pos rfl, if_pos h]
  rfl
/-- what is right of a heap all through: handles within it, tables that can be walked, counts from 0 on -/
structure hIn (n : Nat) (c : Int) (l : List Bk) : Prop where
  len : l.length = n
  num : ∀ (i : Nat) (b : Bk), l[i]? = some b → ∀ (k : Nat) (s : Sl), b.tab.slots[k]? = some s → s.live = true → s.val.kind = 5 → 0 ≤ s.val.num ∧ s.val.num.toNat < n
  cnt : ∀ (i : Nat) (b : Bk), l[i]? = some b → 0 ≤ b.count ∧ b.count ≤ c
theorem hOk.hIn {l : List Bk} (h : hOk l) : hIn l.length 1000000000000 l := by
  refine ⟨rfl, fun i b hb k s hs hl h5 => ?_, fun i b hb => ?_⟩
  · obtain ⟨q1, q2, _⟩ := held_num (h.inR i b hb k s hs hl) h5
    exact ⟨q1, q2⟩
  · have := h.blk i b hb
    by_cases hc : b.count = 0
    · omega
    · have := ((bkOk_live hc).1 this).1
      omega
theorem set_getB {l : List Bk} {i j : Nat} {b u : Bk} (h : (l.set i u)[j]? = some b) : (j = i ∧ b = u) ∨ l[j]? = some b := by
  rw [List.getElem?_set] at h
  split at h
  · rename_i he
    split at h
    · cases h; exact .inl ⟨he.symm, rfl⟩
    · cases h
  · exact .inr h
/-- a block with fewer references, or none of its slots -/
theorem hIn.set {n : Nat} {c : Int} {l : List Bk} (h : hIn n c l) (i : Nat) {u : Bk} (hs : u.tab.slots = (blk l i).tab.slots ∨ u.tab.slots = []) (hc : 0 ≤ u.count ∧ u.count ≤ c) : hIn n c (l.set i u) := by
  refine ⟨by rw [List.length_set, h.len], fun j b hb k s hk hl h5 => ?_, fun j b hb => ?_⟩
  · rcases set_getB hb with ⟨rfl, rfl⟩ | hb
    · rcases hs with hs | hs
      · rw [hs] at hk
        by_cases hj : j < l.length
        · exact h.num j _ (blk_at hj) k s hk hl h5
        · rw [blk_out (by omega)] at hk
          simp [bk0] at hk
      · rw [hs] at hk
        simp at hk
    · exact h.num j b hb k s hk hl h5
  · rcases set_getB hb with ⟨rfl, rfl⟩ | hb
    · exact hc
    · exact h.cnt j b hb
theorem hIn.up {n : Nat} {c c' : Int} {l : List Bk} (h : hIn n c l) (hc : c ≤ c') : hIn n c' l := ⟨h.len, h.num, fun i b hb => by have := h.cnt i b hb; omega⟩
theorem hIn.blk {n : Nat} {c : Int} {l : List Bk} (h : hIn n c l) {i : Nat} (hi : i < n) : (0 ≤ (blk l i).count ∧ (blk l i).count ≤ c) ∧ ∀ s ∈ (blk l i).tab.slots, s.live = true → s.val.kind = 5 → 0 ≤ s.val.num ∧ s.val.num.toNat < n := by
  have hb := blk_at (l := l) (i := i) (by rw [h.len]; exact hi)
  refine ⟨h.cnt i _ hb, fun s hs hl h5 => ?_⟩
  obtain ⟨k, hk⟩ := List.getElem?_of_mem hs
  exact h.num i _ hb k s hk hl h5
/-- a reference that lies within the heap -/
def refIn (n : Nat) (v : V) : Prop := v.kind = 5 → 0 ≤ v.num ∧ v.num.toNat < n
theorem held_ref {l : List Bk} {v : V} (h : isHeld l v = true) : refIn l.length v := fun k => by
  obtain ⟨q1, q2, _⟩ := held_num h k
  exact ⟨q1, q2⟩
theorem slotsN_set {l : List Bk} {i : Nat} (hi : i < l.length) (u : Bk) : slotsN (l.set i u) + (blk l i).tab.slots.length = slotsN l + u.tab.slots.length := gsum_set (w := fun b : Bk => b.tab.slots.length) (blk_at hi) u
/-- dropping keeps what is right; slots go away only -/
theorem drop_in {n : Nat} {c : Int} : ∀ (f : Nat) (l : List Bk) (v : V), hIn n c l → refIn n v → hIn n c (dropF f l v) ∧ slotsN (dropF f l v) ≤ slotsN l
  | 0, l, v, h, _ => ⟨h, Nat.le_refl _⟩
  | f + 1, l, v, h, hr => by
    rw [dropF]
    split
    · rename_i h5
      obtain ⟨q1, q2⟩ := hr h5
      obtain ⟨hc, hs⟩ := h.blk q2
      split
      · refine ⟨h.set _ (.inl rfl) (by show 0 ≤ (blk l v.num.toNat).count - 1 ∧ (blk l v.num.toNat).count - 1 ≤ _; omega), ?_⟩
        have := slotsN_set (l := l) (by rw [h.len]; exact q2) ((blk l v.num.toNat).withC ((blk l v.num.toNat).count - 1))
        have e : ((blk l v.num.toNat).withC ((blk l v.num.toNat).count - 1)).tab.slots.length = (blk l v.num.toNat).tab.slots.length := rfl
        omega
      · have h0 : hIn n c (l.set v.num.toNat bk0) := h.set _ (.inr rfl) ⟨Int.le_refl _, by show (0 : Int) ≤ c; omega⟩
        have t0 := slotsN_set (l := l) (by rw [h.len]; exact q2) bk0
        have e : bk0.tab.slots.length = 0 := rfl
        have key : ∀ (ss : List Sl) (l' : List Bk), (∀ s ∈ ss, s.live = true → s.val.kind = 5 → 0 ≤ s.val.num ∧ s.val.num.toNat < n) → hIn n c l' → hIn n c (dropS (dropF f) l' ss) ∧ slotsN (dropS (dropF f) l' ss) ≤ slotsN l' := by
          intro ss
          induction ss with
          | nil => intro l' _ h'; exact ⟨h', Nat.le_refl _⟩
          | cons s r ih =>
            intro l' hr' h'
            rw [dropS]
            cases hl : s.live with
            | false =>
              simp only [Bool.false_eq_true, if_false]
              exact ih l' (fun u hu => hr' u (by simp [hu])) h'
            | true =>
              simp only [if_true]
              obtain ⟨i1, i2⟩ := drop_in f l' s.val h' (hr' s (by simp) hl)
              obtain ⟨i3, i4⟩ := ih _ (fun u hu => hr' u (by simp [hu])) i1
              exact ⟨i3, by omega⟩
        obtain ⟨i1, i2⟩ := key _ _ hs h0
        exact ⟨i1, by omega⟩
    · exact ⟨h, Nat.le_refl _⟩
/-- the same, along slots -/
theorem drops_in {n : Nat} {c : Int} (f : Nat) : ∀ (ss : List Sl) (l : List Bk), (∀ s ∈ ss, s.live = true → s.val.kind = 5 → 0 ≤ s.val.num ∧ s.val.num.toNat < n) → hIn n c l → hIn n c (dropS (dropF f) l ss) ∧ slotsN (dropS (dropF f) l ss) ≤ slotsN l
  | [], l, _, h => ⟨h, Nat.le_refl _⟩
  | s :: r, l, hr, h => by
    rw [dropS]
    cases hl : s.live with
    | false =>
      simp only [Bool.false_eq_true, if_false]
      exact drops_in f r l (fun u hu => hr u (by simp [hu])) h
    | true =>
      simp only [if_true]
      obtain ⟨i1, i2⟩ := drop_in f l s.val h (hr s (by simp) hl)
      obtain ⟨i3, i4⟩ := drops_in f r _ (fun u hu => hr u (by simp [hu])) i1
      exact ⟨i3, by omega⟩
def dropOf (l : List Bk) (roots : List V) (i : Int) : List Bk × Bool :=
  if decide (0 ≤ i ∧ i ≤ (roots.length : Int) - 1) && countedB l roots then (dropF (slotsN l + 1) l (roots.getD i.toNat V.zero), true) else (l, false)
/-! how much heaps hold -/
theorem szG_set {α : Type} {w : α → Nat} {l : List α} {i : Nat} {a : α} (h : l[i]? = some a) (u : α) : szG w (l.set i u) + w a = szG w l + w u := by
  have := gsum_set (w := w) h u
  unfold szG
  rw [List.length_set]
  omega
theorem setB_bulk {l : List Bk} {i : Nat} (u : Bk) (h : u.tab.bulk ≤ (blk l i).tab.bulk) : szG Bk.bulk (l.set i u) ≤ szG Bk.bulk l := by
  by_cases hi : i < l.length
  · have := szG_set (w := Bk.bulk) (blk_at hi) u
    have e1 : Bk.bulk u = u.tab.bulk := rfl
    have e2 : Bk.bulk (blk l i) = (blk l i).tab.bulk := rfl
    omega
  · rw [List.set_eq_of_length_le (by omega)]
    exact Nat.le_refl _
theorem drop_bulk : ∀ (f : Nat) (l : List Bk) (v : V), szG Bk.bulk (dropF f l v) ≤ szG Bk.bulk l
  | 0, l, v => Nat.le_refl _
  | f + 1, l, v => by
    rw [dropF]
    split
    · split
      · exact setB_bulk _ (Nat.le_refl _)
      · have h0 := setB_bulk (l := l) (i := v.num.toNat) bk0 (Nat.zero_le _)
        have key : ∀ (ss : List Sl) (l' : List Bk), szG Bk.bulk (dropS (dropF f) l' ss) ≤ szG Bk.bulk l' := by
          intro ss
          induction ss with
          | nil => intro l'; exact Nat.le_refl _
          | cons s r ih =>
            intro l'
            rw [dropS]
            have := ih (if s.live then dropF f l' s.val else l')
            split at this
            · rename_i hl
              have := drop_bulk f l' s.val
              rw [if_pos hl]
              omega
            · rename_i hl
              rw [if_neg hl]
              omega
        have := key (blk l v.num.toNat).tab.slots (l.set v.num.toNat bk0)
        omega
    · exact Nat.le_refl _
theorem dropOf_bulk (l : List Bk) (roots : List V) (i : Int) : szG Bk.bulk (dropOf l roots i).1 ≤ szG Bk.bulk l := by
  unfold dropOf
  split
  · exact drop_bulk _ _ _
  · exact Nat.le_refl _
theorem share_bulk (l : List Bk) (v : V) : szG Bk.bulk (shareOf l v) ≤ szG Bk.bulk l := by
  unfold shareOf
  split
  · unfold shareH
    split
    · exact setB_bulk _ (Nat.le_refl _)
    · exact Nat.le_refl _
  · exact Nat.le_refl _
/-! storing -/
/-- the first free block -/
def freeN : List Bk → Nat
  | [] => 0
  | b :: r => if 0 < b.count then freeN r + 1 else 0
theorem freeN_le : ∀ l : List Bk, freeN l ≤ l.length
  | [] => Nat.le_refl _
  | b :: r => by
    have := freeN_le r
    rw [freeN, List.length_cons]
    split <;> omega
theorem freeN_before : ∀ {l : List Bk} {i : Nat} {b : Bk}, i < freeN l → l[i]? = some b → 0 < b.count
  | [], i, b, h, hb => by simp at hb
  | u :: r, 0, b, h, hb => by
    rw [freeN] at h
    simp only [List.getElem?_cons_zero, Option.some.injEq] at hb
    subst hb
    split at h
    · assumption
    · omega
  | u :: r, i + 1, b, h, hb => by
    rw [freeN] at h
    simp only [List.getElem?_cons_succ] at hb
    split at h
    · exact freeN_before (l := r) (by omega) hb
    · omega
theorem freeN_at : ∀ {l : List Bk} {b : Bk}, l[freeN l]? = some b → ¬ 0 < b.count
  | [], b, hb => by simp at hb
  | u :: r, b, hb => by
    rw [freeN] at hb
    split at hb
    · simp only [List.getElem?_cons_succ] at hb
      exact freeN_at hb
    · rename_i h
      simp only [List.getElem?_cons_zero, Option.some.injEq] at hb
      subst hb
      exact h
theorem freeN_is {l : List Bk} {i : Nat} (h1 : ∀ (j : Nat) (b : Bk), j < i → l[j]? = some b → 0 < b.count) (hi : i ≤ l.length) (h2 : ∀ b, l[i]? = some b → ¬ 0 < b.count) : freeN l = i := by
  rcases Nat.lt_trichotomy (freeN l) i with h | h | h
  · have := blk_at (l := l) (i := freeN l) (by omega)
    exact absurd (h1 _ _ h this) (freeN_at this)
  · exact h
  · have hl := freeN_le l
    have := blk_at (l := l) (i := i) (by omega)
    exact absurd (freeN_before h this) (h2 _ this)
def hnd (i : Nat) : V := ⟨5, (i : Nat), ⟨#[]⟩, 0, []⟩
def allocH (l : List Bk) (t : Tb) : List Bk := if freeN l < l.length then l.set (freeN l) ⟨1, t⟩ else l ++ [⟨1, t⟩]
theorem allocH_len (l : List Bk) (t : Tb) : l.length ≤ (allocH l t).length ∧ (allocH l t).length ≤ l.length + 1 ∧ freeN l < (allocH l t).length := by
  have := freeN_le l
  unfold allocH
  split
  · rw [List.length_set]; omega
  · rw [List.length_append, List.length_singleton]; omega
theorem allocH_bulk (l : List Bk) (t : Tb) : szG Bk.bulk (allocH l t) ≤ szG Bk.bulk l + 1 + t.bulk := by
  unfold allocH
  split
  · rename_i h
    have := szG_set (w := Bk.bulk) (blk_at h) ⟨1, t⟩
    have e1 : Bk.bulk ⟨1, t⟩ = t.bulk := rfl
    omega
  · rw [szG_append, szG_one]
    have e1 : Bk.bulk ⟨1, t⟩ = t.bulk := rfl
    omega
mutual
def sto : V → List Bk → List Bk × V
  | ⟨k, n, s, x, es⟩, l => if k = 4 then (allocH (stoE es l tb0).1 ((stoE es l tb0).2.withN x), hnd (freeN (stoE es l tb0).1)) else (l, ⟨k, n, s, x, es⟩)
def stoE : List (Ky × V) → List Bk → Tb → List Bk × Tb
  | [], l, t => (l, t)
  | (k, v) :: r, l, t => stoE r (sto v l).1 (t.put k (sto v l).2)
end
theorem sto_arr {v : V} {l : List Bk} (h : v.kind = 4) : sto v l = (allocH (stoE v.items l tb0).1 ((stoE v.items l tb0).2.withN v.next), hnd (freeN (stoE v.items l tb0).1)) := by
  obtain ⟨k, n, s, x, es⟩ := v
  have h : k = 4 := h
  rw [sto, if_pos h]
  rfl
theorem sto_other {v : V} {l : List Bk} (h : ¬ v.kind = 4) : sto v l = (l, v) := by
  obtain ⟨k, n, s, x, es⟩ := v
  have h : ¬ k = 4 := h
  rw [sto, if_neg h]
theorem stoE_nil (l : List Bk) (t : Tb) : stoE [] l t = (l, t) := by rw [stoE]
theorem stoE_cons (e : Ky × V) (r : List (Ky × V)) (l : List Bk) (t : Tb) : stoE (e :: r) l t = stoE r (sto e.2 l).1 (t.put e.1 (sto e.2 l).2) := by
  obtain ⟨k, v⟩ := e
  rw [stoE]
theorem stoE_append (q : List (Ky × V)) : ∀ (p : List (Ky × V)) (l : List Bk) (t : Tb), stoE (p ++ q) l t = stoE q (stoE p l t).1 (stoE p l t).2
  | [], l, t => by rw [List.nil_append, stoE_nil]
  | e :: r, l, t => by rw [List.cons_append, stoE_cons, stoE_append q r, stoE_cons]
theorem stoE_snoc {es : List (Ky × V)} {i : Nat} {e : Ky × V} (h : es[i]? = some e) (l : List Bk) (t : Tb) : stoE (es.take (i + 1)) l t = ((sto e.2 (stoE (es.take i) l t).1).1, (stoE (es.take i) l t).2.put e.1 (sto e.2 (stoE (es.take i) l t).1).2) := by
  rw [take_snoc h, stoE_append, stoE_cons, stoE_nil]
/-- the table on the way is right -/
theorem stoE_ok : ∀ {es : List (Ky × V)} {l : List Bk} {t : Tb}, t.ch → (∀ e ∈ es, keyOk e.1 = true) → liveN t.slots + es.length ≤ 1024 → (stoE es l t).2.ch ∧ liveN (stoE es l t).2.slots ≤ liveN t.slots + es.length
  | [], l, t, c, _, _ => by rw [stoE_nil]; exact ⟨c, Nat.le_refl _⟩
  | e :: r, l, t, c, hk, hl => by
    rw [List.length_cons] at hl
    have c1 := c.put (k := e.1) (sto e.2 l).2 (hk e (by simp)) fun _ => by omega
    have l1 := put_live c e.1 (sto e.2 l).2 fun _ => by omega
    have := stoE_ok (es := r) (l := (sto e.2 l).1) c1 (fun u hu => hk u (by simp [hu])) (by omega)
    rw [stoE_cons, List.length_cons]
    exact ⟨this.1, by omega⟩
theorem stoE_at {es : List (Ky × V)} (l : List Bk) (hk : ∀ e ∈ es, keyOk e.1 = true) (hl : es.length < 200) (i : Nat) : (stoE (es.take i) l tb0).2.ch ∧ (i < es.length → liveN (stoE (es.take i) l tb0).2.slots < 1024) := by
  have h2 : (es.take i).length ≤ es.length := by rw [List.length_take]; omega
  have e0 : liveN tb0.slots = 0 := rfl
  obtain ⟨q1, q2⟩ := stoE_ok (es := es.take i) (l := l) tb0_ch (fun e he => hk e (List.mem_of_mem_take he)) (by omega)
  exact ⟨q1, fun hi => by omega⟩
theorem hnd_bulk (i : Nat) : (hnd i).bulk = 0 := rfl
mutual
theorem sto_bulk : ∀ (v : V) (l : List Bk), szG Bk.bulk (sto v l).1 + (sto v l).2.bulk ≤ szG Bk.bulk l + 65538 * v.bulk + 1 ∧ (sto v l).1.length ≤ l.length + 1 + 2 * v.bulk
  | ⟨k, n, s, x, es⟩, l => by
    rw [sto]
    simp only [V.bulk]
    split
    · obtain ⟨h1, h2⟩ := stoE_bulk es l tb0
      have h4 := allocH_bulk (stoE es l tb0).1 ((stoE es l tb0).2.withN x)
      have h5 := (allocH_len (stoE es l tb0).1 ((stoE es l tb0).2.withN x)).2.1
      have e : ((stoE es l tb0).2.withN x).bulk = (stoE es l tb0).2.bulk := rfl
      have e0 : tb0.bulk = 0 := rfl
      simp only [hnd_bulk]
      omega
    · simp only [V.bulk]
      omega
theorem stoE_bulk : ∀ (es : List (Ky × V)) (l : List Bk) (t : Tb), szG Bk.bulk (stoE es l t).1 + (stoE es l t).2.bulk ≤ szG Bk.bulk l + t.bulk + 65538 * V.bulks es ∧ (stoE es l t).1.length ≤ l.length + 2 * V.bulks es
  | [], l, t => by rw [stoE_nil]; simp only; omega
  | (k, v) :: r, l, t => by
    rw [stoE]
    obtain ⟨h1, h3⟩ := sto_bulk v l
    obtain ⟨h4, h5⟩ := stoE_bulk r (sto v l).1 (t.put k (sto v l).2)
    have h6 := t.put_bulk k (sto v l).2
    simp only [V.bulks]
    omega
end
def storeOf (l : List Bk) (v : V) : List Bk × V × Bool := if heapB l && v.valid then ((sto v l).1, (sto v l).2, true) else (l, V.zero, false)
theorem store_yes {l : List Bk} {v : V} (h : heapB l = true) (k : v.valid = true) : storeOf l v = ((sto v l).1, (sto v l).2, true) := if_pos (by rw [h, k]; rfl)
theorem store_no1 {l : List Bk} {v : V} (h : heapB l = false) : storeOf l v = (l, V.zero, false) := if_neg (by rw [h]; simp)
theorem store_no2 {l : List Bk} {v : V} (k : v.valid = false) : storeOf l v = (l, V.zero, false) := if_neg (by rw [k]; simp)
theorem storeOf_bulk (l : List Bk) (v : V) : szG Bk.bulk (storeOf l v).1 + (storeOf l v).2.1.bulk ≤ szG Bk.bulk l + 65538 * v.bulk + 1 := by
  unfold storeOf
  split
  · exact (sto_bulk v l).1
  · have e : V.zero.bulk = 0 := rfl
    simp only [e]
    omega
end Go.Sx
