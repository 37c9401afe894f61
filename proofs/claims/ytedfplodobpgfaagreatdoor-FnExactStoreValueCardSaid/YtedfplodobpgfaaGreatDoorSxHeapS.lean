/-
  A part of the abstract machine over the model's Code, or of the proof that what it shows holds of the model; no program is in sight, and nothing is assumed.
-/
import Derived.Test.YtedfplodobpgfaaGreatDoorSxHeapF
import Derived.Test.YtedfplodobpgfaaGreatDoorSxPutPath
/-! Loaded trees are values; where a key stands in a table; a value written into a shared heap. -/
namespace Go.Sx
open Go
/-! a chain finds every live slot of its bucket -/
theorem chain_full {size : Nat} (hs : 0 < size) {ss : List Sl} {k : Ky} (hb : Back ss) (hl : ∀ (i : Nat) (s : Sl), ss[i]? = some s → (hdsN size ss i)[s.key.hash % size]? = some s.link) : ∀ n, n ≤ ss.length → chain ss k ((hdsN size ss n).getD (k.hash % size) (-1)) = none →
    ∀ (i : Nat) (s : Sl), i < n → ss[i]? = some s → s.live = true → ¬ s.key = k
  | 0, _, _, i, s, h, _, _ => by omega
  | n + 1, hn, hc, i, s, hi, hg, hv => by
    obtain ⟨u, hu, _⟩ := get_lt (l := ss) (i := n) (by omega)
    have hlen := hdsN_len size ss n
    have hm := Nat.mod_lt k.hash hs
    rw [hdsN_succ hu] at hc
    by_cases hbk : u.key.hash % size = k.hash % size
    · have e1 : ((hdsN size ss n).set (u.key.hash % size) (n : Nat)).getD (k.hash % size) (-1) = (n : Int) := by
        rw [hbk, List.getD_eq_getElem?_getD, List.getElem?_set, if_pos rfl, if_pos (by omega)]
        rfl
      rw [e1] at hc
      have hun : ss[((n : Nat) : Int).toNat]? = some u := by
        rw [show ((n : Nat) : Int).toNat = n by omega]
        exact hu
      by_cases hit : u.live = true ∧ u.key = k
      · rw [chain_hit (by omega) hun hit] at hc
        cases hc
      · rw [chain_miss hb (by omega) hun hit] at hc
        have hlk := hl n u hu
        rw [hbk] at hlk
        have e2 : (hdsN size ss n).getD (k.hash % size) (-1) = u.link := by rw [List.getD_eq_getElem?_getD, hlk]; rfl
        by_cases he : i = n
        · subst he
          rw [hu] at hg
          cases hg
          exact fun q => hit ⟨hv, q⟩
        · exact chain_full hs hb hl n (by omega) (by rw [e2]; exact hc) i s (by omega) hg hv
    · have e1 : ((hdsN size ss n).set (u.key.hash % size) (n : Nat)).getD (k.hash % size) (-1) = (hdsN size ss n).getD (k.hash % size) (-1) := by
        rw [List.getD_eq_getElem?_getD, List.getD_eq_getElem?_getD, List.getElem?_set, if_neg hbk]
      rw [e1] at hc
      by_cases he : i = n
      · subst he
        rw [hu] at hg
        cases hg
        exact fun q => hbk (by rw [q])
      · exact chain_full hs hb hl n (by omega) hc i s (by omega) hg hv
/-- in a right table a key that is not found stands in no live slot -/
theorem Tb.wf.find_none {t : Tb} (w : t.wf) {k : Ky} (h : t.find k = none) : ∀ s ∈ t.slots, s.live = true → ¬ s.key = k := by
  intro s hs hv
  obtain ⟨i, hi⟩ := List.getElem?_of_mem hs
  cases ht : t.hashed with
  | true =>
    obtain ⟨h1, h2, h3, h4, h5⟩ := w.hash ht
    have hc : chain t.slots k (t.heads.getD (k.hash % t.heads.length) (-1)) = none := by
      unfold Tb.find at h
      rwa [if_pos ht] at h
    have hb := w.ch.back ht
    rw [show t.heads.getD (k.hash % t.heads.length) (-1) = (hdsN t.heads.length t.slots t.slots.length).getD (k.hash % t.heads.length) (-1) from by rw [← h5]] at hc
    exact chain_full (by omega) hb h4 t.slots.length (Nat.le_refl _) hc i s (lt_of_get hi) hi hv
  | false =>
    intro hk
    have e := ((w.packed ht).2.2.2 i s hi).1
    unfold Tb.find at h
    rw [if_neg (by rw [ht]; simp)] at h
    rw [if_pos ?_] at h
    · cases h
    · rw [← hk, e]
      refine ⟨rfl, rfl, by show (0 : Int) ≤ (i : Nat); omega, ?_⟩
      show ((t.slots[((i : Nat) : Int).toNat]?).map (·.live)).getD false = true
      rw [show ((i : Nat) : Int).toNat = i by omega, hi]
      exact hv
theorem Tb.find_key {t : Tb} (c : t.ch) {k : Ky} {j : Nat} (h : t.find k = some j) : ∃ s, t.slots[j]? = some s ∧ s.live = true ∧ s.key = k := by
  have h0 := h
  unfold Tb.find at h
  split at h
  · exact chain_some _ _ _ h
  · rename_i ht
    have ht : t.hashed = false := by simpa using ht
    split at h
    · rename_i hq
      cases h
      obtain ⟨q1, q2, q3, q4⟩ := hq
      obtain ⟨s, hs, hl⟩ := Tb.find_live h0
      have e := (c.packed ht).2 _ s hs
      refine ⟨s, hs, hl, ?_⟩
      rw [e]
      obtain ⟨kt, kn, ks⟩ := k
      simp only at q1 q2 q3
      subst q1 q2
      have : ((kn.toNat : Nat) : Int) = kn := by omega
      simp only [this]
    · cases h
/-- keys of the live slots stand once -/
theorem Tb.wf.keys_once {t : Tb} (w : t.wf) : (liveK t.slots).Nodup := by
  have key : ∀ n, n ≤ t.slots.length → (liveK (t.slots.take n)).Nodup := by
    intro n
    induction n with
    | zero => intro _; simp [liveK]
    | succ n ih =>
      intro hn
      obtain ⟨s, hs, _⟩ := get_lt (l := t.slots) (i := n) (by omega)
      rw [liveK_snoc hs]
      split
      · rename_i hl
        rw [List.nodup_append]
        refine ⟨ih (by omega), by simp, fun a ha b hb hab => ?_⟩
        simp only [List.mem_singleton] at hb
        subst hab
        subst hb
        obtain ⟨j, u, hj, hu, lu, eu⟩ := mem_liveK.1 ha
        exact w.dist n j s u hj hs hu hl lu eu
      · exact ih (by omega)
  have := key t.slots.length (Nat.le_refl _)
  rwa [List.take_length] at this
theorem ldS_keys (g : V → V) : ∀ ss : List Sl, (ldS g ss).map (·.1) = liveK ss := fun ss => by
  unfold ldS liveK
  rw [List.map_map]
  rfl
theorem ldS_mem {g : V → V} {ss : List Sl} {e : Ky × V} (h : e ∈ ldS g ss) : ∃ s ∈ ss, s.live = true ∧ e = (s.key, g s.val) := by
  unfold ldS at h
  simp only [List.mem_map, List.mem_filter] at h
  obtain ⟨s, ⟨h1, h2⟩, h3⟩ := h
  exact ⟨s, h1, h2, h3.symm⟩
/-- entries with right keys that stand once are an array's -/
theorem wfEs_of {x : Int} : ∀ (es : List (Ky × V)) (seen : List Ky), (∀ e ∈ es, keyOk e.1 = true ∧ (e.1.text = true ∨ e.1.num < x) ∧ e.2.wf = true) → (es.map (·.1)).Nodup → (∀ e ∈ es, e.1 ∉ seen) → wfEs x es seen = true
  | [], seen, _, _, _ => wfEs_nil x seen
  | e :: r, seen, h, hd, hs => by
    rw [wfEs_cons]
    obtain ⟨h1, h2, h3⟩ := h e (by simp)
    rw [List.map_cons, List.nodup_cons] at hd
    have hr := wfEs_of (x := x) r (seen ++ [e.1]) (fun u hu => h u (by simp [hu])) hd.2 fun u hu hm => by
      rcases List.mem_append.1 hm with hm | hm
      · exact hs u (by simp [hu]) hm
      · simp only [List.mem_singleton] at hm
        exact hd.1 (List.mem_map.2 ⟨u, hu, hm⟩)
    have h4 := hs e (by simp)
    rw [h1, h3, hr]
    rcases h2 with h2 | h2
    · simp [h2, h4]
    · simp [h4]
      exact .inr h2
/-- what is loaded from a right heap is right -/
theorem ld_wf {l : List Bk} (h : hOk l) : ∀ (f : Nat) (v : V), weighed l f v → (ldF l f v).wf = true
  | 0, v, w => by
    by_cases h5 : v.kind = 5
    · obtain ⟨n, hn⟩ := w.2 h5
      cases hn
    · exact (held_other w.1 h5).2
  | f + 1, v, w => by
    by_cases h5 : v.kind = 5
    · rw [ldF_handle h5]
      obtain ⟨q1, q2, q3⟩ := held_num w.1 h5
      have hbk := h.blk _ _ (blk_at q2)
      have hT := ((bkOk_live (by omega)).1 hbk).2.1
      have wt := (blk l v.num.toNat).tab.isTab_iff.1 hT
      have kids := w.kids h.inR h5
      rw [V.wf_eq]
      unfold wf0
      have e4 : (⟨4, 0, ⟨#[]⟩, (blk l v.num.toNat).tab.next, ldS (ldF l f) (blk l v.num.toNat).tab.slots⟩ : V).kind = 4 := rfl
      have hes : wfEs (blk l v.num.toNat).tab.next (ldS (ldF l f) (blk l v.num.toNat).tab.slots) [] = true := by
        refine wfEs_of _ _ (fun e he => ?_) (by rw [ldS_keys]; exact wt.keys_once) (fun _ _ hm => by cases hm)
        obtain ⟨s, hs, hl, rfl⟩ := ldS_mem he
        obtain ⟨k, hk⟩ := List.getElem?_of_mem hs
        have := wt.keys k s hk
        exact ⟨this.1, this.2.1, ld_wf h f s.val (kids k s hk hl)⟩
      have hnx := wt.next
      rw [e4]
      simp only [Int.reduceEq, not_false_eq_true, decide_true, not_true_eq_false, decide_false, Bool.false_and, Bool.true_and, Bool.not_false, if_false, if_true, or_self]
      simp only [V.str_mk, V.num_mk, V.next_mk, V.items_mk, hes, decide_eq_true hnx]
      simp
    · rw [ldF_other h5]
      exact (held_other w.1 h5).2
theorem weights_nil' : V.weights [] = 0 := V.weights_nil
/-- a loaded tree weighs what its block weighs -/
theorem ld_weight {l : List Bk} (hin : inR l) : ∀ (f : Nat) (v : V), weighed l f v → ∀ n, (v.kind = 5 → wtF l f v.num.toNat = some n) → (¬ v.kind = 5 → n = 1) → (ldF l f v).weight = n
  | 0, v, w, n, h, k => by
    by_cases h5 : v.kind = 5
    · have := h h5
      cases this
    · rw [ldF_other h5, V.weight_eq, if_neg (held_other w.1 h5).1, k h5]
  | f + 1, v, w, n, h, k => by
    by_cases h5 : v.kind = 5
    · have hn := h h5
      rw [wtF] at hn
      simp only [Option.map_eq_some_iff] at hn
      obtain ⟨m, hm, rfl⟩ := hn
      rw [ldF_handle h5, V.weight_eq]
      have key : ∀ (ss : List Sl) (m : Nat), (∀ s ∈ ss, s.live = true → weighed l f s.val) → sumW (wtF l f) ss = some m → V.weights (ldS (ldF l f) ss) = m := by
        intro ss
        induction ss with
        | nil =>
          intro m _ hm
          cases hm
          exact V.weights_nil
        | cons s r ih =>
          intro m hs hm
          rw [sumW] at hm
          unfold ldS at ih ⊢
          rw [List.filter_cons]
          cases hl : s.live with
          | false =>
            rw [hl] at hm
            simp only [Bool.false_eq_true, if_false] at hm ⊢
            exact ih m (fun u hu => hs u (by simp [hu])) hm
          | true =>
            rw [hl] at hm
            simp only [if_true] at hm ⊢
            cases h1 : (if s.val.kind = 5 then wtF l f s.val.num.toNat else some 1) with
            | none => rw [h1] at hm; cases hm
            | some a =>
              cases h2 : sumW (wtF l f) r with
              | none => rw [h1, h2] at hm; cases hm
              | some b =>
                rw [h1, h2] at hm
                have e : a + b = m := Option.some.inj hm
                have i1 := ih b (fun u hu => hs u (by simp [hu])) h2
                have i2 := ld_weight hin f s.val (hs s (by simp) hl) a (fun q => by rw [if_pos q] at h1; exact h1) (fun q => by rw [if_neg q] at h1; exact (Option.some.inj h1).symm)
                rw [List.map_cons, V.weights_cons, i1, i2]
                exact e
      have := key _ m (fun s hs hl => by
        obtain ⟨k, hk⟩ := List.getElem?_of_mem hs
        exact w.kids hin h5 k s hk hl) hm
      show (if (4 : Int) = 4 then 1 + V.weights (ldS (ldF l f) (blk l v.num.toNat).tab.slots) else 1) = m + 1
      rw [if_pos rfl, this]
      omega
    · rw [ldF_other h5, V.weight_eq, if_neg (held_other w.1 h5).1, k h5]
theorem ld_valid {l : List Bk} (h : hOk l) {v : V} (hv : isHeld l v = true) : (ldF l 200 v).valid = true := by
  have w := h.weighed hv
  have hw : (ldF l 200 v).weight ≤ 200 := by
    by_cases h5 : v.kind = 5
    · obtain ⟨q1, q2, q3⟩ := held_num hv h5
      obtain ⟨n, hn, hwt⟩ := h.light _ _ (blk_at q2) q3
      rw [ld_weight h.inR 200 v w n (fun _ => hwt.fuel hn) (fun q => absurd h5 q)]
      exact hn
    · rw [ld_weight h.inR 200 v w 1 (fun q => absurd q h5) (fun _ => rfl)]
      omega
  unfold V.valid
  rw [decide_eq_true hw, ld_wf h 200 v w]
  rfl
/-! the value of a key: in the heap, and in the tree -/
def innerH (l : List Bk) (i : Nat) (k : Ky) : V := match (blk l i).tab.find k with
  | some j => (((blk l i).tab.slots[j]?).map (·.val)).getD V.zero
  | none => V.zero
def inner0 (l : List Bk) (v : V) (k : Ky) : V := if v.kind = 5 then innerH l v.num.toNat k else V.zero
theorem innerH_some {l : List Bk} {i j : Nat} {k : Ky} {s : Sl} (h : (blk l i).tab.find k = some j) (hs : (blk l i).tab.slots[j]? = some s) : innerH l i k = s.val := by
  unfold innerH
  rw [h]
  simp only [hs]
  rfl
theorem innerH_none {l : List Bk} {i : Nat} {k : Ky} (h : (blk l i).tab.find k = none) : innerH l i k = V.zero := by
  unfold innerH
  rw [h]
theorem fk_nodup {es : List (Ky × V)} {k : Ky} {x : V} (hd : (es.map (·.1)).Nodup) (hm : (k, x) ∈ es) (n : Nat) : ∃ j, fk es k n = some (n + j) ∧ es[j]? = some (k, x) := by
  induction es generalizing n with
  | nil => cases hm
  | cons e r ih =>
    rw [List.map_cons, List.nodup_cons] at hd
    by_cases he : e.1 = k
    · refine ⟨0, by rw [fk, if_pos he]; rfl, ?_⟩
      cases hm with
      | head => rfl
      | tail _ hm => exact absurd (List.mem_map.2 ⟨(k, x), hm, rfl⟩) (by rw [← he]; exact hd.1)
    · rcases List.mem_cons.1 hm with hm | hm
      · rw [← hm] at he
        exact absurd rfl he
      · obtain ⟨j, h1, h2⟩ := ih hd.2 hm (n + 1)
        refine ⟨j + 1, by rw [fk, if_neg he, h1]; congr 1; omega, by simpa using h2⟩
theorem get_ld {l : List Bk} (h : hOk l) {f : Nat} {v : V} (w : weighed l (f + 1) v) (h5 : v.kind = 5) (k : Ky) : ((ldF l (f + 1) v).get k).getD V.null = ldF l f (innerH l v.num.toNat k) := by
  obtain ⟨q1, q2, q3⟩ := held_num w.1 h5
  have hbk := h.blk _ _ (blk_at q2)
  have wt := (blk l v.num.toNat).tab.isTab_iff.1 ((bkOk_live (by omega)).1 hbk).2.1
  rw [ldF_handle h5]
  have hfind : (⟨4, 0, ⟨#[]⟩, (blk l v.num.toNat).tab.next, ldS (ldF l f) (blk l v.num.toNat).tab.slots⟩ : V).find k = fk (ldS (ldF l f) (blk l v.num.toNat).tab.slots) k 0 := rfl
  cases hf : (blk l v.num.toNat).tab.find k with
  | some j =>
    obtain ⟨s, hs, hl, hk⟩ := Tb.find_key wt.ch hf
    have hm : (k, ldF l f s.val) ∈ ldS (ldF l f) (blk l v.num.toNat).tab.slots := by
      unfold ldS
      simp only [List.mem_map, List.mem_filter]
      exact ⟨s, ⟨List.mem_of_getElem? hs, hl⟩, by rw [hk]⟩
    obtain ⟨i, h1, h2⟩ := fk_nodup (by rw [ldS_keys]; exact wt.keys_once) hm 0
    rw [innerH_some hf hs]
    unfold V.get
    rw [hfind, h1]
    show (Option.bind (some (0 + i)) fun i => ((ldS (ldF l f) (blk l v.num.toNat).tab.slots)[i]?).map (·.2)).getD V.null = _
    rw [Nat.zero_add, Option.bind_some, h2]
    rfl
  | none =>
    have hno : k ∉ (ldS (ldF l f) (blk l v.num.toNat).tab.slots).map (·.1) := by
      rw [ldS_keys]
      intro hm
      unfold liveK at hm
      simp only [List.mem_map, List.mem_filter] at hm
      obtain ⟨s, ⟨hs, hl⟩, hk⟩ := hm
      exact wt.find_none hf s hs hl hk
    have := (fk_first (ldS (ldF l f) (blk l v.num.toNat).tab.slots) k 0).2 hno
    rw [innerH_none hf]
    unfold V.get
    rw [hfind, this]
    show V.null = ldF l f V.zero
    rw [ldF_other (by decide)]
    rfl
/-- where a path can be written: there are arrays all along, or nothing -/
def pathOk (l : List Bk) : List Ky → V → Bool → Prop
  | [], v, push => push = true → v.kind = 0 ∨ (v.kind = 5 ∧ (blk l v.num.toNat).tab.next ≤ 1000000000)
  | k :: r, v, push => (v.kind = 0 ∨ v.kind = 5) ∧ pathOk l r (inner0 l v k) push
theorem ld_kind {l : List Bk} {f : Nat} {v : V} (w : weighed l f v) (h : ¬ ¬ (ldF l f v).asArr.kind = 4) : v.kind = 0 ∨ v.kind = 5 := by
  by_cases h5 : v.kind = 5
  · exact .inr h5
  · rw [ldF_other h5] at h
    by_cases h0 : v.kind = 0
    · exact .inl h0
    · rw [V.asArr_other h0] at h
      exact absurd (held_other w.1 h5).1 h
theorem weighed.zero (l : List Bk) (f : Nat) : weighed l f V.zero := ⟨by unfold isHeld; rw [if_neg (by decide)]; decide, fun h => absurd h (by decide)⟩
theorem weighed.inner {l : List Bk} (h : hOk l) {f : Nat} {v : V} (w : weighed l (f + 1) v) (k : Ky) : weighed l f (inner0 l v k) := by
  unfold inner0
  split
  · rename_i h5
    cases hf : (blk l v.num.toNat).tab.find k with
    | some j =>
      obtain ⟨s, hs, hl⟩ := Tb.find_live hf
      rw [innerH_some hf hs]
      exact w.kids h.inR h5 j s hs hl
    | none =>
      rw [innerH_none hf]
      exact weighed.zero l f
  · exact weighed.zero l f
theorem weighed.up {l : List Bk} {f : Nat} {v : V} (w : weighed l f v) : weighed l (f + 1) v := ⟨w.1, fun h => by
  obtain ⟨n, hn⟩ := w.2 h
  exact ⟨n, wtF_mono l f _ _ hn⟩⟩
theorem pathOk_null {l : List Bk} : ∀ (p : List Ky) (push : Bool), pathOk l p V.zero push
  | [], _ => fun _ => .inl rfl
  | k :: r, push => ⟨.inl rfl, by unfold inner0; rw [if_neg (by decide)]; exact pathOk_null r push⟩
theorem pathOk_of {l : List Bk} (h : hOk l) (push : Bool) (y : V) : ∀ (p : List Ky) (f : Nat) (v : V), weighed l f v → ((ldF l f v).put p push y).2 = 0 → pathOk l p v push
  | [], f, v, w, hp => by
    intro hq
    subst hq
    rw [V.put_nil_t] at hp
    split at hp
    · simp at hp
    · rename_i hk
      rcases ld_kind w hk with h0 | h5
      · exact .inl h0
      · refine .inr ⟨h5, ?_⟩
        split at hp
        · simp at hp
        · rename_i hn
          cases f with
          | zero =>
            obtain ⟨n, hn⟩ := w.2 h5
            cases hn
          | succ f =>
            have e : (ldF l (f + 1) v).asArr = ldF l (f + 1) v := V.asArr_other (by rw [ldF_handle h5]; show ¬ (4 : Int) = 0; decide)
            rw [e, ldF_handle h5] at hn
            have hn : ¬ ¬ (0 ≤ (blk l v.num.toNat).tab.next ∧ (blk l v.num.toNat).tab.next ≤ 1000000000) := hn
            omega
  | k :: r, f, v, w, hp => by
    rw [V.put_cons] at hp
    split at hp
    · simp at hp
    · rename_i hk
      refine ⟨ld_kind w hk, ?_⟩
      have hp2 : (V.put (((ldF l f v).asArr.get k).getD V.null) r push y).2 = 0 := by
        split at hp
        · assumption
        · exact hp
      by_cases h5 : v.kind = 5
      · cases f with
        | zero =>
          obtain ⟨n, hn⟩ := w.2 h5
          cases hn
        | succ f =>
          have e : (ldF l (f + 1) v).asArr = ldF l (f + 1) v := V.asArr_other (by rw [ldF_handle h5]; show ¬ (4 : Int) = 0; decide)
          rw [e, get_ld h w h5] at hp2
          have e2 : inner0 l v k = innerH l v.num.toNat k := if_pos h5
          rw [← e2] at hp2
          exact pathOk_of h push y r f _ (w.inner h k) hp2
      · have e2 : inner0 l v k = V.zero := if_neg h5
        rw [e2]
        exact pathOk_null r push
/-- the path is no longer than the written tree is heavy -/
theorem weights_mem : ∀ {es : List (Ky × V)} {e : Ky × V}, e ∈ es → e.2.weight ≤ V.weights es
  | u :: r, e, h => by
    rw [V.weights_cons]
    cases h with
    | head => omega
    | tail _ h => have := weights_mem h; omega
theorem setKey_mem (o : V) (k : Ky) (x : V) : (k, x) ∈ (o.setKey k x).items := by
  unfold V.setKey
  cases hf : o.find k with
  | none => show (k, x) ∈ o.items ++ [(k, x)]; simp
  | some i =>
    obtain ⟨y, hy, _, _⟩ := V.find_get hf
    simp only [V.setAt, hy]
    show (k, x) ∈ o.items.take i ++ (k, x) :: o.items.drop (i + 1)
    simp
theorem put_heavy (push : Bool) (x : V) : ∀ (p : List Ky) (v : V), (v.put p push x).2 = 0 → p.length ≤ (v.put p push x).1.weight
  | [], _, _ => Nat.zero_le _
  | k :: r, v, h => by
    rw [V.put_cons] at h ⊢
    by_cases h4 : v.asArr.kind = 4
    case neg =>
      rw [if_pos h4] at h
      simp at h
    rw [if_neg (fun q => q h4)] at h ⊢
    by_cases h0 : (V.put ((v.asArr.get k).getD V.null) r push x).2 = 0
    case neg =>
      rw [if_neg h0] at h
      exact absurd h h0
    rw [if_pos h0]
    have ih := put_heavy push x r _ h0
    have hk : (v.asArr.setKey k (V.put ((v.asArr.get k).getD V.null) r push x).1).kind = 4 := by rw [(setKey_bulk _ _ _).2.2.2, h4]
    have := weights_mem (setKey_mem v.asArr k (V.put ((v.asArr.get k).getD V.null) r push x).1)
    simp only at this
    show r.length + 1 ≤ (v.asArr.setKey k (V.put ((v.asArr.get k).getD V.null) r push x).1).weight
    rw [V.weight_eq, if_pos hk]
    omega
end Go.Sx
namespace Go.Sx
open Go
/-! a value written into a shared heap -/
def shareSl : List Bk → List Sl → List Bk
  | l, [] => l
  | l, s :: r => shareSl (if s.live then shareH l s.val else l) r
theorem shareSl_append (p q : List Sl) : ∀ l, shareSl l (p ++ q) = shareSl (shareSl l p) q := by
  induction p with
  | nil => intro l; rfl
  | cons e r ih => intro l; rw [List.cons_append, shareSl, shareSl, ih]
theorem shareSl_snoc {l : List Bk} {ss : List Sl} {i : Nat} {s : Sl} (h : ss[i]? = some s) : shareSl l (ss.take (i + 1)) = if s.live then shareH (shareSl l (ss.take i)) s.val else shareSl l (ss.take i) := by
  rw [take_snoc h, shareSl_append]
  rfl
theorem shareSl_len : ∀ (ss : List Sl) (l : List Bk), (shareSl l ss).length = l.length
  | [], _ => rfl
  | s :: r, l => by
    rw [shareSl, shareSl_len r]
    split
    · exact shareH_len l s.val
    · rfl
/-- the block's own copy: its table shared out, one reference less -/
def splitH (l : List Bk) (i : Nat) : List Bk := (shareSl l (blk l i).tab.slots).set i ((blk (shareSl l (blk l i).tab.slots) i).withC ((blk (shareSl l (blk l i).tab.slots) i).count - 1))
def ownH (l : List Bk) (v : V) : List Bk × Nat :=
  if v.kind = 5 then (if (blk l v.num.toNat).count = 1 then (l, v.num.toNat) else (allocH (splitH l v.num.toNat) (blk l v.num.toNat).tab, freeN (splitH l v.num.toNat)))
  else (allocH l tb0, freeN l)
def setT (l : List Bk) (i : Nat) (k : Ky) (x : V) : List Bk := l.set i ((blk l i).withT ((blk l i).tab.put k x))
def wrH : List Ky → List Bk → V → Bool → V → List Bk × V
  | [], l, v, push, x => if push then (setT (ownH l v).1 (ownH l v).2 ⟨false, (blk (ownH l v).1 (ownH l v).2).tab.next, ⟨#[]⟩⟩ x, hnd (ownH l v).2) else (dropF (slotsN l + 1) l v, x)
  | k :: r, l, v, push, x => (setT (wrH r (ownH l v).1 (innerH (ownH l v).1 (ownH l v).2 k) push x).1 (ownH l v).2 k (wrH r (ownH l v).1 (innerH (ownH l v).1 (ownH l v).2 k) push x).2, hnd (ownH l v).2)
theorem wrH_drop (l : List Bk) (v x : V) : wrH [] l v false x = (dropF (slotsN l + 1) l v, x) := by rw [wrH]; rfl
theorem wrH_push (l : List Bk) (v x : V) : wrH [] l v true x = (setT (ownH l v).1 (ownH l v).2 ⟨false, (blk (ownH l v).1 (ownH l v).2).tab.next, ⟨#[]⟩⟩ x, hnd (ownH l v).2) := by rw [wrH]; rfl
theorem wrH_cons (k : Ky) (r : List Ky) (l : List Bk) (v : V) (push : Bool) (x : V) : wrH (k :: r) l v push x = (setT (wrH r (ownH l v).1 (innerH (ownH l v).1 (ownH l v).2 k) push x).1 (ownH l v).2 k (wrH r (ownH l v).1 (innerH (ownH l v).1 (ownH l v).2 k) push x).2, hnd (ownH l v).2) := by rw [wrH]
/-- what is right of a heap all through a write -/
structure sInv (c : Int) (L B : Nat) (l : List Bk) : Prop where
  inn : hIn l.length c l
  ch : allCh l
  few : ∀ (i : Nat) (b : Bk), l[i]? = some b → liveN b.tab.slots ≤ L
  small : ∀ (i : Nat) (b : Bk), l[i]? = some b → ∀ s ∈ b.tab.slots, s.val.bulk ≤ B
  hd : ∀ (i : Nat) (b : Bk), l[i]? = some b → b.tab.heads.length ≤ 1024
theorem tb0_slots : tb0.slots = [] := rfl
/-- one block is another one: what is asked of it -/
theorem sInv.set {c : Int} {L B : Nat} {l : List Bk} (h : sInv c L B l) (i : Nat) {u : Bk} (hc : 0 ≤ u.count ∧ u.count ≤ c) (hch : u.tab.ch) (hl : liveN u.tab.slots ≤ L) (hs : ∀ s ∈ u.tab.slots, s.val.bulk ≤ B) (hr : ∀ s ∈ u.tab.slots, s.live = true → refIn l.length s.val) (hh : u.tab.heads.length ≤ 1024) : sInv c L B (l.set i u) := by
  refine ⟨⟨rfl, fun j b hb k s hk hv h5 => ?_, fun j b hb => ?_⟩, fun j b hb => ?_, fun j b hb => ?_, fun j b hb => ?_, fun j b hb => ?_⟩
  · rw [List.length_set]
    rcases set_getB hb with ⟨rfl, rfl⟩ | hb
    · exact hr s (List.mem_of_getElem? hk) hv h5
    · exact h.inn.num j b hb k s hk hv h5
  · rcases set_getB hb with ⟨rfl, rfl⟩ | hb
    · exact hc
    · exact h.inn.cnt j b hb
  · rcases set_getB hb with ⟨rfl, rfl⟩ | hb
    · exact hch
    · exact h.ch j b hb
  · rcases set_getB hb with ⟨rfl, rfl⟩ | hb
    · exact hl
    · exact h.few j b hb
  · rcases set_getB hb with ⟨rfl, rfl⟩ | hb
    · exact hs
    · exact h.small j b hb
  · rcases set_getB hb with ⟨rfl, rfl⟩ | hb
    · exact hh
    · exact h.hd j b hb
theorem sInv.heads {c : Int} {L B : Nat} {l : List Bk} (h : sInv c L B l) (i : Nat) : (blk l i).tab.heads.length ≤ 1024 := by
  by_cases hi : i < l.length
  · exact h.hd i _ (blk_at hi)
  · rw [blk_out (by omega)]
    exact Nat.zero_le _
theorem sInv.bk {c : Int} {L B : Nat} {l : List Bk} (h : sInv c L B l) (i : Nat) : (blk l i).tab.ch ∧ liveN (blk l i).tab.slots ≤ L ∧ (∀ s ∈ (blk l i).tab.slots, s.val.bulk ≤ B) ∧ (∀ s ∈ (blk l i).tab.slots, s.live = true → refIn l.length s.val) := by
  by_cases hi : i < l.length
  · have hb := blk_at hi
    refine ⟨h.ch i _ hb, h.few i _ hb, h.small i _ hb, fun s hs hv h5 => ?_⟩
    obtain ⟨k, hk⟩ := List.getElem?_of_mem hs
    exact h.inn.num i _ hb k s hk hv h5
  · rw [blk_out (by omega)]
    refine ⟨tb0_ch, Nat.zero_le _, fun s hs => ?_, fun s hs => ?_⟩
    · cases hs
    · cases hs
theorem sInv.count {c : Int} {L B : Nat} {l : List Bk} (h : sInv c L B l) {i : Nat} (hi : i < l.length) : 0 ≤ (blk l i).count ∧ (blk l i).count ≤ c := h.inn.cnt i _ (blk_at hi)
theorem sInv.up {c c' : Int} {L L' B : Nat} {l : List Bk} (h : sInv c L B l) (hc : c ≤ c') (hL : L ≤ L') : sInv c' L' B l :=
  ⟨⟨rfl, h.inn.num, fun i b hb => (by have := h.inn.cnt i b hb; omega)⟩, h.ch, fun i b hb => (by have := h.few i b hb; omega), h.small, h.hd⟩
theorem sInv.share {c : Int} {L B : Nat} {l : List Bk} (h : sInv c L B l) (hc : 0 ≤ c) (v : V) : sInv (c + 1) L B (shareH l v) := by
  unfold shareH
  split
  · by_cases hi : v.num.toNat < l.length
    · obtain ⟨b1, b2, b3, b4⟩ := h.bk v.num.toNat
      have b5 := h.count hi
      exact (h.up (by omega) (Nat.le_refl _)).set _ ⟨by show 0 ≤ (blk l v.num.toNat).count + 1; omega, by show (blk l v.num.toNat).count + 1 ≤ c + 1; omega⟩ b1 b2 b3 b4 (h.heads v.num.toNat)
    · rw [List.set_eq_of_length_le (by omega)]
      exact h.up (by omega) (Nat.le_refl _)
  · exact h.up (by omega) (Nat.le_refl _)
theorem sInv.shareSl {L B : Nat} : ∀ (ss : List Sl) {c : Int} {l : List Bk}, sInv c L B l → 0 ≤ c → sInv (c + ss.length) L B (shareSl l ss)
  | [], c, l, h, _ => h.up (by simp) (Nat.le_refl _)
  | s :: r, c, l, h, hc => by
    rw [Go.Sx.shareSl, List.length_cons]
    split
    · exact (sInv.shareSl r (h.share hc s.val) (by omega)).up (by omega) (Nat.le_refl _)
    · exact (sInv.shareSl r h hc).up (by omega) (Nat.le_refl _)
/-- tables stay, counts do not fall -/
theorem share_blk (l : List Bk) (v : V) (i : Nat) : (blk (shareH l v) i).tab = (blk l i).tab ∧ (blk l i).count ≤ (blk (shareH l v) i).count := by
  unfold shareH
  split
  · by_cases he : v.num.toNat = i
    · by_cases hi : i < l.length
      · rw [he, blk_set_same hi]
        exact ⟨rfl, by show (blk l i).count ≤ (blk l i).count + 1; omega⟩
      · rw [List.set_eq_of_length_le (by omega)]
        exact ⟨rfl, Int.le_refl _⟩
    · rw [blk_set_ne he]
      exact ⟨rfl, Int.le_refl _⟩
  · exact ⟨rfl, Int.le_refl _⟩
theorem shareSl_blk : ∀ (ss : List Sl) (l : List Bk) (i : Nat), (blk (Go.Sx.shareSl l ss) i).tab = (blk l i).tab ∧ (blk l i).count ≤ (blk (Go.Sx.shareSl l ss) i).count
  | [], l, i => ⟨rfl, Int.le_refl _⟩
  | s :: r, l, i => by
    rw [Go.Sx.shareSl]
    obtain ⟨h1, h2⟩ := shareSl_blk r (if s.live then shareH l s.val else l) i
    split at h1
    · rename_i hl
      rw [if_pos hl] at h2
      rw [if_pos hl]
      obtain ⟨h3, h4⟩ := share_blk l s.val i
      exact ⟨h1.trans h3, by omega⟩
    · rename_i hl
      rw [if_neg hl] at h2
      rw [if_neg hl]
      exact ⟨h1, h2⟩
theorem sInv.alloc {c : Int} {L B : Nat} {l : List Bk} (h : sInv c L B l) (hc : 1 ≤ c) {t : Tb} (hch : t.ch) (hl : liveN t.slots ≤ L) (hs : ∀ s ∈ t.slots, s.val.bulk ≤ B) (hr : ∀ s ∈ t.slots, s.live = true → refIn l.length s.val) (hh : t.heads.length ≤ 1024) : sInv c L B (allocH l t) := by
  unfold allocH
  split
  · exact h.set _ ⟨by show (0 : Int) ≤ 1; decide, hc⟩ hch hl hs hr hh
  · have key : ∀ {j : Nat} {b : Bk}, (l ++ [⟨1, t⟩])[j]? = some b → l[j]? = some b ∨ b = ⟨1, t⟩ := fun hb => by
      rcases snoc_get hb with ⟨_, q⟩ | ⟨_, q⟩
      · exact .inl q
      · exact .inr q
    refine ⟨⟨rfl, fun j b hb k s hk hv h5 => ?_, fun j b hb => ?_⟩, fun j b hb => ?_, fun j b hb => ?_, fun j b hb => ?_, fun j b hb => ?_⟩
    · rw [List.length_append, List.length_singleton]
      rcases key hb with q | rfl
      · have := h.inn.num j b q k s hk hv h5
        omega
      · have := hr s (List.mem_of_getElem? hk) hv h5
        omega
    · rcases key hb with q | rfl
      · exact h.inn.cnt j b q
      · exact ⟨by show (0 : Int) ≤ 1; decide, hc⟩
    · rcases key hb with q | rfl
      · exact h.ch j b q
      · exact hch
    · rcases key hb with q | rfl
      · exact h.few j b q
      · exact hl
    · rcases key hb with q | rfl
      · exact h.small j b q
      · exact hs
    · rcases key hb with q | rfl
      · exact h.hd j b q
      · exact hh
theorem allocH_at (l : List Bk) (t : Tb) : blk (allocH l t) (freeN l) = ⟨1, t⟩ := by
  have := freeN_le l
  unfold allocH
  split
  · rename_i h
    exact blk_set_same h
  · have e : freeN l = l.length := by omega
    unfold blk
    rw [List.getD_eq_getElem?_getD, e, List.getElem?_append_right (Nat.le_refl _), Nat.sub_self]
    rfl
theorem allocH_other {l : List Bk} {t : Tb} {i : Nat} (hi : i < l.length) (hc : 0 < (blk l i).count) : blk (allocH l t) i = blk l i := by
  have hne : ¬ freeN l = i := fun e => by
    have := freeN_at (l := l) (b := blk l i) (by rw [e]; exact blk_at hi)
    omega
  unfold allocH
  split
  · exact blk_set_ne hne
  · unfold blk
    rw [List.getD_eq_getElem?_getD, List.getD_eq_getElem?_getD, List.getElem?_append_left hi]
/-- what the blocks that were there keep on the way down -/
structure down (l0 l : List Bk) : Prop where
  len : l0.length ≤ l.length
  same : ∀ i, i < l0.length → 0 < (blk l0 i).count → (blk l i).tab = (blk l0 i).tab ∧ 0 < (blk l i).count
theorem down.refl (l : List Bk) : down l l := ⟨Nat.le_refl _, fun _ _ h => ⟨rfl, h⟩⟩
theorem down.share {l0 l : List Bk} (h : down l0 l) (v : V) : down l0 (shareH l v) := ⟨by rw [shareH_len]; exact h.len, fun i hi hc => by
  obtain ⟨h1, h2⟩ := h.same i hi hc
  obtain ⟨h3, h4⟩ := share_blk l v i
  exact ⟨h3.trans h1, by omega⟩⟩
theorem down.alloc {l0 l : List Bk} (h : down l0 l) (t : Tb) : down l0 (allocH l t) := ⟨by have := (allocH_len l t).1; have := h.len; omega, fun i hi hc => by
  obtain ⟨h1, h2⟩ := h.same i hi hc
  have := h.len
  rw [allocH_other (by omega) h2]
  exact ⟨h1, h2⟩⟩
theorem splitH_len (l : List Bk) (i : Nat) : (splitH l i).length = l.length := by unfold splitH; rw [List.length_set, shareSl_len]
theorem down.split {l0 l : List Bk} (h : down l0 l) {i : Nat} (hi : i < l.length) (h2 : 2 ≤ (blk l i).count) : down l0 (splitH l i) := by
  refine ⟨by rw [splitH_len]; exact h.len, fun j hj hc => ?_⟩
  obtain ⟨h3, h4⟩ := h.same j hj hc
  obtain ⟨h5, h6⟩ := shareSl_blk (blk l i).tab.slots l j
  unfold splitH
  by_cases he : i = j
  · subst he
    rw [blk_set_same (by rw [shareSl_len]; exact hi)]
    refine ⟨h5.trans h3, ?_⟩
    show 0 < (blk (shareSl l (blk l i).tab.slots) i).count - 1
    omega
  · rw [blk_set_ne he]
    exact ⟨h5.trans h3, by omega⟩
/-- a value that is held in the first heap, or nothing -/
def was (l0 : List Bk) (v : V) : Prop := v.kind = 5 → 0 ≤ v.num ∧ v.num.toNat < l0.length ∧ 0 < (blk l0 v.num.toNat).count
theorem held_was {l : List Bk} {v : V} (h : isHeld l v = true) : was l v := fun k => held_num h k
theorem inner_was {l : List Bk} (h : inR l) {v : V} (w : was l v) (k : Ky) : was l (inner0 l v k) := by
  unfold inner0
  split
  · rename_i h5
    obtain ⟨q1, q2, q3⟩ := w h5
    cases hf : (blk l v.num.toNat).tab.find k with
    | some j =>
      obtain ⟨s, hs, hl⟩ := Tb.find_live hf
      rw [innerH_some hf hs]
      exact held_was (h _ _ (blk_at q2) j s hs hl)
    | none =>
      rw [innerH_none hf]
      intro q
      exact absurd q (by decide)
  · intro q
    exact absurd q (by decide)
theorem tb0_find (k : Ky) : tb0.find k = none := by
  unfold Tb.find
  rw [if_neg (by simp [tb0])]
  rw [if_neg]
  rintro ⟨_, _, _, q⟩
  simp [tb0] at q
def tab0 (l0 : List Bk) (v : V) : Tb := if v.kind = 5 then (blk l0 v.num.toNat).tab else tb0
theorem inner_tab {l0 l : List Bk} {v : V} {i : Nat} (h : (blk l i).tab = tab0 l0 v) (k : Ky) : innerH l i k = inner0 l0 v k := by
  unfold inner0 innerH
  rw [h]
  unfold tab0
  by_cases h5 : v.kind = 5
  · rw [if_pos h5, if_pos h5]
  · rw [if_neg h5, if_neg h5, tb0_find]
/-- a heap's own copy of a value: what stays, what the block is -/
theorem own_ok {c : Int} {L B : Nat} {l0 l : List Bk} (hd : down l0 l) (hi : sInv c L B l) (hc : 1 ≤ c) {v : V} (w : was l0 v) :
    down l0 (ownH l v).1 ∧ sInv (c + 1024) L B (ownH l v).1 ∧ (ownH l v).2 < (ownH l v).1.length ∧ (ownH l v).1.length ≤ l.length + 1 ∧ l.length ≤ (ownH l v).1.length ∧ (blk (ownH l v).1 (ownH l v).2).tab = tab0 l0 v := by
  unfold ownH
  by_cases h5 : v.kind = 5
  · rw [if_pos h5]
    obtain ⟨q1, q2, q3⟩ := w h5
    obtain ⟨s1, s2⟩ := hd.same _ q2 q3
    have hlen := hd.len
    have hin : (blk l v.num.toNat).tab = tab0 l0 v := by unfold tab0; rw [if_pos h5, s1]
    split
    · exact ⟨hd, hi.up (by omega) (Nat.le_refl _), by show v.num.toNat < l.length; omega, by show l.length ≤ l.length + 1; omega, Nat.le_refl _, hin⟩
    · rename_i h1
      have hlt : v.num.toNat < l.length := by omega
      obtain ⟨b1, b2, b3, b4⟩ := hi.bk v.num.toNat
      have hls := b1.len
      have i1 := sInv.shareSl (blk l v.num.toNat).tab.slots hi (by omega)
      obtain ⟨t1, t2⟩ := shareSl_blk (blk l v.num.toNat).tab.slots l v.num.toNat
      obtain ⟨c1, c2, c3, c4⟩ := i1.bk v.num.toNat
      have cc := i1.count (i := v.num.toNat) (by rw [shareSl_len]; exact hlt)
      have i2 : sInv (c + (blk l v.num.toNat).tab.slots.length) L B (splitH l v.num.toNat) := i1.set _ ⟨by show 0 ≤ (blk (shareSl l (blk l v.num.toNat).tab.slots) v.num.toNat).count - 1; omega, by show (blk (shareSl l (blk l v.num.toNat).tab.slots) v.num.toNat).count - 1 ≤ _; omega⟩ c1 c2 c3 c4 (i1.heads v.num.toNat)
      have d2 := hd.split hlt (by omega)
      have al := allocH_len (splitH l v.num.toNat) (blk l v.num.toNat).tab
      have sl := splitH_len l v.num.toNat
      refine ⟨d2.alloc _, (i2.alloc (by omega) b1 b2 b3 (fun s hs hv => by rw [sl]; exact b4 s hs hv) (hi.heads v.num.toNat)).up (by omega) (Nat.le_refl _), al.2.2, by show (allocH _ _).length ≤ _; omega, by show _ ≤ (allocH _ _).length; omega, ?_⟩
      show (blk (allocH (splitH l v.num.toNat) (blk l v.num.toNat).tab) (freeN (splitH l v.num.toNat))).tab = _
      rw [allocH_at]
      exact hin
  · rw [if_neg h5]
    have al := allocH_len l tb0
    refine ⟨hd.alloc _, (hi.alloc hc tb0_ch (Nat.zero_le _) (fun s hs => by cases hs) (fun s hs => by cases hs) (Nat.zero_le _)).up (by omega) (Nat.le_refl _), al.2.2, al.2.1, al.1, ?_⟩
    show (blk (allocH l tb0) (freeN l)).tab = _
    rw [allocH_at]
    unfold tab0
    rw [if_neg h5]
/-- what holds of the values of a table holds of those of the table with one more -/
theorem put_vals {Q : Bool → V → Prop} {t : Tb} {k : Ky} {x : V} (ht : ∀ s ∈ t.slots, Q s.live s.val) (hx : Q true x) : ∀ s ∈ (t.put k x).slots, Q s.live s.val := by
  have pushed : ∀ (o : Tb) (q : Ky) (y : V), (∀ s ∈ o.slots, Q s.live s.val) → Q true y → ∀ s ∈ (o.push q y).slots, Q s.live s.val := fun o q y ho hy s hs => by
    have hs : s ∈ o.slots ++ [⟨q, y, true, o.link q⟩] := hs
    rcases List.mem_append.1 hs with hs | hs
    · exact ho s hs
    · simp only [List.mem_singleton] at hs
      subst hs
      exact hy
  have all : ∀ (ss : List Sl) (o : Tb), (∀ s ∈ o.slots, Q s.live s.val) → (∀ s ∈ ss, Q s.live s.val) → ∀ s ∈ (o.pushAll ss).slots, Q s.live s.val := by
    intro ss
    induction ss with
    | nil => intro o ho _; exact ho
    | cons u r ih =>
      intro o ho hs
      rw [Tb.pushAll]
      refine ih _ ?_ fun s h => hs s (by simp [h])
      split
      · rename_i hu
        exact pushed o u.key u.val ho (by have := hs u (by simp); rwa [hu] at this)
      · exact ho
  have built : ∀ o : Tb, (∀ s ∈ o.slots, Q s.live s.val) → ∀ s ∈ o.build.slots, Q s.live s.val := fun o ho => all o.slots o.fresh (fun s hs => by cases hs) ho
  unfold Tb.put
  split
  · rename_i j hf
    obtain ⟨u, hu, hl⟩ := Tb.find_live hf
    rw [Tb.setVal_eq hu]
    intro s hs
    have hs : s ∈ t.slots.take j ++ ⟨u.key, x, u.live, u.link⟩ :: t.slots.drop (j + 1) := hs
    rcases List.mem_append.1 hs with hs | hs
    · exact ht s (List.mem_of_mem_take hs)
    · rcases List.mem_cons.1 hs with rfl | hs
      · show Q u.live x
        rw [hl]
        exact hx
      · exact ht s (List.mem_of_mem_drop hs)
  · have h1 : ∀ s ∈ (t.hashIf k).slots, Q s.live s.val := by
      unfold Tb.hashIf
      split
      · exact built t ht
      · exact ht
    have h2 : ∀ s ∈ ((t.hashIf k).growIf).slots, Q s.live s.val := by
      unfold Tb.growIf
      split
      · exact built _ h1
      · exact h1
    exact pushed _ k x h2 hx
theorem push_heads' (o : Tb) (k : Ky) (x : V) : (o.push k x).heads.length = o.heads.length := (o.push_slots k x).2
theorem put_heads {t : Tb} (c : t.ch) (h : t.heads.length ≤ 1024) (k : Ky) (x : V) (hl : t.find k = none → liveN t.slots < 1024) : (t.put k x).heads.length ≤ 1024 := by
  have built : ∀ {o : Tb}, o.ch → liveN o.slots < 1024 → o.build.heads.length ≤ 1024 := fun co lo => by
    rw [(co.build lo).size]
    exact (roomN_spec lo).2.1
  unfold Tb.put
  split
  · unfold Tb.setVal
    split
    · exact h
    · exact h
  · rename_i hf
    have l1 := hl hf
    obtain ⟨c1, l2, _⟩ := c.hashIf l1 k
    have h1 : (t.hashIf k).heads.length ≤ 1024 := by
      unfold Tb.hashIf
      split
      · exact built c l1
      · exact h
    have h2 : ((t.hashIf k).growIf).heads.length ≤ 1024 := by
      unfold Tb.growIf
      split
      · exact built c1 l2
      · exact h1
    show (((t.hashIf k).growIf).push k x).heads.length ≤ 1024
    rw [push_heads']
    exact h2
theorem setT_ok {c : Int} {L B : Nat} {l : List Bk} (h : sInv c L B l) {i : Nat} (hi : i < l.length) {k : Ky} (hk : keyOk k = true) {x : V} (hx : x.bulk ≤ B) (hr : refIn l.length x) (hL : L < 1024) : sInv c (L + 1) B (setT l i k x) := by
  obtain ⟨b1, b2, b3, b4⟩ := h.bk i
  have b5 := h.count hi
  have hl : (blk l i).tab.find k = none → liveN (blk l i).tab.slots < 1024 := fun _ => by omega
  have pl := put_live b1 k x hl
  refine (h.up (Int.le_refl _) (Nat.le_succ _)).set i b5 (b1.put x hk hl) (by show liveN ((blk l i).tab.put k x).slots ≤ L + 1; omega) ?_ ?_ (put_heads b1 (h.heads i) k x hl)
  · exact put_vals (Q := fun _ w => w.bulk ≤ B) b3 hx
  · intro s hs hv
    exact put_vals (Q := fun b w => b = true → refIn l.length w) b4 (fun _ => hr) s hs hv
theorem setT_len (l : List Bk) (i : Nat) (k : Ky) (x : V) : (setT l i k x).length = l.length := by unfold setT; rw [List.length_set]
/-- dropping: the tables stay, or are gone -/
theorem drop_tab : ∀ (f : Nat) (l : List Bk) (v : V) (i : Nat), (blk (dropF f l v) i).tab = (blk l i).tab ∨ (blk (dropF f l v) i).tab = tb0
  | 0, l, v, i => .inl rfl
  | f + 1, l, v, i => by
    rw [dropF]
    split
    · split
      · by_cases he : v.num.toNat = i
        · by_cases hi : i < l.length
          · rw [he, blk_set_same hi]
            exact .inl rfl
          · rw [List.set_eq_of_length_le (by omega)]
            exact .inl rfl
        · rw [blk_set_ne he]
          exact .inl rfl
      · have key : ∀ (ss : List Sl) (l' : List Bk), (blk (dropS (dropF f) l' ss) i).tab = (blk l' i).tab ∨ (blk (dropS (dropF f) l' ss) i).tab = tb0 := by
          intro ss
          induction ss with
          | nil => intro l'; exact .inl rfl
          | cons s r ih =>
            intro l'
            rw [dropS]
            rcases ih (if s.live then dropF f l' s.val else l') with h | h
            · rw [h]
              split
              · exact drop_tab f l' s.val i
              · exact .inl rfl
            · exact .inr h
        rcases key (blk l v.num.toNat).tab.slots (l.set v.num.toNat bk0) with h | h
        · rw [h]
          by_cases he : v.num.toNat = i
          · by_cases hi : i < l.length
            · rw [he, blk_set_same hi]
              exact .inr rfl
            · rw [List.set_eq_of_length_le (by omega)]
              exact .inl rfl
          · rw [blk_set_ne he]
            exact .inl rfl
        · exact .inr h
    · exact .inl rfl
theorem drop_ok {c : Int} {L B : Nat} {l : List Bk} (h : sInv c L B l) {v : V} (hr : refIn l.length v) (f : Nat) : sInv c L B (dropF f l v) ∧ (dropF f l v).length = l.length := by
  obtain ⟨i1, _⟩ := drop_in f l v h.inn hr
  have hlen := i1.len
  have key : ∀ (j : Nat) (b : Bk), (dropF f l v)[j]? = some b → b.tab = (blk l j).tab ∨ b.tab = tb0 := fun j b hb => by
    have := drop_tab f l v j
    rwa [blk_get hb] at this
  refine ⟨⟨by rw [hlen]; exact i1, fun j b hb => ?_, fun j b hb => ?_, fun j b hb => ?_, fun j b hb => ?_⟩, hlen⟩
  · rcases key j b hb with q | q
    · rw [q]; exact (h.bk j).1
    · rw [q]; exact tb0_ch
  · rcases key j b hb with q | q
    · rw [q]; exact (h.bk j).2.1
    · rw [q]; exact Nat.zero_le _
  · rcases key j b hb with q | q
    · rw [q]; exact (h.bk j).2.2.1
    · rw [q]; intro s hs; cases hs
  · rcases key j b hb with q | q
    · rw [q]; exact h.heads j
    · rw [q]; exact Nat.zero_le _
theorem refIn.up {n m : Nat} {v : V} (h : refIn n v) (k : n ≤ m) : refIn m v := fun q => by
  have := h q
  omega
theorem hnd_ref {i n : Nat} (h : i < n) : refIn n (hnd i) := fun _ => by
  show (0 : Int) ≤ (i : Nat) ∧ ((i : Nat) : Int).toNat < n
  omega
theorem push_key {n : Int} (h0 : 0 ≤ n) (h1 : n ≤ 1000000000) : keyOk ⟨false, n, ⟨#[]⟩⟩ = true := by
  unfold keyOk
  simp
  omega
/-- a write: what is right of the heap that comes of it -/
theorem wr_ok {B : Nat} {l0 : List Bk} (hR : inR l0) (hC : allCh l0) (push : Bool) {x : V} (hx : x.bulk ≤ B) : ∀ (p : List Ky) {c : Int} {L : Nat} {l : List Bk} {v : V}, (∀ k ∈ p, keyOk k = true) → down l0 l → sInv c L B l → 1 ≤ c → L + p.length + 1 ≤ 1024 → was l0 v → pathOk l0 p v push → refIn l.length x →
    sInv (c + 1024 * ((p.length : Int) + 1)) (L + p.length + 1) B (wrH p l v push x).1 ∧ (wrH p l v push x).1.length ≤ l.length + p.length + 1 ∧ l.length ≤ (wrH p l v push x).1.length ∧ refIn (wrH p l v push x).1.length (wrH p l v push x).2 ∧ (wrH p l v push x).2.bulk ≤ B
  | [], c, L, l, v, hk, hd, hi, hc, hL, w, po, hr => by
    cases push with
    | false =>
      rw [wrH_drop]
      have hrv : refIn l.length v := fun q => by
        have := w q
        have := hd.len
        omega
      obtain ⟨i1, i2⟩ := drop_ok hi hrv (slotsN l + 1)
      refine ⟨i1.up (by simp; omega) (by omega), by simp only [i2]; omega, by simp only [i2]; exact Nat.le_refl _, by simp only [i2]; exact hr, hx⟩
    | true =>
      rw [wrH_push]
      obtain ⟨d1, i1, o1, o2, o3, o4⟩ := own_ok hd hi hc w
      have hn : 0 ≤ (tab0 l0 v).next ∧ (tab0 l0 v).next ≤ 1000000000 := by
        unfold tab0
        rcases po rfl with h0 | ⟨h5, hn⟩
        · rw [if_neg (by omega)]
          exact ⟨Int.le_refl _, by decide⟩
        · rw [if_pos h5]
          have := ((hC.blk v.num.toNat).next).1
          exact ⟨this, hn⟩
      have hkk : keyOk ⟨false, (blk (ownH l v).1 (ownH l v).2).tab.next, ⟨#[]⟩⟩ = true := by rw [o4]; exact push_key hn.1 hn.2
      have s1 := setT_ok i1 o1 hkk hx (hr.up o3) (by simp at hL; omega)
      refine ⟨s1.up (by simp) (by simp), ?_, ?_, ?_, Nat.zero_le _⟩
      · simp only [setT_len]; simp; omega
      · simp only [setT_len]; exact o3
      · simp only [setT_len]; exact hnd_ref o1
  | k :: r, c, L, l, v, hk, hd, hi, hc, hL, w, po, hr => by
    rw [wrH_cons]
    obtain ⟨d1, i1, o1, o2, o3, o4⟩ := own_ok hd hi hc w
    have e := inner_tab o4 k
    rw [e]
    simp only [List.length_cons] at hL ⊢
    obtain ⟨w1, w2, w3, w4, w5⟩ := wr_ok hR hC push hx r (fun q hq => hk q (by simp [hq])) d1 i1 (by omega) (by omega) (inner_was hR w k) po.2 (hr.up o3)
    have s1 := setT_ok w1 (i := (ownH l v).2) (by omega) (hk k (by simp)) w5 w4 (by omega)
    refine ⟨s1.up (by omega) (by omega), ?_, ?_, ?_, Nat.zero_le _⟩
    · simp only [setT_len]; omega
    · simp only [setT_len]; omega
    · simp only [setT_len]; exact hnd_ref (by omega)
end Go.Sx
namespace Go.Sx
open Go
theorem sumW_live {g : Nat → Option Nat} (hg : ∀ i n, g i = some n → 1 ≤ n) : ∀ (ss : List Sl) (m : Nat), sumW g ss = some m → liveN ss ≤ m
  | [], m, _ => Nat.zero_le _
  | s :: r, m, h => by
    rw [sumW] at h
    rw [show s :: r = [s] ++ r from rfl, liveN_append, liveN_one]
    cases hl : s.live with
    | false =>
      rw [hl] at h
      simp only [Bool.false_eq_true, if_false] at h ⊢
      have := sumW_live hg r m h
      omega
    | true =>
      rw [hl] at h
      simp only [if_true] at h ⊢
      cases h1 : (if s.val.kind = 5 then g s.val.num.toNat else some 1) with
      | none => rw [h1] at h; cases h
      | some a =>
        cases h2 : sumW g r with
        | none => rw [h1, h2] at h; cases h
        | some b =>
          rw [h1, h2] at h
          have e : a + b = m := Option.some.inj h
          have i1 := sumW_live hg r b h2
          have ha : 1 ≤ a := by
            split at h1
            · exact hg _ _ h1
            · have := Option.some.inj h1
              omega
          omega
theorem wtF_pos {l : List Bk} : ∀ (f i n : Nat), wtF l f i = some n → 1 ≤ n
  | 0, _, _, h => by cases h
  | f + 1, i, n, h => by
    rw [wtF] at h
    simp only [Option.map_eq_some_iff] at h
    obtain ⟨m, _, rfl⟩ := h
    omega
theorem hOk.sInv {l : List Bk} (h : hOk l) (hb : szG Bk.bulk l ≤ 1048576) : sInv 1000000000000 199 1048576 l := by
  refine ⟨h.hIn, h.ch, fun i b hbk => ?_, fun i b hbk s hs => ?_, fun i b hbk => ?_⟩
  · by_cases hc : 0 < b.count
    · obtain ⟨n, hn, hw⟩ := h.light i b hbk hc
      obtain ⟨m, ⟨f, hm⟩, rfl⟩ := Wt.iff.1 hw
      rw [blk_get hbk] at hm
      have := sumW_live (wtF_pos f) _ _ hm
      omega
    · have := h.blk i b hbk
      by_cases h0 : b.count = 0
      · rw [bkOk_free h0] at this
        rw [free_slots this]
        exact Nat.zero_le _
      · have := ((bkOk_live h0).1 this).1
        omega
  · have h1 := slots_bulk hbk
    have h2 := ((tab_slots b.tab).2 s hs).1
    omega
  · have := h.blk i b hbk
    by_cases h0 : b.count = 0
    · rw [bkOk_free h0] at this
      rw [free_tab this]
      exact Nat.zero_le _
    · have w := b.tab.isTab_iff.1 ((bkOk_live h0).1 this).2.1
      cases ht : b.tab.hashed with
      | true => exact (w.hash ht).1.2
      | false => have := (w.packed ht).1; omega
theorem szG_le {α : Type} {w : α → Nat} {M : Nat} : ∀ {l : List α}, (∀ a ∈ l, w a ≤ M) → szG w l ≤ l.length * (1 + M)
  | [], _ => by simp [szG, gsum]
  | a :: r, h => by
    have h1 := h a (by simp)
    have h2 := szG_le (w := w) (M := M) (l := r) fun b hb => h b (by simp [hb])
    rw [szG_cons, List.length_cons, Nat.add_mul]
    omega
theorem tab_small {B : Nat} {t : Tb} (c : t.ch) (hs : ∀ s ∈ t.slots, s.val.bulk ≤ B) (hh : t.heads.length ≤ 1024) : t.bulk ≤ 1024 + 1024 * (401 + B) := by
  have h1 : szG Sl.bulk t.slots ≤ t.slots.length * (1 + (400 + B)) := szG_le fun s h => by
    have h2 := hs s h
    obtain ⟨k, hk⟩ := List.getElem?_of_mem h
    have h3 : s.key.str.size ≤ 400 := by
      have := (c.keys k s hk).1
      unfold keyOk at this
      cases ht : s.key.text with
      | true => rw [ht] at this; simp at this; omega
      | false => rw [ht] at this; simp at this; rw [this.1]; exact Nat.zero_le _
    have e : Sl.bulk s = s.key.str.size + s.val.bulk := rfl
    omega
  have h2 := c.len
  have h3 : t.slots.length * (1 + (400 + B)) ≤ 1024 * (1 + (400 + B)) := Nat.mul_le_mul_right _ h2
  unfold Tb.bulk
  omega
theorem sInv.tabs {c : Int} {L B : Nat} {l : List Bk} (h : sInv c L B l) (i : Nat) : (blk l i).tab.bulk ≤ 1024 + 1024 * (401 + B) := by
  obtain ⟨b1, _, b3, _⟩ := h.bk i
  exact tab_small b1 b3 (h.heads i)
theorem sInv.bulk {c : Int} {L B : Nat} {l : List Bk} (h : sInv c L B l) : szG Bk.bulk l ≤ l.length * (1 + (1024 + 1024 * (401 + B))) := szG_le fun b hb => by
  obtain ⟨i, hi⟩ := List.getElem?_of_mem hb
  have := h.tabs i
  rwa [blk_get hi] at this
/-! what SetShared does -/
def putCode (v : V) (p : List Ky) (push : Bool) (x : V) : Int := if (v.put p push x).2 = 0 then (if (v.put p push x).1.weight ≤ 200 then 0 else 9) else (v.put p push x).2
def shC (l : List Bk) (v : V) (p : List Ky) (push : Bool) (x : V) : Int := putCode (ldF l 200 v) p push (ldF l 200 x)
def root (rs : List V) (i : Int) : V := rs.getD i.toNat V.zero
def inRg (rs : List V) (i : Int) : Bool := decide (0 ≤ i ∧ i ≤ (rs.length : Int) - 1)
def setShOk (l : List Bk) (rs : List V) (i : Int) (p : List Ky) (j : Int) : Bool := inRg rs i && (inRg rs j && (countedB l rs && p.all keyOk))
def setSh (l : List Bk) (rs : List V) (i : Int) (p : List Ky) (push : Bool) (j : Int) : List Bk × V × Int :=
  if setShOk l rs i p j then (if shC l (root rs i) p push (root rs j) = 0 then ((wrH p (shareH l (root rs j)) (root rs i) push (root rs j)).1, (wrH p (shareH l (root rs j)) (root rs i) push (root rs j)).2, 0) else (l, root rs i, shC l (root rs i) p push (root rs j))) else (l, V.zero, 5)
theorem root_get {rs : List V} {i : Int} (h : inRg rs i = true) : rs[i.toNat]? = some (root rs i) ∧ 0 ≤ i ∧ i.toNat < rs.length := by
  unfold inRg at h
  have h := of_decide_eq_true h
  refine ⟨?_, h.1, by omega⟩
  unfold root
  rw [List.getD_eq_getElem?_getD, List.getElem?_eq_getElem (by omega)]
  rfl
theorem countedB_iff {l : List Bk} {rs : List V} : countedB l rs = true ↔ hOk l ∧ (∀ v ∈ rs, isHeld l v = true) ∧ sameC l (counts l rs) = true := by
  unfold countedB allHeld
  simp only [Bool.and_eq_true, heapB_iff, List.all_eq_true]
/-- what a write that is let through leans on -/
structure setGo (l : List Bk) (rs : List V) (i : Int) (p : List Ky) (push : Bool) (j : Int) : Prop where
  ok : hOk l
  hv : isHeld l (root rs i) = true
  hx : isHeld l (root rs j) = true
  keys : ∀ k ∈ p, keyOk k = true
  path : pathOk l p (root rs i) push
  len : p.length ≤ 200
theorem setGo.of {l : List Bk} {rs : List V} {i j : Int} {p : List Ky} {push : Bool} (h : setShOk l rs i p j = true) (h0 : shC l (root rs i) p push (root rs j) = 0) : setGo l rs i p push j := by
  unfold setShOk at h
  simp only [Bool.and_eq_true, List.all_eq_true] at h
  obtain ⟨h1, h2, h3, h4⟩ := h
  obtain ⟨hk, hh, _⟩ := countedB_iff.1 h3
  have hv := hh _ (List.mem_of_getElem? (root_get h1).1)
  have hx := hh _ (List.mem_of_getElem? (root_get h2).1)
  unfold shC putCode at h0
  have hp : ((ldF l 200 (root rs i)).put p push (ldF l 200 (root rs j))).2 = 0 := by
    split at h0
    · assumption
    · exact h0
  rw [if_pos hp] at h0
  have hw : ((ldF l 200 (root rs i)).put p push (ldF l 200 (root rs j))).1.weight ≤ 200 := by
    split at h0
    · assumption
    · cases h0
  have := put_heavy push (ldF l 200 (root rs j)) p _ hp
  exact ⟨hk, hv, hx, h4, pathOk_of hk push _ p 200 _ (hk.weighed hv) hp, by omega⟩
theorem setGo.start {l : List Bk} {rs : List V} {i j : Int} {p : List Ky} {push : Bool} (g : setGo l rs i p push j) (hb : szG Bk.bulk l ≤ 1048576) :
    down l (shareH l (root rs j)) ∧ sInv 1000000000001 199 1048576 (shareH l (root rs j)) ∧ was l (root rs i) ∧ refIn (shareH l (root rs j)).length (root rs j) ∧ (root rs j).bulk ≤ 1048576 := by
  refine ⟨(down.refl l).share _, (g.ok.sInv hb).share (by decide) _, held_was g.hv, ?_, ?_⟩
  · rw [shareH_len]
    exact held_ref g.hx
  · have := held_items g.hx
    have e := V.bulk_eq (root rs j)
    rw [this.1] at e
    have z : V.bulks [] = 0 := rfl
    omega
theorem setGo.fin {l : List Bk} {rs : List V} {i j : Int} {p : List Ky} {push : Bool} (g : setGo l rs i p push j) (hb : szG Bk.bulk l ≤ 1048576) :
    szG Bk.bulk (wrH p (shareH l (root rs j)) (root rs i) push (root rs j)).1 ≤ 1126999418470400 * 1 + 1126999418470400 ∧ (wrH p (shareH l (root rs j)) (root rs i) push (root rs j)).2.bulk ≤ 1048576 := by
  obtain ⟨d, s, w, r, b⟩ := g.start hb
  obtain ⟨w1, w2, w3, w4, w5⟩ := wr_ok g.ok.inR g.ok.ch push b p g.keys d s (by decide) (by have := g.len; omega) w g.path r
  refine ⟨?_, w5⟩
  have h1 := w1.bulk
  have h2 := szG_len (w := Bk.bulk) l
  rw [shareH_len] at w2
  have h3 := g.len
  have h4 : (wrH p (shareH l (root rs j)) (root rs i) push (root rs j)).1.length ≤ 1048777 := by omega
  have h5 : (wrH p (shareH l (root rs j)) (root rs i) push (root rs j)).1.length * (1 + (1024 + 1024 * (401 + 1048576))) ≤ 1048777 * (1 + (1024 + 1024 * (401 + 1048576))) := Nat.mul_le_mul_right _ h4
  omega
theorem setSh_bulk (l : List Bk) (rs : List V) (i : Int) (p : List Ky) (push : Bool) (j : Int) (hb : szG Bk.bulk l ≤ 1048576) (hr : szG V.bulk rs ≤ 1048576) : szG Bk.bulk (setSh l rs i p push j).1 ≤ 2253998836940800 ∧ (setSh l rs i p push j).2.1.bulk ≤ 1048576 := by
  unfold setSh
  split
  · rename_i h
    split
    · rename_i h0
      have := (setGo.of h h0).fin hb
      exact ⟨by simp only; omega, this.2⟩
    · refine ⟨by simp only; omega, ?_⟩
      unfold setShOk at h
      simp only [Bool.and_eq_true] at h
      have := szG_mem (w := V.bulk) (List.mem_of_getElem? (root_get h.1).1)
      simp only
      omega
  · exact ⟨by simp only; omega, Nat.zero_le _⟩
end Go.Sx
