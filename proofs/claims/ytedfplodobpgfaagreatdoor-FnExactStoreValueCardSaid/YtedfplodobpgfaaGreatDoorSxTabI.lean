/-
  A part of the abstract machine over the model's Code, or of the proof that what it shows holds of the model; no program is in sight, and nothing is assumed.
-/
import Derived.Test.YtedfplodobpgfaaGreatDoorSxStill
import Derived.Test.YtedfplodobpgfaaGreatDoorSxMaps
import Derived.Test.YtedfplodobpgfaaGreatDoorSxMathV
/-! What the walks through a table's checks keep. -/
namespace Go.Sx
open Go
theorem noTab {t : Tb} (h : t.wf → False) : t.isTab = false := by
  cases hb : t.isTab with
  | false => rfl
  | true => exact (h (t.isTab_iff.1 hb)).elim
theorem yesTab {t : Tb} (w : t.wf) : t.isTab = true := t.isTab_iff.2 w
def liveK (ss : List Sl) : List Ky := (ss.filter (·.live)).map (·.key)
theorem liveK_len (ss : List Sl) : (liveK ss).length = liveN ss := List.length_map ..
theorem liveK_snoc {ss : List Sl} {i : Nat} {s : Sl} (h : ss[i]? = some s) : liveK (ss.take (i + 1)) = if s.live then liveK (ss.take i) ++ [s.key] else liveK (ss.take i) := by
  unfold liveK
  rw [take_snoc h, List.filter_append, List.map_append]
  cases hl : s.live <;> simp [hl]
theorem mem_liveK {ss : List Sl} {i : Nat} {q : Ky} : q ∈ liveK (ss.take i) ↔ ∃ (j : Nat) (u : Sl), j < i ∧ ss[j]? = some u ∧ u.live = true ∧ u.key = q := by
  unfold liveK
  simp only [List.mem_map, List.mem_filter]
  constructor
  · rintro ⟨u, ⟨hm, hl⟩, rfl⟩
    obtain ⟨j, hj, rfl⟩ := List.mem_iff_getElem.1 hm
    rw [List.length_take] at hj
    refine ⟨j, _, by omega, ?_, hl, rfl⟩
    rw [List.getElem_take]
    exact List.getElem?_eq_getElem (by omega)
  · rintro ⟨j, u, hj, hu, hl, rfl⟩
    refine ⟨u, ⟨?_, hl⟩, rfl⟩
    exact List.mem_of_getElem? (i := j) (by rw [List.getElem?_take, if_pos hj]; exact hu)
def kOk (t : Tb) (s : Sl) : Prop := keyOk s.key = true ∧ (s.key.text = true ∨ s.key.num < t.next) ∧ (s.live = true ∨ s.val.isZero = true)
/-- what is known of the first slots -/
structure preK (t : Tb) (i : Nat) : Prop where
  keys : ∀ (j : Nat) (s : Sl), j < i → t.slots[j]? = some s → kOk t s
  dist : ∀ (j q : Nat) (s u : Sl), j < i → q < j → t.slots[j]? = some s → t.slots[q]? = some u → s.live = true → u.live = true → ¬ u.key = s.key
theorem preK.zero (t : Tb) : preK t 0 := ⟨fun _ _ h => by omega, fun _ _ _ _ h => by omega⟩
theorem preK.step {t : Tb} {i : Nat} {s : Sl} (p : preK t i) (hs : t.slots[i]? = some s) (hk : kOk t s) (hd : s.live = true → s.key ∉ liveK (t.slots.take i)) : preK t (i + 1) := by
  refine ⟨fun j u hj hu => ?_, fun j q u v hj hq hu hv lu lv => ?_⟩
  · by_cases he : j = i
    · subst he
      rw [hs] at hu
      cases hu
      exact hk
    · exact p.keys j u (by omega) hu
  · by_cases he : j = i
    · subst he
      rw [hs] at hu
      cases hu
      exact fun e => hd lu (mem_liveK.2 ⟨q, v, hq, hv, lv, e⟩)
    · exact p.dist j q u v (by omega) hq hu hv lu lv
/-- what is known of the first slots of a packed table -/
def preP (t : Tb) (i : Nat) : Prop := ∀ (j : Nat) (s : Sl), j < i → t.slots[j]? = some s → s.key = ⟨false, (j : Nat), ⟨#[]⟩⟩ ∧ s.link = -1
theorem preP.zero (t : Tb) : preP t 0 := fun _ _ h => by omega
theorem preP.step {t : Tb} {i : Nat} {s : Sl} (p : preP t i) (hs : t.slots[i]? = some s) (h : s.key = ⟨false, (i : Nat), ⟨#[]⟩⟩ ∧ s.link = -1) : preP t (i + 1) := fun j u hj hu => by
  by_cases he : j = i
  · subst he
    rw [hs] at hu
    cases hu
    exact h
  · exact p j u (by omega) hu
/-- .. of a hashed one -/
def preH (t : Tb) (i : Nat) : Prop := ∀ (j : Nat) (s : Sl), j < i → t.slots[j]? = some s → (hdsN t.heads.length t.slots j)[s.key.hash % t.heads.length]? = some s.link
theorem preH.zero (t : Tb) : preH t 0 := fun _ _ h => by omega
theorem preH.step {t : Tb} {i : Nat} {s : Sl} (p : preH t i) (hs : t.slots[i]? = some s) (h : (hdsN t.heads.length t.slots i)[s.key.hash % t.heads.length]? = some s.link) : preH t (i + 1) := fun j u hj hu => by
  by_cases he : j = i
  · subst he
    rw [hs] at hu
    cases hu
    exact h
  · exact p j u (by omega) hu
theorem lt_of_get {α : Type} {l : List α} {i : Nat} {a : α} (h : l[i]? = some a) : i < l.length := (List.getElem?_eq_some_iff.1 h).1
theorem wf_packed {t : Tb} (ht : t.hashed = false) (h1 : 0 ≤ t.next ∧ t.next ≤ 1000000001) (p : preK t t.slots.length) (hc : t.count = liveN t.slots) (h2 : t.heads.length = 0) (h3 : (t.slots.length : Int) ≤ t.next) (h4 : t.slots.length ≤ 1024) (q : preP t t.slots.length) : t.wf :=
  ⟨h1, fun i s hs => p.keys i s (lt_of_get hs) hs, fun i j s u hj hs hu => p.dist i j s u (lt_of_get hs) hj hs hu, hc, fun _ => ⟨h2, h3, h4, fun i s hs => q i s (lt_of_get hs) hs⟩, fun h => by rw [ht] at h; cases h⟩
theorem wf_hashed {t : Tb} (ht : t.hashed = true) (h1 : 0 ≤ t.next ∧ t.next ≤ 1000000001) (p : preK t t.slots.length) (hc : t.count = liveN t.slots) (h2 : 8 ≤ t.heads.length ∧ t.heads.length ≤ 1024) (h3 : p2 t.heads.length = true) (h4 : t.slots.length ≤ t.heads.length) (q : preH t t.slots.length) (h5 : t.heads = hdsN t.heads.length t.slots t.slots.length) : t.wf :=
  ⟨h1, fun i s hs => p.keys i s (lt_of_get hs) hs, fun i j s u hj hs hu => p.dist i j s u (lt_of_get hs) hj hs hu, hc, fun h => (by rw [ht] at h; cases h), fun _ => ⟨h2, h3, h4, fun i s hs => q i s (lt_of_get hs) hs, h5⟩⟩
end Go.Sx
namespace Go.Sx
open Go
section
variable {P : Program} {h hB : Hp} {K : Value → Hp → Prop}
/-- The load of a slot that was there at the start. -/
theorem hsem_slotB {t b off i j : Nat} {es : List Sl} {e : Sl} {xs : List Value} (eB : Ext hB h) (ht : tyS P t = some (true, 10)) (hat : At hB ⟨b, off, none⟩ xs) (hr : RdL hB (es.flatMap Sl.dt) xs) (hi : es[i]? = some e) (hj : j = off + i * 10)
    (k : ∀ sl, RdE hB e.val.items sl → K (.agg #[.bool e.key.text, .int .i64 e.key.num, .string e.key.str, .int .i64 e.val.kind, .int .i64 e.val.num, .string e.val.str, .int .i64 e.val.next, sl, .bool e.live, .int .i64 e.link]) h) : HPure P (ldI t (.pointer (some ⟨b, j, none⟩))) h K := by
  have h1 := fm_take Sl.dt_len hi 0 10 (Nat.le_refl _)
  have r := (hr.drop (i * 10 + 0)).take 10
  rw [h1, List.drop_zero, List.take_of_length_le (by rw [Sl.dt_len]; exact Nat.le_refl _)] at r
  have hl := r.len
  obtain ⟨sl, e1, hs⟩ := RdL_slot r
  refine hsem_atN (i := i * 10 + 0) (us := [.bool e.key.text, .int .i64 e.key.num, .string e.key.str, .int .i64 e.val.kind, .int .i64 e.val.num, .string e.val.str, .int .i64 e.val.next, sl, .bool e.live, .int .i64 e.link]) ht (hat.mono eB) rfl e1 (by omega) (k sl hs)
end
end Go.Sx
namespace Go.Sx
open Go
/-! what the functions over tables return -/
def Tb.roomy (t : Tb) (k : Ky) : Bool := (t.find k).isSome || decide (liveN t.slots < 1024)
def Tb.set (t : Tb) (k : Ky) (x : V) : Tb := if t.roomy k then t.put k x else t
theorem roomy_some {t : Tb} {k : Ky} {i : Nat} (h : t.find k = some i) : t.roomy k = true := by unfold Tb.roomy; rw [h]; rfl
theorem roomy_none {t : Tb} {k : Ky} (h : t.find k = none) : t.roomy k = decide (liveN t.slots < 1024) := by unfold Tb.roomy; rw [h]; rfl
theorem set_yes {t : Tb} {k : Ky} {x : V} (h : t.roomy k = true) : t.set k x = t.put k x := if_pos h
theorem set_no {t : Tb} {k : Ky} {x : V} (h : t.roomy k = false) : t.set k x = t := if_neg (by rw [h]; simp)
def Tb.findI (t : Tb) (k : Ky) : Int := if t.isTab then ixI (t.find k) else -1
def Tb.deleted (t : Tb) (k : Ky) : Tb := if t.isTab then t.drop k else t
def Tb.anew (t : Tb) : Tb := if t.isTab && decide (t.count < 1024) then t.build else t
theorem findI_yes {t : Tb} {k : Ky} (h : t.isTab = true) : t.findI k = ixI (t.find k) := if_pos h
theorem findI_no {t : Tb} {k : Ky} (h : t.isTab = false) : t.findI k = -1 := if_neg (by rw [h]; simp)
theorem deleted_yes {t : Tb} {k : Ky} (h : t.isTab = true) : t.deleted k = t.drop k := if_pos h
theorem deleted_no {t : Tb} {k : Ky} (h : t.isTab = false) : t.deleted k = t := if_neg (by rw [h]; simp)
theorem anew_yes {t : Tb} (h : t.isTab = true) (h2 : t.count < 1024) : t.anew = t.build := if_pos (by rw [h, decide_eq_true h2]; rfl)
theorem anew_no {t : Tb} (h : t.isTab = false) : t.anew = t := if_neg (by rw [h]; simp)
theorem anew_full {t : Tb} (h2 : ¬ t.count < 1024) : t.anew = t := if_neg (by rw [decide_eq_false h2]; simp)
theorem deleted_bulk (t : Tb) (k : Ky) : (t.deleted k).bulk ≤ t.bulk := by
  unfold Tb.deleted
  split
  · exact t.drop_bulk k
  · exact Nat.le_refl _
theorem anew_bulk (t : Tb) : t.anew.bulk ≤ t.bulk + 32768 := by
  unfold Tb.anew
  split
  · exact t.build_bulk
  · omega
theorem tab_ch {t : Tb} (h : t.isTab = true) : t.ch := (t.isTab_iff.1 h).ch
theorem ch_room {t : Tb} (c : t.ch) (h : t.count < 1024) : liveN t.slots < 1024 := by have := c.cnt; omega
end Go.Sx
