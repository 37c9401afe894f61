/-
  A part of the abstract machine over the model's Code, or of the proof that what it shows holds of the model; no program is in sight, and nothing is assumed.
-/
import Derived.Test.YtccjkhnefiikaaaGreatDoorSxSimp
/-! Operations on the visible heap. -/
namespace Go.Sx
open Go
def hset (h : Hp) (b : Nat) (o : Obj) : Hp := fun i => if i = b then some o else h i
theorem hset_same (h : Hp) (b : Nat) (o : Obj) : hset h b o b = some o := by simp [hset]
theorem hset_other {h : Hp} {b i : Nat} {o : Obj} (hi : i ≠ b) : hset h b o i = h i := by simp [hset, hi]

section
variable {P : Program} {h : Hp} {K : Value → Hp → Prop}
theorem sim_lt {w : World} (hw : Sim h w) {b : Nat} {o : Obj} (hb : h b = some o) : b < w.heap.size := by
  have := hw.vis b o hb
  rcases Nat.lt_or_ge b w.heap.size with hl | hl
  · exact hl
  · rw [Array.getElem?_eq_none hl] at this; cases this
theorem sim_new {w : World} (hw : Sim h w) : h w.heap.size = none := by
  cases hh : h w.heap.size with
  | none => rfl
  | some o => exact absurd (sim_lt hw hh) (Nat.lt_irrefl _)

theorem hsem_pure {s : Sem Value} {v : Value} (hr : ∀ w, Sim h w → s.run P w = .ok v w) (k : K v h) : HSem P s h K :=
  fun w hw => ⟨v, w, h, hr w hw, hw, Frm.refl h w, k⟩

theorem hpure {s : Sem Value} {v : Value} (hr : ∀ w, Sim h w → s.run P w = .ok v w) (k : K v h) : HPure P s h K := ⟨v, hr, k⟩
/-- A world after some draws. -/
def drawn (w : World) (n : Nat) : World := { w with drawn := w.drawn + n }

theorem hsem_alloc {s : Sem Value} {v : Nat → Value} {o : Obj} (hr : ∀ w, Sim h w → s.run P w = .ok (v w.heap.size) { w with heap := w.heap.push o }) (k : ∀ b, h b = none → K (v b) (hset h b o)) : HSem P s h K :=
  fun w hw => by
    refine ⟨_, _, hset h w.heap.size o, hr w hw, ⟨fun b ob hb => ?_⟩, ⟨rfl, rfl, rfl, by simp, fun b hb hn => ?_⟩, k _ (sim_new hw)⟩
    · by_cases hbs : b = w.heap.size
      · subst hbs
        rw [hset_same] at hb
        simp at hb
        subst hb
        simp
      · rw [hset_other hbs] at hb
        have := hw.vis b ob hb
        have hl := sim_lt hw hb
        show (w.heap.push o)[b]? = _
        rw [Array.getElem?_push, if_neg (by omega)]
        exact this
    · refine ⟨?_, by rw [hset_other (by omega)]; exact hn⟩
      show (w.heap.push o)[b]? = _
      rw [Array.getElem?_push, if_neg (by omega)]

/-- A step that rewrites one visible block. -/
theorem hsem_set {s : Sem Value} {v : Value} {b : Nat} {o o' : Obj} (hb : h b = some o)
    (hr : ∀ w, Sim h w → ∃ w', s.run P w = .ok v w' ∧ w'.heap[b]? = some o' ∧ (∀ i, i ≠ b → w'.heap[i]? = w.heap[i]?) ∧ w'.heap.size = w.heap.size ∧ w'.os = w.os ∧ w'.tape = w.tape ∧ w'.output = w.output)
    (k : K v (hset h b o')) : HSem P s h K :=
  fun w hw => by
    obtain ⟨w', e, e1, e2, e3, e4, e5, e6⟩ := hr w hw
    refine ⟨v, w', hset h b o', e, ⟨fun i oi hi => ?_⟩, ⟨e4, e5, e6, by omega, fun i hi hn => ?_⟩, k⟩
    · by_cases hib : i = b
      · subst hib; rw [hset_same] at hi; simp at hi; subst hi; exact e1
      · rw [hset_other hib] at hi; rw [e2 i hib]; exact hw.vis i oi hi
    · have hib : i ≠ b := by rintro rfl; rw [hb] at hn; cases hn
      exact ⟨e2 i hib, by rw [hset_other hib]; exact hn⟩

/-! ### What is asked of a slice type: the element's type, its cells and bytes, its zero -/
structure SlT where
  e : Nat
  z : Nat
  by_ : Nat
  zero : List Value
def slT (P : Program) (t : Nat) : Option SlT :=
  match P.underlying t with
  | some (.slice e) => match P.info? e with
    | some i => match i.zero with
      | some v => some ⟨e, i.size, i.bytes, v.cells.toList⟩
      | none => none
    | none => none
  | _ => none
theorem slT_some {t : Nat} {s : SlT} (hs : slT P t = some s) : ∃ i v, P.underlying t = some (.slice s.e) ∧ P.info? s.e = some i ∧ i.zero = some v ∧ i.size = s.z ∧ i.bytes = s.by_ ∧ v.cells.toList = s.zero := by
  unfold slT at hs
  split at hs
  · rename_i e he
    split at hs
    · rename_i i hi
      split at hs
      · rename_i v hv
        simp at hs
        subst hs
        exact ⟨i, v, he, hi, hv, rfl, rfl, rfl⟩
      · simp at hs
    · simp at hs
  · simp at hs

/-! ### Loads and stores -/
theorem load_cell {w : World} (hw : Sim h w) {a : Addr} {c : Array Value} {e : Nat} {f : Nat × Nat} (hb : h a.block = some (.cells c e f)) (hs : a.spot = none) (i : Nat) : w.cell? (a.add i) = c[a.off + i]? := by
  have := hw.vis _ _ hb
  unfold Addr.add
  split
  · rename_i h0; subst h0; simp [World.cell?, this, hs]
  · simp [World.cell?, this]
theorem hsem_load1 {t n : Nat} {a : Addr} {c : Array Value} {e : Nat} {f : Nat × Nat} {v : Value} (ht : tyS P t = some (false, n)) (hb : h a.block = some (.cells c e f)) (hs : a.spot = none) (hv : c[a.off]? = some v) (k : K v h) :
    HPure P (ldI t (.pointer (some a))) h K :=
  hpure (fun w hw => by
    have hc := load_cell hw hb hs 0
    simp only [Nat.add_zero, hv] at hc
    have ha : a.add 0 = a := rfl
    rw [ha] at hc
    simp [ldI, Instr.loadAt, Instr.sureAddr, loadVar, (tyS_some (w := w) ht).1, hc]) k
theorem hsem_loadN {t n : Nat} {a : Addr} {c : Array Value} {e : Nat} {f : Nat × Nat} {vs : List Value} (ht : tyS P t = some (true, n)) (hb : h a.block = some (.cells c e f)) (hs : a.spot = none) (hn : vs.length = n)
    (hv : ∀ (j : Nat) (v : Value), vs[j]? = some v → c[a.off + j]? = some v) (k : K (.agg vs.toArray) h) :
    HPure P (ldI t (.pointer (some a))) h K :=
  hpure (fun w hw => by
    subst hn
    have hl := run_loadCells_list (P := P) w a vs (fun j v hj => by rw [load_cell hw hb hs]; exact hv j v hj)
    simp [ldI, Instr.loadAt, Instr.sureAddr, loadVar, (tyS_some (w := w) ht).1, (tyS_some (w := w) ht).2, hl]) k
theorem hsem_store {t n : Nat} {ag : Bool} {b off : Nat} {c : Array Value} {e : Nat} {u : Value} (ht : tyS P t = some (ag, n)) (hb : h b = some (.cells c e (0, 0))) (hn : u.cells.toList.length = n) (h1 : oneCells u.cells.toList = true)
    (hl : off + n ≤ c.size) (k : K undef (hset h b (.cells (splice c.toList off u.cells.toList).toArray e (0, 0)))) :
    HSem P (stI t (.pointer (some ⟨b, off, none⟩)) u) h K :=
  hsem_set (o' := .cells (splice c.toList off u.cells.toList).toArray e (0, 0)) hb (fun w hw => by
    obtain ⟨w', e0, e1, e2, e3, e4, e5, e6⟩ := storeCells_run (P := P) u.cells.toList b off 0 c e w (hw.vis _ _ hb) (by omega) h1
    refine ⟨w', ?_, by simpa using e1, e2, e3, e4, e5, e6⟩
    have hz : u.cells.size = n := by simpa using hn
    simp [stI, Instr.storeAt, Instr.sureAddr, storeVar, (tyS_some (w := w) ht).2, hz, e0]) k

/-! ### New slices -/
def flat (parts : List (Nat × Value)) : List Value := parts.flatMap fun p => p.2.cells.toList
theorem fill_full {z : Nat} : ∀ (parts : List (Nat × Value)) (k : Nat) (done rest : List Value), parts.map (·.1) = (List.range' k parts.length) → (∀ p ∈ parts, p.2.cells.size = z) → done.length = k * z → rest.length = parts.length * z →
    Instr.fill (fun i => some (i * z, z)) (done ++ rest).toArray parts = some (done ++ flat parts).toArray
  | [], k, done, rest, _, _, _, hr => by
    have : rest = [] := List.eq_nil_of_length_eq_zero (by simpa using hr)
    subst this
    simp [Instr.fill, flat]
  | (i, v) :: ps, k, done, rest, hi, hz, hd, hr => by
    simp only [List.map_cons, List.length_cons, List.range'_succ, List.cons.injEq] at hi
    obtain ⟨rfl, hi⟩ := hi
    have hvz : v.cells.size = z := hz (i, v) (by simp)
    simp only [List.length_cons] at hr
    have hmul : (ps.length + 1) * z = ps.length * z + z := by rw [Nat.add_mul, Nat.one_mul]
    simp only [Instr.fill]
    rw [if_neg]
    · have hf := foldl_set v.cells.toList (i * z) 0 (done ++ rest).toArray (by simp [hvz, hd]; omega)
      simp only [Nat.add_zero] at hf
      have hsp : splice (done ++ rest) (i * z) v.cells.toList = (done ++ v.cells.toList) ++ rest.drop z := by
        unfold splice
        rw [← hd, List.take_left', List.drop_append]
        · simp [hvz]
        · rfl
      have he : (v.cells.zipIdx.foldl (fun cs (c, j) => cs.setIfInBounds (i * z + j) c) (done ++ rest).toArray) = ((done ++ v.cells.toList) ++ rest.drop z).toArray := by
        apply Array.ext'
        rw [← hsp]
        simpa using hf
      rw [he]
      rw [fill_full ps (i + 1) (done ++ v.cells.toList) (rest.drop z) (by simpa using hi) (fun p hp => hz p (by simp [hp])) (by simp [hd, hvz, Nat.add_mul]) (by simp; omega)]
      simp [flat]
    · simp only [hvz, ne_eq, not_true_eq_false, decide_false, Bool.false_or, decide_eq_true_eq]
      simp [hd]
      omega
theorem hsem_buildSlice {t n : Nat} {s : SlT} {parts : List (Nat × Value)} (hs : slT P t = some s) (hz : 0 < s.z) (hn0 : 0 < n) (hn : n * s.z ≤ 16777216) (hlen : parts.length = n) (hi : parts.map (·.1) = List.range n) (hp : ∀ p ∈ parts, p.2.cells.size = s.z)
    (k : ∀ b, h b = none → K (.slice (some ⟨b, 0, none⟩) n n) (hset h b (.cells (flat parts).toArray s.e (0, 0)))) : HSem P (bsI t n parts.toArray) h K := by
  refine hsem_alloc (v := fun b => .slice (some ⟨b, 0, none⟩) n n) (o := .cells (flat parts).toArray s.e (0, 0)) (fun w _ => ?_) k
  obtain ⟨i, v, h1, h2, h3, h4, h5, h6⟩ := slT_some hs
  have hf := fill_full (z := s.z) parts 0 [] ((Array.range (n * s.z)).map (v.cells[· % v.cells.size]!)).toList (by rw [hi, hlen, List.range_eq_range']) hp (by simp) (by simp [hlen])
  simp only [List.nil_append, Array.toArray_toList] at hf
  have hn1 : n * s.z ≠ 0 := Nat.mul_ne_zero (by omega) (by omega)
  simp [bsI, Instr.buildSlice, run_ty h1, run_size h2, h4, zeroValue, run_info h2, h3, hn1, hf, newRow]
  exact hn
end
theorem Ext.refl (h : Hp) : Ext h h := fun _ _ hb => hb
theorem Ext.trans {a b c : Hp} (h : Ext a b) (k : Ext b c) : Ext a c := fun i o hi => k i o (h i o hi)
theorem Ext.hset {a h : Hp} (e : Ext a h) {b : Nat} (hb : h b = none) (o : Obj) : Ext a (hset h b o) := fun i x hi => by
  have := e i x hi
  have hne : i ≠ b := by rintro rfl; rw [hb] at this; cases this
  rw [hset_other hne]
  exact this
theorem ext_set {h : Hp} {b : Nat} (hb : h b = none) (o : Obj) : Ext h (Sx.hset h b o) := (Ext.refl h).hset hb o

/-- A contract's end: this value, and nothing that was visible has turned. -/
structure Is (u : Value) (h : Hp) (v : Value) (h' : Hp) : Prop where
  eq : v = u
  ext : Ext h h'
/-- A contract's end: this value, and the heap is the same one. -/
structure Pu (u : Value) (h : Hp) (v : Value) (h' : Hp) : Prop where
  eq : v = u
  heap : h = h'
end Go.Sx
