/-
  A part of the abstract machine over the model's Code, or of the proof that what it shows holds of the model; no program is in sight, and nothing is assumed.
-/
import Derived.Test.YtccjkhnefiikaaaGreatDoorSxSoundD
namespace Go.Sx
open Go
section
variable {P : Program} {h0 h h' : Hp} {w0 w w' : World} {n : Nat} {β : Nat → Nat} {fr fr1 : Fr} {bx bx1 : Bx} {a : Act}

theorem store_run {b i : Nat} {cs : Array Value} {T : Nat} {v : Value} (hb : w.heap[b]? = some (.cells cs T (0, 0))) (hi : i < cs.size) (h1 : oneCell v = true) :
    (store ⟨b, i, none⟩ v).run P w = .ok () (w.setCell ⟨b, i, none⟩ v) := by
  have hc : w.cell? ⟨b, i, none⟩ = some cs[i] := by simp [World.cell?, hb, hi]
  have hf : w.frozen? ⟨b, i, none⟩ = false := by simp [World.frozen?, hb]
  unfold store
  cases v <;> first | (simp [oneCell] at h1; done) | simp [Sem.run, hc, hf]
theorem setCell_heap {b i : Nat} {cs : Array Value} {T : Nat} {v : Value} (hb : w.heap[b]? = some (.cells cs T (0, 0))) :
    (w.setCell ⟨b, i, none⟩ v).heap[b]? = some (.cells (cs.setIfInBounds i v) T (0, 0)) := by
  simp [World.setCell, Array.getElem?_modify, hb]
theorem setCell_other {b i k : Nat} {v : Value} (hk : k ≠ b) : (w.setCell ⟨b, i, none⟩ v).heap[k]? = w.heap[k]? := by
  simp only [World.setCell, Array.getElem?_modify]
  rw [if_neg (by omega)]

theorem storeCells_run : ∀ (vs : List Value) (b off i : Nat) (cs : Array Value) (T : Nat) (w : World), w.heap[b]? = some (.cells cs T (0, 0)) → off + i + vs.length ≤ cs.size → oneCells vs = true →
    ∃ w', (storeCells ⟨b, off, none⟩ vs i).run P w = .ok () w' ∧ w'.heap[b]? = some (.cells (splice cs.toList (off + i) vs).toArray T (0, 0)) ∧ (∀ k, k ≠ b → w'.heap[k]? = w.heap[k]?) ∧
      w'.heap.size = w.heap.size ∧ w'.os = w.os ∧ w'.tape = w.tape ∧ w'.output = w.output
  | [], b, off, i, cs, T, w, hb, _, _ => ⟨w, by simp [storeCells], by simpa [splice] using hb, fun _ _ => rfl, rfl, rfl, rfl, rfl⟩
  | v :: vs, b, off, i, cs, T, w, hb, hl, h1 => by
    simp only [oneCells, Bool.and_eq_true] at h1
    simp only [List.length_cons] at hl
    have hr := store_run (P := P) (w := w) hb (i := off + i) (by omega) h1.1
    obtain ⟨w', e, e1, e2, e3, e4, e5, e6⟩ := storeCells_run vs b off (i + 1) (cs.setIfInBounds (off + i) v) T (w.setCell ⟨b, off + i, none⟩ v) (setCell_heap hb) (by simp; omega) h1.2
    refine ⟨w', ?_, ?_, fun k hk => (e2 k hk).trans (setCell_other hk), by rw [e3]; simp [World.setCell], e4, e5, e6⟩
    · simp only [storeCells, Sem.run_bind, add_box, hr, Result.andThen_ok, e]
    · rw [e1, show off + (i + 1) = off + i + 1 by omega, Array.toList_setIfInBounds, splice_set (by simp; omega)]

/-- What stands behind an operation. -/
def Nx (h0 : Hp) (w0 : World) (n : Nat) (fr : Fr) (d : Option Nat) (K : AV → Bx → Hp → Prop) : Act → World → Prop :=
  fun a' w' => ∃ v bx' h' β', Rel h0 w0 n β' (put fr d v) bx' h' a' w' ∧ K v bx' h'

theorem wp_value {o : Oper} {Q : Exit → Act → World → Prop} {K : AV → Bx → Hp → Prop} (R : Rel h0 w0 n β fr bx h a w) (hd : ∀ k, o.dst = some k → k < n) {v : AV}
    (hr : (execOp a.eval o).run P w = .ok (.value (conc β v)) w) (hv : ∀ k off, v = .box k off → ∃ cs, lkb bx k = some cs) (hK : K v bx h) : o.wp P a w (Nx h0 w0 n fr o.dst K) Q := by
  unfold Oper.wp
  rw [hr]
  exact ⟨v, bx, h, β, R.put o.dst hd v hv, hK⟩
theorem wp_hop {o : Oper} {Q : Exit → Act → World → Prop} {K : AV → Bx → Hp → Prop} {s : Sem Value} {S : Option Hp} (R : Rel h0 w0 n β fr bx h a w) (hd : ∀ k, o.dst = some k → k < n)
    (hr : ∀ v w', s.run P w = .ok v w' → (execOp a.eval o).run P w = .ok (.value v) w' ∨ (v = undef ∧ (execOp a.eval o).run P w = .ok .skip w')) (hK : hop P S s bx h K) : o.wp P a w (Nx h0 w0 n fr o.dst fun v bx h => ExtO S h ∧ K v bx h) Q := by
  obtain ⟨v, w', h', e, hs, hf, k⟩ := hK w R.sim
  unfold Oper.wp
  have R' := R.step hs hf
  rcases hr v w' e with hr | ⟨rfl, hr⟩
  · rw [hr]
    exact ⟨.val v, bx, h', β, R'.put o.dst hd (.val v) (by intro k off e; cases e), k⟩
  · rw [hr]
    exact ⟨.val undef, bx, h', β, R'.put o.dst hd (.val undef) (by intro k off e; cases e), k⟩

theorem lop_box_refs (R : Rel h0 w0 n β fr bx h a w) {op : Op} {k off : Nat} (hl : lop P fr bx op = some (.box k off)) : ∃ cs, lkb bx k = some cs := by
  have hev : ∀ x k off, ev fr x = some (.box k off) → ∃ cs, lkb bx k = some cs := fun x k off hx => by
    cases x with
    | tmp t => exact R.refs t k off hx
    | const c => simp [ev] at hx
    | global g => simp [ev] at hx
    | func f => simp [ev] at hx
  cases op <;> simp only [lop] at hl <;> try (simp at hl; done)
  case move x => exact hev x _ _ hl
  case assign x => exact hev x _ _ hl
  case pick c x y =>
    split at hl
    · exact hev x _ _ hl
    · exact hev y _ _ hl
    · simp at hl
  case load t x =>
    split at hl
    · split at hl
      · unfold rdC at hl
        split at hl
        · split at hl <;> simp at hl
        · simp at hl
        · simp at hl
      · simp at hl
    · simp at hl
  case nilCheck x =>
    unfold vnil at hl
    split at hl
    · rename_i hx; simp at hl; obtain ⟨rfl, rfl⟩ := hl; exact hev x _ _ hx
    · simp at hl
    · simp at hl
  case binOp op xt x y yt => obtain ⟨_, _, _, _, _, _, e⟩ := bin2_some hl; cases e
  case unOp op xt x => obtain ⟨_, _, _, _, e⟩ := un1_some hl; cases e
  case extract x i => obtain ⟨_, _, _, _, e⟩ := un1_some hl; cases e
  case build t parts =>
    unfold vbuild at hl
    split at hl
    · rename_i pl z vs _ _ _
      cases ho : vparts pl ((parts.toList.map (·.1)).zip vs) z with
      | none => simp [ho] at hl
      | some out => simp [ho] at hl
    · simp at hl
  case slice t x lo hi mx =>
    split at hl
    · simp at hl
    · unfold slice3 at hl
      split at hl
      · obtain ⟨_, _, e⟩ := mapv_some hl; cases e
      · simp at hl
  case fieldAddr s x i =>
    unfold vfieldAddr at hl
    split at hl
    · rename_i hx; simp at hl; obtain ⟨rfl, _⟩ := hl; exact hev x _ _ hx
    · simp at hl
    · simp at hl
  case field s x i => obtain ⟨_, _, _, _, e⟩ := un1_some hl; cases e
  case indexAddr t x i => obtain ⟨_, _, _, _, _, _, e⟩ := bin2_some hl; cases e
  case index t x i => obtain ⟨_, _, _, _, _, _, e⟩ := bin2_some hl; cases e
  case call c =>
    split at hl
    · obtain ⟨_, _, _, _, e⟩ := un1_some hl; cases e
    · simp at hl

theorem wp_lop {o : Oper} {Q : Exit → Act → World → Prop} {K : AV → Bx → Hp → Prop} (R : Rel h0 w0 n β fr bx h a w) (hd : ∀ k, o.dst = some k → k < n)
    (hK : aval (lop P fr bx o.op) fun v => K v bx h) : o.wp P a w (Nx h0 w0 n fr o.dst K) Q := by
  cases hl : lop P fr bx o.op with
  | none => rw [hl] at hK; exact hK.elim
  | some v =>
    rw [hl] at hK
    exact wp_value R hd (lop_run R.toLoc o hl) (fun k off e => by subst e; exact lop_box_refs R hl) hK
end
end Go.Sx
