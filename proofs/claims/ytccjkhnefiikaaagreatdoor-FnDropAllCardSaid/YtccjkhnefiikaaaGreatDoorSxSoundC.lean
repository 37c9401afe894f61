/-
  A part of the abstract machine over the model's Code, or of the proof that what it shows holds of the model; no program is in sight, and nothing is assumed.
-/
import Derived.Test.YtccjkhnefiikaaaGreatDoorSxSoundB
namespace Go.Sx
open Go
section
variable {P : Program} {w : World} {β : Nat → Nat} {fr : Fr} {bx : Bx} {a : Act}

/-- The frame's slots are those of the model, the boxes lie in its heap. -/
structure Loc (β : Nat → Nat) (fr : Fr) (bx : Bx) (a : Act) (w : World) : Prop where
  tmps : ∀ i v, lk fr i = some v → a.tmps.getD i undef = conc β v
  boxes : ∀ k cs, lkb bx k = some cs → ∃ T, w.heap[β k]? = some (.cells cs.toArray T (0, 0))

theorem Loc.ev_ (L : Loc β fr bx a w) {x : Operand} {v : AV} (h : ev fr x = some v) : a.eval x = conc β v := by
  cases x with
  | tmp t => exact L.tmps t v h
  | const c => simp only [ev, Option.some.injEq] at h; subst h; rfl
  | global g => simp only [ev, Option.some.injEq] at h; subst h; rfl
  | func f => simp only [ev, Option.some.injEq] at h; subst h; rfl
theorem vals_map (L : Loc β fr bx a w) : ∀ (l : List Operand) (vs : List Value), vals (l.map (ev fr)) = some vs → l.map a.eval = vs
  | [], vs, h => by simp [vals] at h; simp [h]
  | x :: l, vs, h => by
    simp only [List.map_cons] at h
    cases hx : ev fr x with
    | none => simp [vals, hx] at h
    | some v => cases v with
      | box k o => simp [vals, hx] at h
      | val u =>
        simp only [vals, hx] at h
        cases hr : vals (l.map (ev fr)) with
        | none => simp [hr] at h
        | some us =>
          simp only [hr, Option.map_some, Option.some.injEq] at h
          subst h
          simp only [List.map_cons, vals_map L l us hr, L.ev_ hx, conc]

theorem cell_box (L : Loc β fr bx a w) {k : Nat} {cs : List Value} (h : lkb bx k = some cs) (i : Nat) : w.cell? ⟨β k, i, none⟩ = cs[i]? := by
  obtain ⟨T, hT⟩ := L.boxes k cs h
  simp [World.cell?, hT]

theorem rdC_run (L : Loc β fr bx a w) {t k off : Nat} {cs : List Value} {v : AV} (hk : lkb bx k = some cs) (h : rdC (tyS P t) (cs.drop off) = some v) :
    ∃ u, v = .val u ∧ (Instr.loadAt t (.pointer (some ⟨β k, off, none⟩))).run P w = .ok u w := by
  unfold rdC at h
  split at h
  · rename_i _ _ n hty
    split at h
    · rename_i hn
      simp at h
      subst h
      refine ⟨_, rfl, ?_⟩
      obtain ⟨h1, h2⟩ := tyS_some (w := w) hty
      have hl := run_loadCells_list (P := P) w ⟨β k, off, none⟩ ((cs.drop off).take n) (fun j x hx => by
        rw [add_box, cell_box L hk]
        rw [List.getElem?_take] at hx
        split at hx
        · rw [List.getElem?_drop] at hx; exact hx
        · simp at hx)
      have hlen : ((cs.drop off).take n).length = n := by simp at hn ⊢; omega
      rw [hlen] at hl
      simp [Instr.loadAt, Instr.sureAddr, loadVar, h1, h2, hl]
    · simp at h
  · rename_i n c r hty hcs
    simp at h
    subst h
    refine ⟨_, rfl, ?_⟩
    obtain ⟨h1, h2⟩ := tyS_some (w := w) hty
    have hc : w.cell? ⟨β k, off, none⟩ = some c := by
      rw [cell_box L hk]
      have : (cs.drop off)[0]? = some c := by rw [hcs]; rfl
      rw [List.getElem?_drop] at this
      simpa using this
    simp [Instr.loadAt, Instr.sureAddr, loadVar, h1, hc]
  · simp at h

theorem lop_run (L : Loc β fr bx a w) (o : Oper) {v : AV} (h : lop P fr bx o.op = some v) : (execOp a.eval o).run P w = .ok (.value (conc β v)) w := by
  obtain ⟨dst, op, ty, pos, aft, gd⟩ := o
  simp only at h
  cases op <;> simp only [lop] at h <;> try (simp at h; done)
  case move x => simp [execOp, L.ev_ h]
  case assign x => simp [execOp, L.ev_ h]
  case pick c x y =>
    split at h
    · rename_i hc; simp [execOp, L.ev_ hc, conc, asBool, L.ev_ h]
    · rename_i hc; simp [execOp, L.ev_ hc, conc, asBool, L.ev_ h]
    · simp at h
  case load t x =>
    split at h
    · rename_i k off hx
      split at h
      · rename_i cs hcs
        obtain ⟨u, rfl, hr⟩ := rdC_run L hcs h
        simp only [execOp, L.ev_ hx, conc]
        exact run_value hr
      · simp at h
    · simp at h
  case nilCheck x =>
    unfold vnil at h
    split at h
    · rename_i hx; simp at h; subst h; simp [execOp, L.ev_ hx, conc]
    · rename_i hx; simp at h; subst h; simp [execOp, L.ev_ hx, conc]
    · simp at h
  case binOp op xt x y yt =>
    obtain ⟨va, vb, u, hx, hy, hf, rfl⟩ := bin2_some h
    simp only [execOp, L.ev_ hx, L.ev_ hy, conc]
    exact run_value (vbin_run x y hf)
  case unOp op xt x =>
    obtain ⟨va, u, hx, hf, rfl⟩ := un1_some h
    simp only [execOp, L.ev_ hx, conc]
    exact run_value (vun_run hf)
  case extract x i =>
    obtain ⟨va, u, hx, hf, rfl⟩ := un1_some h
    unfold vext at hf
    split at hf
    · rename_i vs
      simp only [execOp, L.ev_ hx, conc]
      refine run_value ?_
      simp only [Instr.extract]
      rw [show vs[i]? = some u by simpa using hf]
      rfl
    · simp at hf
  case build t parts =>
    cases hv : vals (parts.toList.map fun p => ev fr p.2) with
    | none => simp [vbuild, hv] at h
    | some vs =>
      rw [hv] at h
      have hv' : vals ((parts.toList.map (·.2)).map (ev fr)) = some vs := by simpa [Function.comp_def] using hv
      have hm := vals_map L _ _ hv'
      have hp : (parts.map fun (i, x) => (i, a.eval x)).toList = (parts.toList.map (·.1)).zip vs := by
        rw [← hm]
        simp [List.zip_map']
      have hz := vbuild_run (P := P) (w := w) (t := t) (parts := (parts.toList.map (·.1)).zip vs) (v := v) (by
        have hl : vs.length = (parts.toList.map (·.1)).length := by rw [← hm]; simp
        rw [List.map_fst_zip (by omega), List.map_snd_zip (by omega)]
        exact h)
      obtain ⟨u, rfl, hr⟩ := hz
      have he : parts.map (fun (i, x) => (i, a.eval x)) = ((parts.toList.map (·.1)).zip vs).toArray := by
        rw [← hp]
      simp only [execOp, he]
      exact run_value hr
  case slice t x lo hi mx =>
    cases mx with
    | some m => simp at h
    | none =>
      simp only [Option.isSome_none, Bool.false_eq_true, if_false] at h
      unfold slice3 at h
      split at h
      · rename_i va l hh hx hlo hhi
        obtain ⟨u, hf, rfl⟩ := mapv_some h
        have bound : ∀ {o : Option Operand} {n : Option Int}, vbound (o.map (ev fr)) = some n → isBound (o.map a.eval) n := by
          intro o n hb
          cases o with
          | none => simp [vbound] at hb; subst hb; trivial
          | some y =>
            simp only [Option.map_some] at hb ⊢
            unfold vbound at hb
            split at hb
            · rename_i he; simp at he
            · rename_i k m he
              simp only [Option.some.injEq] at he hb
              subst hb
              rw [L.ev_ he]
              simp [isBound, conc]
            · simp at hb
        simp only [execOp, L.ev_ hx, conc, Option.map_none]
        exact run_value (vslice_run (bound hlo) (bound hhi) hf)
      · simp at h
  case fieldAddr s x i =>
    unfold vfieldAddr at h
    split at h
    · rename_i o k off ho hx
      simp at h
      subst h
      obtain ⟨fs, f, j, hs, hf, hi, hz, rfl⟩ := fOff_some ho
      simp only [execOp, L.ev_ hx, conc]
      refine run_value ?_
      simp [Instr.fieldAt, run_ty hs, hf, Instr.sureAddr, fieldPlace, run_size hi, hz, add_box]
    · rename_i o ad ho hx
      simp at h
      subst h
      obtain ⟨fs, f, j, hs, hf, hi, hz, rfl⟩ := fOff_some ho
      simp only [execOp, L.ev_ hx, conc]
      refine run_value ?_
      simp [Instr.fieldAt, run_ty hs, hf, Instr.sureAddr, fieldPlace, run_size hi, hz]
    · simp at h
  case field s x i =>
    obtain ⟨va, u, hx, hf, rfl⟩ := un1_some h
    simp only [execOp, L.ev_ hx, conc]
    exact run_value (vfld_run hf)
  case indexAddr t x i =>
    obtain ⟨va, vb, u, hx, hy, hf, rfl⟩ := bin2_some h
    simp only [execOp, L.ev_ hx, L.ev_ hy, conc]
    exact run_value (vindexAddr_run hf)
  case index t x i =>
    obtain ⟨va, vb, u, hx, hy, hf, rfl⟩ := bin2_some h
    simp only [execOp, L.ev_ hx, L.ev_ hy, conc]
    exact run_value (vindex_run hf)
  case call c =>
    split at h
    · rename_i x t hb hargs htys
      obtain ⟨va, u, hx, hf, rfl⟩ := un1_some h
      obtain ⟨callee, args, argTypes⟩ := c
      simp only at hb hargs htys
      subst hb
      obtain ⟨args⟩ := args
      obtain ⟨argTypes⟩ := argTypes
      simp only at hargs htys
      subst hargs htys
      simp only [execOp, resolve, invoke, builtin, Sem.run_bind, Sem.run_pure, Result.andThen_ok]
      simp only [List.map_toArray, List.map_cons, List.map_nil, L.ev_ hx, conc]
      simp [vlen_run hf]
    · simp at h
end
end Go.Sx
