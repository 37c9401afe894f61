/-
  A part of the abstract machine over the model's Code, or of the proof that what it shows holds of the model; no program is in sight, and nothing is assumed.
-/
import Derived.Test.YtccjkhnefiikaaaGreatDoorSxCore
import Derived.Laws.Cells
import Derived.Laws.StructEq
namespace Go.Sx
open Go

def conc (β : Nat → Nat) : AV → Value
  | .val v => v
  | .box k off => .pointer (some ⟨β k, off, none⟩)

section
variable {P : Program} {w : World}
theorem run_ty {t : Nat} {d : TypeDesc} (h : P.underlying t = some d) : (underlying t).run P w = .ok d w := run_underlying h w
theorem run_info {t : Nat} {i : TypeInfo} (h : P.info? t = some i) : (typeInfo t).run P w = .ok i w := by simp [typeInfo, h]
theorem run_size {t : Nat} {i : TypeInfo} (h : P.info? t = some i) : (sizeOf t).run P w = .ok i.size w := by simp [sizeOf, run_info h]

theorem tyS_some {t n : Nat} {b : Bool} (h : tyS P t = some (b, n)) : (isAgg t).run P w = .ok b w ∧ (sizeOf t).run P w = .ok n w := by
  unfold tyS at h
  split at h <;> first | (simp at h; done) | skip
  all_goals
    rename_i i hi hu
    simp only [Option.some.injEq, Prod.mk.injEq] at h
    obtain ⟨rfl, rfl⟩ := h
  · simp [isAgg, run_ty hu, run_size hi]
  · simp [isAgg, run_ty hu, run_size hi]
  · rename_i j hs ha
    refine ⟨?_, run_size hi⟩
    simp only [isAgg, Sem.run_bind, run_ty hu, Result.andThen_ok]
    rename_i d
    cases d <;> first | rfl | (exact absurd rfl (by first | exact hs _ rfl | exact ha _ _ rfl)) | (exact (hs _ rfl hu).elim) | (exact (ha _ _ rfl hu).elim)

/-! ### Plain operations -/
theorem asInt_run (k : IntKind) (n : Int) : (asIntOf (.int k n)).run P w = .ok (k, n) w := rfl

theorem beqB (a b : ByteArray) : (a.toList == b.toList) = decide (a = b) := by
  rw [← beq_toListBytes, Bool.eq_iff_iff]
  rw [beq_toListBytes]
  simp only [ByteArray.toList_eq, beq_iff_eq, decide_eq_true_eq]
  constructor
  · intro h
    cases a; cases b
    simp only at h
    exact congrArg ByteArray.mk (Array.toList_inj.1 h)
  · rintro rfl; rfl
theorem beqD {α : Type} [DecidableEq α] [BEq α] [LawfulBEq α] (a b : α) : (a == b) = decide (a = b) := by
  rw [Bool.eq_iff_iff]; simp

theorem vint_run {op : BinOp} {k : IntKind} {a b : Int} {v : Value} (h : vint op k a b = some v) (xt : Nat) :
    (binOp op xt (.int k a) (.int k b)).run P w = .ok v w := by
  cases op <;> simp only [vint] at h <;> first
    | (simp at h; done)
    | (split at h <;> simp at h; rename_i hb; subst h; simp [binOp, Op.intDiv, hb]; done)
    | (simp at h; subst h; simp [binOp, Op.intArith, Op.intBits, Op.intCmp, beqD, bne]; done)
theorem vstr_run {op : BinOp} {a b : ByteArray} {v : Value} (h : vstr op a b = some v) (xt : Nat) :
    (binOp op xt (.string a) (.string b)).run P w = .ok v w := by
  cases op <;> simp only [vstr] at h <;> first
    | (simp at h; done)
    | (split at h <;> simp at h; rename_i hb; subst h; simp only [binOp, Op.stringOp]; rw [if_neg (by omega)]; rfl)
    | (simp only [Option.some.injEq] at h; subst h; simp only [binOp, Op.stringOp, beqB, Sem.run_pure]; done)
theorem isBoolT_ty {xt : Nat} (ht : isBoolT P xt = true) : P.underlying xt = some .bool := by
  unfold isBoolT at ht
  split at ht <;> simp_all
theorem isStr_ty {xt : Nat} (ht : isStr P xt = true) : P.underlying xt = some .string := by
  unfold isStr at ht
  split at ht <;> simp_all
theorem intT_ty {xt : Nat} {k : IntKind} (ht : intT P xt = some k) : P.underlying xt = some (.int k) := by
  unfold intT at ht
  split at ht <;> simp_all
theorem vbool_run {op : BinOp} {a b : Bool} {v : Value} {xt : Nat} (ht : isBoolT P xt = true) (h : vbool op a b = some v) :
    (binOp op xt (.bool a) (.bool b)).run P w = .ok v w := by
  have hu := isBoolT_ty ht
  have e : ∀ d, (Op.equalIn (d + 1) xt (.bool a) (.bool b)).run P w = .ok (a == b) w := fun d => by simp [Op.equalIn, run_ty hu]
  cases op <;> simp only [vbool] at h <;> first
    | (simp at h; done)
    | skip
  all_goals
    simp only [Option.some.injEq] at h
    subst h
    simp only [binOp]
    simp [Op.equal, Op.maxDepth, e 9999, beqD]

theorem part_scalar {t : Nat} {d : TypeDesc} (h : P.underlying t = some d) (hd : (match d with | .struct _ | .array _ _ => true | _ => false) = false) {cs : Array Value} {i : Nat} {v : Value} (hv : cs[i]? = some v) :
    (part t cs i).run P w = .ok v w := by
  have hi : (isAgg t).run P w = .ok false w := by
    simp only [isAgg, Sem.run_bind, run_ty h, Result.andThen_ok]
    cases d <;> first | rfl | (simp at hd; done)
  simp only [part, Sem.run_bind, hi, Result.andThen_ok, hv]
  rfl

/-- Two keys are compared field by field. -/
theorem key_core {xt : Nat} (ht : keyT P xt = true) (x0 y0 : Bool) (x1 y1 : Int) (x2 y2 : ByteArray) :
    (Op.equalIn 10000 xt (.agg #[.bool x0, .int .i64 x1, .string x2]) (.agg #[.bool y0, .int .i64 y1, .string y2])).run P w = .ok (decide (x0 = y0 ∧ x1 = y1 ∧ x2 = y2)) w := by
  unfold keyT at ht
  split at ht
  case h_2 => simp at ht
  rename_i fs hu
  split at ht
  case h_2 => simp at ht
  rename_i f0 f1 f2 hfs
  obtain ⟨fs⟩ := fs
  simp only at hfs
  subst hfs
  simp only [Bool.and_eq_true, bne_iff_ne, ne_eq, beq_iff_eq, Bool.not_eq_true'] at ht
  obtain ⟨⟨⟨⟨⟨⟨⟨⟨⟨⟨n0, n1⟩, n2⟩, o0⟩, o1⟩, o2⟩, b0⟩, i1⟩, s2⟩, hst⟩, heq⟩ := ht
  have u0 := isBoolT_ty b0
  have u1 := intT_ty i1
  have u2 := isStr_ty s2
  have hf : P.fieldsOf xt = #[f0, f1, f2] := by unfold Program.fieldsOf; rw [hu]
  have e : ∀ d, (Op.equalIn (d + 2) xt (.agg #[.bool x0, .int .i64 x1, .string x2]) (.agg #[.bool y0, .int .i64 y1, .string y2])).run P w = .ok (decide (x0 = y0 ∧ x1 = y1 ∧ x2 = y2)) w := by
    intro d
    rw [run_equalIn_struct w (d + 1) xt _ _ (by rw [hf]; exact hu) hst, hf]
    simp only [Op.eqFields, n0, n1, n2, o0, o1, o2, ne_eq, not_false_eq_true, if_true, Sem.run_bind]
    rw [part_scalar u0 rfl (v := .bool x0) rfl]
    simp only [Result.andThen_ok]
    rw [part_scalar u0 rfl (v := .bool y0) rfl]
    simp only [Result.andThen_ok]
    rw [run_equalIn_bool' w d _ x0 y0 u0]
    simp only [Result.andThen_ok]
    by_cases h0 : x0 = y0
    · subst h0
      simp only [beq_self_eq_true, Bool.not_true, Bool.false_eq_true, if_false, Sem.run_bind]
      rw [part_scalar u1 rfl (v := .int .i64 x1) rfl]
      simp only [Result.andThen_ok]
      rw [part_scalar u1 rfl (v := .int .i64 y1) rfl]
      simp only [Result.andThen_ok]
      rw [run_equalIn_int w d _ .i64 .i64 x1 y1 u1]
      simp only [Result.andThen_ok]
      by_cases h1 : x1 = y1
      · subst h1
        simp only [beq_self_eq_true, Bool.not_true, Bool.false_eq_true, if_false, Sem.run_bind]
        rw [part_scalar u2 rfl (v := .string x2) rfl]
        simp only [Result.andThen_ok]
        rw [part_scalar u2 rfl (v := .string y2) rfl]
        simp only [Result.andThen_ok]
        rw [run_equalIn_string w d _ x2 y2 u2]
        simp only [Result.andThen_ok, beqB]
        by_cases h2 : x2 = y2 <;> simp [h2]
      · have hb : (x1 == y1) = false := by simp [h1]
        simp [hb, h1]
    · have hb : (x0 == y0) = false := by simp [h0]
      simp [hb, h0]
  exact e 9998
theorem vkey_run {op : BinOp} {a b : Array Value} {v : Value} {xt : Nat} (ht : keyT P xt = true) (h : vkey op a.toList b.toList = some v) (x y : Operand) :
    (eqGuard op xt x y (.agg a) (.agg b)).run P w = .ok () w ∧ (binOp op xt (.agg a) (.agg b)).run P w = .ok v w := by
  have ht0 := ht
  unfold keyT at ht
  split at ht
  case h_2 => simp at ht
  split at ht
  case h_2 => simp at ht
  simp only [Bool.and_eq_true, bne_iff_ne, ne_eq, beq_iff_eq, Bool.not_eq_true'] at ht
  refine ⟨run_eqGuard_agg w op xt x y a b ht.2, ?_⟩
  obtain ⟨la⟩ := a
  obtain ⟨lb⟩ := b
  have core := fun x0 y0 x1 y1 x2 y2 => key_core (w := w) ht0 x0 y0 x1 y1 x2 y2
  unfold vkey at h
  split at h
  · rename_i ha hb
    simp only at ha hb
    subst ha hb
    simp only [Option.some.injEq] at h
    subst h
    rw [run_eql_struct, core]
    rfl
  · rename_i ha hb
    simp only at ha hb
    subst ha hb
    simp only [Option.some.injEq] at h
    subst h
    rw [run_neq_struct, core]
    rfl
  · simp at h
end
end Go.Sx
