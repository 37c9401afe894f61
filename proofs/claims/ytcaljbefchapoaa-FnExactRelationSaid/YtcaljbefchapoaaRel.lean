/-
  What spec.Relation and impl.Relation return; nothing is assumed.
-/
import Derived.Test.YtcaljbefchapoaaFacts
import Derived.Test.YtcaljbefchapoaaSxLaw
namespace Go.Proofs.Ytcaljbefchapoaa
open Go Go.Sx
/-- The relation 'op' of an order. -/
def rel (op order : Int) : Bool := if op = 7 then decide (order = 0) else if op = 8 then !decide (order = 0) else if op = 11 then decide (order = -1) else if op = 12 then decide (order = -1) || decide (order = 0) else if op = 13 then decide (order = 1) else if op = 14 then decide (order = 1) || decide (order = 0) else false
theorem iRelation (op order : Int) (h : Hp) : ACalls Try.prog 15 #[.int .i64 op, .int .i64 order] h (Is (.bool (rel op order)) h) := by
  refine enter Try.func15 rfl rfl (by kernel_rfl) [] ?_
  simp only [go_sem, Nat.reduceBEq]
  repeat' (refine Br.intro (fun hb => ?_) (fun hb => ?_) <;> (try simp only [hb, go_sem, Nat.reduceBEq]))
  all_goals (refine ⟨?_, Ext.refl _⟩; simp_all [rel])
theorem sRelation (op order : Int) (h : Hp) : ACalls Try.prog 14 #[.int .i64 op, .int .i64 order] h (Is (.bool (rel op order)) h) := by
  refine enter Try.func14 rfl rfl (by kernel_rfl) [] ?_
  simp only [go_sem, Nat.reduceBEq]
  repeat' (refine Br.intro (fun hb => ?_) (fun hb => ?_) <;> (try simp only [hb, go_sem, Nat.reduceBEq]))
  all_goals (refine ⟨?_, Ext.refl _⟩; simp_all [rel])
end Go.Proofs.Ytcaljbefchapoaa
