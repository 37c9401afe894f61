/-
  What ToText of the program and of the reference return.
-/
import Derived.Test.YtconhonjkfpfmaaDoorFmt
import Derived.Test.YtconhonjkfpfmaaDoorSxMathV
namespace Go.Proofs.YtconhonjkfpfmaaDoor
set_option maxRecDepth 8000
open Go Go.Sx
/-- the text of a value, and an error's number -/
def V.toText (v : V) : ByteArray × Int := if v.kind = 0 then (⟨#[]⟩, 0) else if v.kind = 1 then (if v.num = 0 then (⟨#[]⟩, 0) else (⟨#[49]⟩, 0)) else if v.kind = 2 then (⟨(Lib.itoa v.num).toArray⟩, 0) else if v.kind = 3 then (v.str, 0) else (⟨#[]⟩, 1)
theorem iToText (v : V) (hn : IntKind.i64.min ≤ v.num ∧ v.num ≤ IntKind.i64.max) (sl : Value) (h : Hp) (rd : RdE h v.items sl) (hT : Pow h) : ACalls Tryd.prog 18 #[.agg #[.int .i64 v.kind, .int .i64 v.num, .string v.str, .int .i64 v.next, sl]] h (Is (.tuple #[.string (V.toText v).1, .int .i64 (V.toText v).2]) h) := by
  obtain ⟨a, c, xs, rfl, _⟩ := rd.rows (by decide) v.items.length (fm_len edt_len _)
  clear rd
  (refine enter Tryd.func18 rfl rfl (by kernel_rfl) [] ?_; simp only [go_sem, Nat.reduceBEq])
  refine Br.intro (fun k0 => ?_) (fun k0 => ?_) <;> (try simp only [k0, go_sem, Nat.reduceBEq])
  · exact ⟨by unfold V.toText; rw [if_pos (of_decide_eq_true k0)], Ext.refl _⟩
  have k0 := of_decide_eq_false k0
  refine Br.intro (fun k1 => ?_) (fun k1 => ?_) <;> (try simp only [k1, go_sem, Nat.reduceBEq])
  · have k1 := of_decide_eq_true k1
    refine Br.intro (fun k2 => ?_) (fun k2 => ?_) <;> (try simp only [k2, go_sem, Nat.reduceBEq])
    · have k2 : ¬ v.num = 0 := by simpa using k2
      exact ⟨by unfold V.toText; rw [if_neg k0, if_pos k1, if_neg k2], Ext.refl _⟩
    · have k2 : v.num = 0 := by simpa using k2
      exact ⟨by unfold V.toText; rw [if_neg k0, if_pos k1, if_pos k2], Ext.refl _⟩
  have k1 := of_decide_eq_false k1
  refine Br.intro (fun k2 => ?_) (fun k2 => ?_) <;> (try simp only [k2, go_sem, Nat.reduceBEq])
  · have k2 := of_decide_eq_true k2
    refine (iFormatInt v.num hn _ hT).mono ?_
    rintro _ h1 ⟨rfl, e1⟩
    simp only [go_sem, Nat.reduceBEq]
    exact ⟨by unfold V.toText; rw [if_neg k0, if_neg k1, if_pos k2], e1⟩
  have k2 := of_decide_eq_false k2
  refine Br.intro (fun k3 => ?_) (fun k3 => ?_) <;> (try simp only [k3, go_sem, Nat.reduceBEq])
  · have k3 := of_decide_eq_true k3
    exact ⟨by unfold V.toText; rw [if_neg k0, if_neg k1, if_neg k2, if_pos k3], Ext.refl _⟩
  have k3 := of_decide_eq_false k3
  exact ⟨by unfold V.toText; rw [if_neg k0, if_neg k1, if_neg k2, if_neg k3], Ext.refl _⟩
theorem sToText (v : V) (hn : IntKind.i64.min ≤ v.num ∧ v.num ≤ IntKind.i64.max) (sl : Value) (h : Hp) (rd : RdE h v.items sl) (hT : Pow h) : ACalls Tryd.prog 98 #[.agg #[.int .i64 v.kind, .int .i64 v.num, .string v.str, .int .i64 v.next, sl]] h (Is (.tuple #[.string (V.toText v).1, .int .i64 (V.toText v).2]) h) := by
  obtain ⟨a, c, xs, rfl, _⟩ := rd.rows (by decide) v.items.length (fm_len edt_len _)
  clear rd
  (refine enter Tryd.func98 rfl rfl (by kernel_rfl) [] ?_; simp only [go_sem, Nat.reduceBEq])
  refine Br.intro (fun k0 => ?_) (fun k0 => ?_) <;> (try simp only [k0, go_sem, Nat.reduceBEq])
  · exact ⟨by unfold V.toText; rw [if_pos (of_decide_eq_true k0)], Ext.refl _⟩
  have k0 := of_decide_eq_false k0
  refine Br.intro (fun k1 => ?_) (fun k1 => ?_) <;> (try simp only [k1, go_sem, Nat.reduceBEq])
  · have k1 := of_decide_eq_true k1
    refine Br.intro (fun k2 => ?_) (fun k2 => ?_) <;> (try simp only [k2, go_sem, Nat.reduceBEq])
    · have k2 : ¬ v.num = 0 := by simpa using k2
      exact ⟨by unfold V.toText; rw [if_neg k0, if_pos k1, if_neg k2], Ext.refl _⟩
    · have k2 : v.num = 0 := by simpa using k2
      exact ⟨by unfold V.toText; rw [if_neg k0, if_pos k1, if_pos k2], Ext.refl _⟩
  have k1 := of_decide_eq_false k1
  refine Br.intro (fun k2 => ?_) (fun k2 => ?_) <;> (try simp only [k2, go_sem, Nat.reduceBEq])
  · have k2 := of_decide_eq_true k2
    refine (sFormatInt v.num hn _).mono ?_
    rintro _ h1 ⟨rfl, e1⟩
    simp only [go_sem, Nat.reduceBEq]
    exact ⟨by unfold V.toText; rw [if_neg k0, if_neg k1, if_pos k2], e1⟩
  have k2 := of_decide_eq_false k2
  refine Br.intro (fun k3 => ?_) (fun k3 => ?_) <;> (try simp only [k3, go_sem, Nat.reduceBEq])
  · have k3 := of_decide_eq_true k3
    exact ⟨by unfold V.toText; rw [if_neg k0, if_neg k1, if_neg k2, if_pos k3], Ext.refl _⟩
  have k3 := of_decide_eq_false k3
  exact ⟨by unfold V.toText; rw [if_neg k0, if_neg k1, if_neg k2, if_neg k3], Ext.refl _⟩
end Go.Proofs.YtconhonjkfpfmaaDoor
