/-
  What spec.OpSymbol and impl.OpSymbol return: the symbol of an operator, the empty string for a number that is no operator; nothing is assumed.
-/
import Derived.Test.YtnlkjbpbkbhpnaaFacts
import Derived.Test.YtnlkjbpbkbhpnaaSxLaw
namespace Go.Proofs.Ytnlkjbpbkbhpnaa
open Go Go.Sx
theorem l1In_c (x lo hi : Int) (h : Hp) : ACalls Try.prog 21 #[.int .i64 x, .int .i64 lo, .int .i64 hi] h (Pu (.bool (decide (lo ≤ x ∧ x ≤ hi))) h) := by
  refine enter Try.func21 rfl rfl (by kernel_rfl) [] ?_
  simp only [go_sem, Nat.reduceBEq]
  refine Br.intro (fun hb => ?_) (fun hb => ?_) <;> simp only [go_sem, Nat.reduceBEq]
  · simp at hb; exact ⟨by simp [hb], rfl⟩
  · simp at hb; exact ⟨by simp; omega, rfl⟩

def syms : List ByteArray := [⟨#[43]⟩, ⟨#[45]⟩, ⟨#[42]⟩, ⟨#[47]⟩, ⟨#[37]⟩, ⟨#[46]⟩, ⟨#[61, 61]⟩, ⟨#[33, 61]⟩, ⟨#[61, 61, 61]⟩, ⟨#[33, 61, 61]⟩, ⟨#[60]⟩, ⟨#[60, 61]⟩, ⟨#[62]⟩, ⟨#[62, 61]⟩, ⟨#[60, 61, 62]⟩]
def opSym (op : Int) : ByteArray := if 1 ≤ op ∧ op ≤ 15 then syms.getD (op - 1).toNat ⟨#[]⟩ else ⟨#[]⟩
theorem iOpSymbol (op : Int) (h : Hp) : ACalls Try.prog 10 #[.int .i64 op] h (Is (.string (opSym op)) h) := by
  refine enter Try.func10 rfl rfl (by kernel_rfl) [] ?_
  simp only [go_sem, Nat.reduceBEq]
  refine mine_lit slT28 (by decide) (by decide) (by decide) rfl rfl (by simp [Value.cells]) rfl rfl fun v h1 m => ?_
  have m : Mine h h1 1 v (syms.map Value.string) := m
  simp only [go_sem, Nat.reduceBEq]
  refine Br.intro (fun h1 => ?_) (fun h1 => ?_) <;> simp only [go_sem, Nat.reduceBEq]
  · simp at h1; unfold opSym; rw [if_neg (by omega)]; exact ⟨rfl, m.ext⟩
  · refine Br.intro (fun h2 => ?_) (fun h2 => ?_) <;> simp only [go_sem, Nat.reduceBEq]
    · simp at h2; unfold opSym; rw [if_neg (by omega)]; exact ⟨rfl, m.ext⟩
    · simp at h1 h2
      obtain ⟨n, hn, rfl⟩ : ∃ n : Nat, n < 15 ∧ op = n + 1 := ⟨(op - 1).toNat, by omega, by omega⟩
      have hw : IntKind.i64.wrap ((n : Int) + 1 - 1) = (n : Int) := by rw [IntWalk.i64_in _ (by omega)]; omega
      obtain ⟨a, c, rfl, hc, ho⟩ := m.rd.slice 15 (by decide) rfl
      obtain ⟨b, off, rfl, hat⟩ := ho (by decide)
      simp only [go_sem, Nat.reduceBEq, hw, ixA_nat hn, Nat.mul_one]
      refine hsem_at1 (i := n) tyS9 hat (u := .string (opSym (n + 1))) ?_ rfl ?_
      · match n, hn with
        | 0, _ | 1, _ | 2, _ | 3, _ | 4, _ | 5, _ | 6, _ | 7, _ | 8, _ | 9, _ | 10, _ | 11, _ | 12, _ | 13, _ | 14, _ => rfl
      · simp only [go_sem, Nat.reduceBEq]; exact ⟨rfl, m.ext⟩
theorem sOpSymbol (op : Int) (h : Hp) : ACalls Try.prog 9 #[.int .i64 op] h (Is (.string (opSym op)) h) := by
  refine enter Try.func9 rfl rfl (by kernel_rfl) [] ?_
  simp only [go_sem, Nat.reduceBEq]
  refine (l1In_c _ _ _ _).mono ?_
  rintro _ _ ⟨rfl, rfl⟩
  simp only [go_sem, Nat.reduceBEq]
  refine Br.intro (fun h1 => ?_) (fun h1 => ?_) <;> simp only [go_sem, Nat.reduceBEq]
  · simp at h1; unfold opSym; rw [if_neg (by omega)]; exact ⟨rfl, Ext.refl _⟩
  · simp at h1
    refine mine_lit slT28 (by decide) (by decide) (by decide) rfl rfl (by simp [Value.cells]) rfl rfl fun v h1 m => ?_
    have m : Mine h h1 1 v ((⟨#[]⟩ :: syms).map Value.string) := m
    simp only [go_sem, Nat.reduceBEq]
    obtain ⟨n, hn, rfl⟩ : ∃ n : Nat, n < 16 ∧ op = n := ⟨op.toNat, by omega, by omega⟩
    obtain ⟨a, c, rfl, hc, ho⟩ := m.rd.slice 16 (by decide) rfl
    obtain ⟨b, off, rfl, hat⟩ := ho (by decide)
    simp only [go_sem, Nat.reduceBEq, ixA_nat hn, Nat.mul_one]
    refine hsem_at1 (i := n) tyS9 hat (u := .string (opSym n)) ?_ rfl ?_
    · match n, hn with
      | 0, _ | 1, _ | 2, _ | 3, _ | 4, _ | 5, _ | 6, _ | 7, _ | 8, _ | 9, _ | 10, _ | 11, _ | 12, _ | 13, _ | 14, _ | 15, _ => rfl
    · simp only [go_sem, Nat.reduceBEq]; exact ⟨rfl, m.ext⟩
end Go.Proofs.Ytnlkjbpbkbhpnaa
