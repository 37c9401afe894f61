/-
  What spec.ErrorName and impl.ErrorName return: the name of an error's number, the empty string for every other number; nothing is assumed.
-/
import Derived.Test.YtnlkjbpbkbhpnaaOps
namespace Go.Proofs.Ytnlkjbpbkbhpnaa
open Go Go.Sx
def errs : List ByteArray := [⟨#[]⟩, ⟨#[116, 101, 120, 116]⟩, ⟨#[110, 117, 109, 98, 101, 114]⟩, ⟨#[111, 118, 101, 114, 102, 108, 111, 119]⟩, ⟨#[122, 101, 114, 111]⟩, ⟨#[107, 101, 121]⟩, ⟨#[105, 110, 100, 101, 120]⟩, ⟨#[102, 117, 108, 108]⟩, ⟨#[97, 114, 103, 115]⟩, ⟨#[109, 101, 109, 111, 114, 121]⟩, ⟨#[111, 117, 116, 112, 117, 116]⟩]
def errName (code : Int) : ByteArray := if 0 ≤ code ∧ code ≤ 10 then errs.getD code.toNat ⟨#[]⟩ else ⟨#[]⟩
theorem iErrorName (code : Int) (h : Hp) : ACalls Try.prog 20 #[.int .i64 code] h (Is (.string (errName code)) h) := by
  refine enter Try.func20 rfl rfl (by kernel_rfl) [] ?_
  simp only [go_sem, Nat.reduceBEq]
  refine Br.intro (fun h0 => ?_) (fun h0 => ?_) <;> simp only [go_sem, Nat.reduceBEq]
  · simp at h0; subst h0; exact ⟨rfl, Ext.refl _⟩
  refine Br.intro (fun h1 => ?_) (fun h1 => ?_) <;> simp only [go_sem, Nat.reduceBEq]
  · simp at h1; subst h1; exact ⟨rfl, Ext.refl _⟩
  refine Br.intro (fun h2 => ?_) (fun h2 => ?_) <;> simp only [go_sem, Nat.reduceBEq]
  · simp at h2; subst h2; exact ⟨rfl, Ext.refl _⟩
  refine Br.intro (fun h3 => ?_) (fun h3 => ?_) <;> simp only [go_sem, Nat.reduceBEq]
  · simp at h3; subst h3; exact ⟨rfl, Ext.refl _⟩
  refine Br.intro (fun h4 => ?_) (fun h4 => ?_) <;> simp only [go_sem, Nat.reduceBEq]
  · simp at h4; subst h4; exact ⟨rfl, Ext.refl _⟩
  refine Br.intro (fun h5 => ?_) (fun h5 => ?_) <;> simp only [go_sem, Nat.reduceBEq]
  · simp at h5; subst h5; exact ⟨rfl, Ext.refl _⟩
  refine Br.intro (fun h6 => ?_) (fun h6 => ?_) <;> simp only [go_sem, Nat.reduceBEq]
  · simp at h6; subst h6; exact ⟨rfl, Ext.refl _⟩
  refine Br.intro (fun h7 => ?_) (fun h7 => ?_) <;> simp only [go_sem, Nat.reduceBEq]
  · simp at h7; subst h7; exact ⟨rfl, Ext.refl _⟩
  refine Br.intro (fun h8 => ?_) (fun h8 => ?_) <;> simp only [go_sem, Nat.reduceBEq]
  · simp at h8; subst h8; exact ⟨rfl, Ext.refl _⟩
  refine Br.intro (fun h9 => ?_) (fun h9 => ?_) <;> simp only [go_sem, Nat.reduceBEq]
  · simp at h9; subst h9; exact ⟨rfl, Ext.refl _⟩
  refine ⟨?_, Ext.refl _⟩
  simp at h0 h1 h2 h3 h4 h5 h6 h7 h8 h9
  unfold errName
  split
  · obtain ⟨n, rfl⟩ : ∃ n : Nat, code = n := ⟨code.toNat, by omega⟩
    have hn : n = 0 := by omega
    subst hn
    rfl
  · rfl
theorem sErrorName (code : Int) (h : Hp) : ACalls Try.prog 19 #[.int .i64 code] h (Is (.string (errName code)) h) := by
  refine enter Try.func19 rfl rfl (by kernel_rfl) [] ?_
  simp only [go_sem, Nat.reduceBEq]
  refine (l1In_c _ _ _ _).mono ?_
  rintro _ _ ⟨rfl, rfl⟩
  simp only [go_sem, Nat.reduceBEq]
  refine Br.intro (fun h1 => ?_) (fun h1 => ?_) <;> simp only [go_sem, Nat.reduceBEq]
  · simp at h1; unfold errName; rw [if_neg (by omega)]; exact ⟨rfl, Ext.refl _⟩
  · simp at h1
    refine mine_lit slT28 (by decide) (by decide) (by decide) rfl rfl (by simp [Value.cells]) rfl rfl fun v h1 m => ?_
    have m : Mine _ h1 1 v (errs.map Value.string) := m
    simp only [go_sem, Nat.reduceBEq]
    obtain ⟨n, hn, rfl⟩ : ∃ n : Nat, n < 11 ∧ code = n := ⟨code.toNat, by omega, by omega⟩
    obtain ⟨a, c, rfl, hc, ho⟩ := m.rd.slice 11 (by decide) rfl
    obtain ⟨b, off, rfl, hat⟩ := ho (by decide)
    simp only [go_sem, Nat.reduceBEq, ixA_nat hn, Nat.mul_one]
    refine hsem_at1 (i := n) tyS9 hat (u := .string (errName n)) ?_ rfl ?_
    · match n, hn with
      | 0, _ | 1, _ | 2, _ | 3, _ | 4, _ | 5, _ | 6, _ | 7, _ | 8, _ | 9, _ | 10, _ => rfl
    · simp only [go_sem, Nat.reduceBEq]; exact ⟨rfl, m.ext⟩
end Go.Proofs.Ytnlkjbpbkbhpnaa
