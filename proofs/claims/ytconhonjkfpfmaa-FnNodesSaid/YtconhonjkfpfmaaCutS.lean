/-
  strings.Cut and strings.Contains by the shelf's contracts, and the variable of the library's that they read.
-/
import Derived.Test.YtconhonjkfpfmaaFacts
import Derived.Test.YtconhonjkfpfmaaSxTree5
import Derived.Test.YtconhonjkfpfmaaSxVars
import Derived.Test.YtconhonjkfpfmaaShelf
namespace Go.Proofs.Ytconhonjkfpfmaa
set_option maxRecDepth 8000
open Go Go.Sx
def Mx (h : Hp) : Prop := ∃ m : Int, At h ⟨0, 0, none⟩ [.int .i64 m]
theorem Mx.ext {h h' : Hp} (t : Mx h) (e : Ext h h') : Mx h' := by
  obtain ⟨m, k⟩ := t
  exact ⟨m, k.mono e⟩
theorem cut_c (s : ByteArray) (hs : s.size ≤ 1048576) (h : Hp) (hM : Mx h) : ACalls Try.prog 50 #[.string s, .string cc] h (Pu (.tuple #[.string (cutB s).1, .string (cutB s).2.1, .bool (cutB s).2.2]) h) := by
  obtain ⟨m, hm⟩ := hM
  exact acalls_below (by kernel_rfl) fun w s' => (Try.strings_Cut s cc m w (by omega) (cell_of_at s' hm)).mono fun e w' ⟨he, n, hw⟩ => ⟨he, by subst hw; exact below_drew w n⟩
theorem has_c (s : ByteArray) (hs : s.size ≤ 1048576) (h : Hp) (hM : Mx h) : ACalls Try.prog 36 #[.string s, .string lq] h (Pu (.bool (Lib.contains s.data.toList lq.data.toList)) h) := by
  obtain ⟨m, hm⟩ := hM
  exact acalls_below (by kernel_rfl) fun w s' => (Try.strings_Contains s lq m w (by omega) (cell_of_at s' hm)).mono fun e w' ⟨he, hw⟩ => ⟨he, by subst hw; exact below_drew w' 0⟩
theorem mx_of {W : World} (h : W.ShapedOpen Try.prog) : Mx (vis W) := by
  obtain ⟨m, hm⟩ := cell_of_shapedOpen_int (g := 0) (t := 3) (zero := #[.int .i64 0]) h (of_decide_eq_true (by kernel_rfl)) (by kernel_rfl) rfl (by kernel_rfl) (by kernel_rfl) Try.underlying3
  exact ⟨m, at_of_cell hm⟩
end Go.Proofs.Ytconhonjkfpfmaa
