/-
  The closed facts on the program's types that the abstract machine asks, each by the kernel. Written by facts.py.
-/
import Derived.Test.YtnlkjbpbkbhpnaaRows
import Derived.Test.YtnlkjbpbkbhpnaaSxOwn
namespace Go.Proofs.Ytnlkjbpbkbhpnaa
open Go Go.Sx
theorem tyS2 : tyS Try.prog 2 = some (false, 1) := by kernel_rfl
theorem zeroC2 : zeroC Try.prog 2 = some [Value.int .i64 0] := by kernel_rfl
theorem intT2 : intT Try.prog 2 = some .i64 := by kernel_rfl
theorem tyS3 : tyS Try.prog 3 = some (false, 1) := by kernel_rfl
theorem zeroC3 : zeroC Try.prog 3 = some [Value.int .i64 0] := by kernel_rfl
theorem intT3 : intT Try.prog 3 = some .i64 := by kernel_rfl
theorem tyS4 : tyS Try.prog 4 = some (false, 1) := by kernel_rfl
theorem zeroC4 : zeroC Try.prog 4 = some [Value.bool false] := by kernel_rfl
theorem isBool4 : isBoolT Try.prog 4 = true := by kernel_rfl
theorem tyS5 : tyS Try.prog 5 = some (false, 1) := by kernel_rfl
theorem zeroC5 : zeroC Try.prog 5 = some [Value.int .u8 0] := by kernel_rfl
theorem intT5 : intT Try.prog 5 = some .u8 := by kernel_rfl
theorem tyS9 : tyS Try.prog 9 = some (false, 1) := by kernel_rfl
theorem zeroC9 : zeroC Try.prog 9 = some [Value.string ⟨#[]⟩] := by kernel_rfl
theorem isStr9 : isStr Try.prog 9 = true := by kernel_rfl
theorem lenT9 : lenT Try.prog 9 = 0 := by kernel_rfl
theorem tyS12 : tyS Try.prog 12 = some (false, 1) := by kernel_rfl
theorem zeroC12 : zeroC Try.prog 12 = some [Value.int .u64 0] := by kernel_rfl
theorem intT12 : intT Try.prog 12 = some .u64 := by kernel_rfl
theorem tyS21 : tyS Try.prog 21 = some (false, 1) := by kernel_rfl
theorem zeroC21 : zeroC Try.prog 21 = some [Value.int .i32 0] := by kernel_rfl
theorem intT21 : intT Try.prog 21 = some .i32 := by kernel_rfl
theorem tyS28 : tyS Try.prog 28 = some (false, 1) := by kernel_rfl
theorem zeroC28 : zeroC Try.prog 28 = some [Value.slice none 0 0] := by kernel_rfl
theorem elS28 : elS Try.prog 28 = some 1 := by kernel_rfl
theorem lenT28 : lenT Try.prog 28 = 1 := by kernel_rfl
theorem slT28 : slT Try.prog 28 = some ⟨9, 1, 16, [Value.string ⟨#[]⟩]⟩ := by kernel_rfl
theorem tyS29 : tyS Try.prog 29 = some (false, 1) := by kernel_rfl
theorem zeroC29 : zeroC Try.prog 29 = some [Value.slice none 0 0] := by kernel_rfl
theorem elS29 : elS Try.prog 29 = some 1 := by kernel_rfl
theorem lenT29 : lenT Try.prog 29 = 1 := by kernel_rfl
theorem bytT29 : bytT Try.prog 29 = true := by kernel_rfl
theorem slT29 : slT Try.prog 29 = some ⟨5, 1, 1, [Value.int .u8 0]⟩ := by kernel_rfl
theorem tyS39 : tyS Try.prog 39 = some (false, 1) := by kernel_rfl
theorem zeroC39 : zeroC Try.prog 39 = some [Value.int .u32 0] := by kernel_rfl
theorem intT39 : intT Try.prog 39 = some .u32 := by kernel_rfl
theorem tyS43 : tyS Try.prog 43 = some (false, 1) := by kernel_rfl
theorem zeroC43 : zeroC Try.prog 43 = some [Value.pointer none] := by kernel_rfl
attribute [go_sem] tyS2 zeroC2 intT2 tyS3 zeroC3 intT3 tyS4 zeroC4 isBool4 tyS5 zeroC5 intT5 tyS9 zeroC9 isStr9 lenT9 tyS12 zeroC12 intT12 tyS21 zeroC21 intT21 tyS28 zeroC28 elS28 lenT28 slT28 tyS29 zeroC29 elS29 lenT29 bytT29 slT29 tyS39 zeroC39 intT39 tyS43 zeroC43
end Go.Proofs.Ytnlkjbpbkbhpnaa
