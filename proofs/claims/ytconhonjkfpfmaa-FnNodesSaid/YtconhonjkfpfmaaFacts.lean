/-
  The closed facts on the program's types that the abstract machine asks, each by the kernel. Written by facts.py.
-/
import Derived.Test.YtconhonjkfpfmaaRows
import Derived.Test.YtconhonjkfpfmaaSxBag
namespace Go.Proofs.Ytconhonjkfpfmaa
open Go Go.Sx
theorem tyS2 : tyS Try.prog 2 = some (false, 1) := by kernel_rfl
theorem zeroC2 : zeroC Try.prog 2 = some [Value.int .i64 0] := by kernel_rfl
theorem intT2 : intT Try.prog 2 = some .i64 := by kernel_rfl
theorem tyS3 : tyS Try.prog 3 = some (false, 1) := by kernel_rfl
theorem zeroC3 : zeroC Try.prog 3 = some [Value.int .i64 0] := by kernel_rfl
theorem intT3 : intT Try.prog 3 = some .i64 := by kernel_rfl
theorem tyS4 : tyS Try.prog 4 = some (false, 1) := by kernel_rfl
theorem zeroC4 : zeroC Try.prog 4 = some [Value.bool false] := by kernel_rfl
theorem isBool4 : isBoolT Try.prog 4 = true := by kernel_rfl
theorem tyS5 : tyS Try.prog 5 = some (false, 1) := by kernel_rfl
theorem zeroC5 : zeroC Try.prog 5 = some [Value.int .u8 0] := by kernel_rfl
theorem intT5 : intT Try.prog 5 = some .u8 := by kernel_rfl
theorem tyS9 : tyS Try.prog 9 = some (false, 1) := by kernel_rfl
theorem zeroC9 : zeroC Try.prog 9 = some [Value.string ⟨#[]⟩] := by kernel_rfl
theorem isStr9 : isStr Try.prog 9 = true := by kernel_rfl
theorem lenT9 : lenT Try.prog 9 = 0 := by kernel_rfl
theorem tyS12 : tyS Try.prog 12 = some (false, 1) := by kernel_rfl
theorem zeroC12 : zeroC Try.prog 12 = some [Value.int .u64 0] := by kernel_rfl
theorem intT12 : intT Try.prog 12 = some .u64 := by kernel_rfl
theorem tyS21 : tyS Try.prog 21 = some (false, 1) := by kernel_rfl
theorem zeroC21 : zeroC Try.prog 21 = some [Value.int .i32 0] := by kernel_rfl
theorem intT21 : intT Try.prog 21 = some .i32 := by kernel_rfl
theorem tyS22 : tyS Try.prog 22 = some (false, 1) := by kernel_rfl
theorem zeroC22 : zeroC Try.prog 22 = some [Value.slice none 0 0] := by kernel_rfl
theorem elS22 : elS Try.prog 22 = some 1 := by kernel_rfl
theorem lenT22 : lenT Try.prog 22 = 1 := by kernel_rfl
theorem bytT22 : bytT Try.prog 22 = true := by kernel_rfl
theorem slT22 : slT Try.prog 22 = some ⟨5, 1, 1, [Value.int .u8 0]⟩ := by kernel_rfl
theorem tyS24 : tyS Try.prog 24 = some (false, 1) := by kernel_rfl
theorem zeroC24 : zeroC Try.prog 24 = some [Value.slice none 0 0] := by kernel_rfl
theorem elS24 : elS Try.prog 24 = some 4 := by kernel_rfl
theorem lenT24 : lenT Try.prog 24 = 1 := by kernel_rfl
theorem slT24 : slT Try.prog 24 = some ⟨26, 4, 56, [Value.int .i64 0, Value.int .i64 0, Value.string ⟨#[]⟩, Value.slice none 0 0]⟩ := by kernel_rfl
theorem tyS25 : tyS Try.prog 25 = some (true, 4) := by kernel_rfl
theorem zeroC25 : zeroC Try.prog 25 = some [Value.int .i64 0, Value.int .i64 0, Value.string ⟨#[]⟩, Value.slice none 0 0] := by kernel_rfl
theorem plcs25 : plcs Try.prog 25 = some [(0, 1), (1, 1), (2, 1), (3, 1)] := by kernel_rfl
theorem tyS26 : tyS Try.prog 26 = some (true, 4) := by kernel_rfl
theorem zeroC26 : zeroC Try.prog 26 = some [Value.int .i64 0, Value.int .i64 0, Value.string ⟨#[]⟩, Value.slice none 0 0] := by kernel_rfl
theorem plcs26 : plcs Try.prog 26 = some [(0, 1), (1, 1), (2, 1), (3, 1)] := by kernel_rfl
theorem tyS34 : tyS Try.prog 34 = some (false, 1) := by kernel_rfl
theorem zeroC34 : zeroC Try.prog 34 = some [Value.pointer none] := by kernel_rfl
theorem tyS40 : tyS Try.prog 40 = some (true, 3) := by kernel_rfl
theorem zeroC40 : zeroC Try.prog 40 = some [Value.slice none 0 0, Value.int .i64 0, Value.int .i64 0] := by kernel_rfl
theorem plcs40 : plcs Try.prog 40 = some [(0, 1), (1, 1), (2, 1)] := by kernel_rfl
theorem tyS41 : tyS Try.prog 41 = some (true, 3) := by kernel_rfl
theorem zeroC41 : zeroC Try.prog 41 = some [Value.slice none 0 0, Value.int .i64 0, Value.int .i64 0] := by kernel_rfl
theorem plcs41 : plcs Try.prog 41 = some [(0, 1), (1, 1), (2, 1)] := by kernel_rfl
theorem tyS45 : tyS Try.prog 45 = some (false, 1) := by kernel_rfl
theorem zeroC45 : zeroC Try.prog 45 = some [Value.slice none 0 0] := by kernel_rfl
theorem elS45 : elS Try.prog 45 = some 1 := by kernel_rfl
theorem lenT45 : lenT Try.prog 45 = 1 := by kernel_rfl
theorem slT45 : slT Try.prog 45 = some ⟨3, 1, 8, [Value.int .i64 0]⟩ := by kernel_rfl
theorem tyS47 : tyS Try.prog 47 = some (false, 1) := by kernel_rfl
theorem zeroC47 : zeroC Try.prog 47 = some [Value.slice none 0 0] := by kernel_rfl
theorem elS47 : elS Try.prog 47 = some 1 := by kernel_rfl
theorem lenT47 : lenT Try.prog 47 = 1 := by kernel_rfl
theorem slT47 : slT Try.prog 47 = some ⟨9, 1, 16, [Value.string ⟨#[]⟩]⟩ := by kernel_rfl
theorem tyS60 : tyS Try.prog 60 = some (false, 1) := by kernel_rfl
theorem zeroC60 : zeroC Try.prog 60 = some [Value.int .u64 0] := by kernel_rfl
theorem intT60 : intT Try.prog 60 = some .u64 := by kernel_rfl
theorem tyS65 : tyS Try.prog 65 = some (false, 1) := by kernel_rfl
theorem zeroC65 : zeroC Try.prog 65 = some [Value.int .u32 0] := by kernel_rfl
theorem intT65 : intT Try.prog 65 = some .u32 := by kernel_rfl
theorem tyS78 : tyS Try.prog 78 = some (false, 1) := by kernel_rfl
theorem zeroC78 : zeroC Try.prog 78 = some [Value.pointer none] := by kernel_rfl
attribute [go_sem] tyS2 zeroC2 intT2 tyS3 zeroC3 intT3 tyS4 zeroC4 isBool4 tyS5 zeroC5 intT5 tyS9 zeroC9 isStr9 lenT9 tyS12 zeroC12 intT12 tyS21 zeroC21 intT21 tyS22 zeroC22 elS22 lenT22 bytT22 slT22 tyS24 zeroC24 elS24 lenT24 slT24 tyS25 zeroC25 plcs25 tyS26 zeroC26 plcs26 tyS34 zeroC34 tyS40 zeroC40 plcs40 tyS41 zeroC41 plcs41 tyS45 zeroC45 elS45 lenT45 slT45 tyS47 zeroC47 elS47 lenT47 slT47 tyS60 zeroC60 intT60 tyS65 zeroC65 intT65 tyS78 zeroC78
end Go.Proofs.Ytconhonjkfpfmaa
