/-
  The closed facts on the program's types that the abstract machine asks, each by the kernel. Written by facts.py.
-/
import Derived.Test.YtcaljbefchapoaaRows
import Derived.Test.YtcaljbefchapoaaSxBag
namespace Go.Proofs.Ytcaljbefchapoaa
open Go Go.Sx
theorem tyS2 : tyS Try.prog 2 = some (false, 1) := by kernel_rfl
theorem zeroC2 : zeroC Try.prog 2 = some [Value.int .i64 0] := by kernel_rfl
theorem intT2 : intT Try.prog 2 = some .i64 := by kernel_rfl
theorem tyS3 : tyS Try.prog 3 = some (false, 1) := by kernel_rfl
theorem zeroC3 : zeroC Try.prog 3 = some [Value.int .i64 0] := by kernel_rfl
theorem intT3 : intT Try.prog 3 = some .i64 := by kernel_rfl
theorem tyS4 : tyS Try.prog 4 = some (false, 1) := by kernel_rfl
theorem zeroC4 : zeroC Try.prog 4 = some [Value.bool false] := by kernel_rfl
theorem isBool4 : isBoolT Try.prog 4 = true := by kernel_rfl
theorem tyS5 : tyS Try.prog 5 = some (false, 1) := by kernel_rfl
theorem zeroC5 : zeroC Try.prog 5 = some [Value.int .u8 0] := by kernel_rfl
theorem intT5 : intT Try.prog 5 = some .u8 := by kernel_rfl
theorem tyS9 : tyS Try.prog 9 = some (false, 1) := by kernel_rfl
theorem zeroC9 : zeroC Try.prog 9 = some [Value.string ⟨#[]⟩] := by kernel_rfl
theorem isStr9 : isStr Try.prog 9 = true := by kernel_rfl
theorem lenT9 : lenT Try.prog 9 = 0 := by kernel_rfl
theorem tyS12 : tyS Try.prog 12 = some (false, 1) := by kernel_rfl
theorem zeroC12 : zeroC Try.prog 12 = some [Value.int .u64 0] := by kernel_rfl
theorem intT12 : intT Try.prog 12 = some .u64 := by kernel_rfl
theorem tyS21 : tyS Try.prog 21 = some (false, 1) := by kernel_rfl
theorem zeroC21 : zeroC Try.prog 21 = some [Value.int .i32 0] := by kernel_rfl
theorem intT21 : intT Try.prog 21 = some .i32 := by kernel_rfl
theorem tyS28 : tyS Try.prog 28 = some (false, 1) := by kernel_rfl
theorem zeroC28 : zeroC Try.prog 28 = some [Value.slice none 0 0] := by kernel_rfl
theorem elS28 : elS Try.prog 28 = some 4 := by kernel_rfl
theorem lenT28 : lenT Try.prog 28 = 1 := by kernel_rfl
theorem slT28 : slT Try.prog 28 = some ⟨30, 4, 56, [Value.int .i64 0, Value.int .i64 0, Value.string ⟨#[]⟩, Value.slice none 0 0]⟩ := by kernel_rfl
theorem tyS29 : tyS Try.prog 29 = some (true, 4) := by kernel_rfl
theorem zeroC29 : zeroC Try.prog 29 = some [Value.int .i64 0, Value.int .i64 0, Value.string ⟨#[]⟩, Value.slice none 0 0] := by kernel_rfl
theorem plcs29 : plcs Try.prog 29 = some [(0, 1), (1, 1), (2, 1), (3, 1)] := by kernel_rfl
theorem tyS30 : tyS Try.prog 30 = some (true, 4) := by kernel_rfl
theorem zeroC30 : zeroC Try.prog 30 = some [Value.int .i64 0, Value.int .i64 0, Value.string ⟨#[]⟩, Value.slice none 0 0] := by kernel_rfl
theorem plcs30 : plcs Try.prog 30 = some [(0, 1), (1, 1), (2, 1), (3, 1)] := by kernel_rfl
theorem tyS33 : tyS Try.prog 33 = some (false, 1) := by kernel_rfl
theorem zeroC33 : zeroC Try.prog 33 = some [Value.slice none 0 0] := by kernel_rfl
theorem elS33 : elS Try.prog 33 = some 4 := by kernel_rfl
theorem lenT33 : lenT Try.prog 33 = 1 := by kernel_rfl
theorem slT33 : slT Try.prog 33 = some ⟨35, 4, 56, [Value.int .i64 0, Value.int .i64 0, Value.string ⟨#[]⟩, Value.slice none 0 0]⟩ := by kernel_rfl
theorem tyS34 : tyS Try.prog 34 = some (true, 4) := by kernel_rfl
theorem zeroC34 : zeroC Try.prog 34 = some [Value.int .i64 0, Value.int .i64 0, Value.string ⟨#[]⟩, Value.slice none 0 0] := by kernel_rfl
theorem plcs34 : plcs Try.prog 34 = some [(0, 1), (1, 1), (2, 1), (3, 1)] := by kernel_rfl
theorem tyS35 : tyS Try.prog 35 = some (true, 4) := by kernel_rfl
theorem zeroC35 : zeroC Try.prog 35 = some [Value.int .i64 0, Value.int .i64 0, Value.string ⟨#[]⟩, Value.slice none 0 0] := by kernel_rfl
theorem plcs35 : plcs Try.prog 35 = some [(0, 1), (1, 1), (2, 1), (3, 1)] := by kernel_rfl
theorem tyS61 : tyS Try.prog 61 = some (false, 1) := by kernel_rfl
theorem zeroC61 : zeroC Try.prog 61 = some [Value.slice none 0 0] := by kernel_rfl
theorem elS61 : elS Try.prog 61 = some 1 := by kernel_rfl
theorem lenT61 : lenT Try.prog 61 = 1 := by kernel_rfl
theorem slT61 : slT Try.prog 61 = some ⟨9, 1, 16, [Value.string ⟨#[]⟩]⟩ := by kernel_rfl
theorem tyS64 : tyS Try.prog 64 = some (false, 1) := by kernel_rfl
theorem zeroC64 : zeroC Try.prog 64 = some [Value.int .u64 0] := by kernel_rfl
theorem intT64 : intT Try.prog 64 = some .u64 := by kernel_rfl
theorem tyS65 : tyS Try.prog 65 = some (false, 1) := by kernel_rfl
theorem zeroC65 : zeroC Try.prog 65 = some [Value.int .u32 0] := by kernel_rfl
theorem intT65 : intT Try.prog 65 = some .u32 := by kernel_rfl
theorem tyS78 : tyS Try.prog 78 = some (false, 1) := by kernel_rfl
theorem zeroC78 : zeroC Try.prog 78 = some [Value.pointer none] := by kernel_rfl
attribute [go_sem] tyS2 zeroC2 intT2 tyS3 zeroC3 intT3 tyS4 zeroC4 isBool4 tyS5 zeroC5 intT5 tyS9 zeroC9 isStr9 lenT9 tyS12 zeroC12 intT12 tyS21 zeroC21 intT21 tyS28 zeroC28 elS28 lenT28 slT28 tyS29 zeroC29 plcs29 tyS30 zeroC30 plcs30 tyS33 zeroC33 elS33 lenT33 slT33 tyS34 zeroC34 plcs34 tyS35 zeroC35 plcs35 tyS61 zeroC61 elS61 lenT61 slT61 tyS64 zeroC64 intT64 tyS65 zeroC65 intT65 tyS78 zeroC78
end Go.Proofs.Ytcaljbefchapoaa
