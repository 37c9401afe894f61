/-
  The closed facts on the program's types that the abstract machine asks, each by the kernel. Written by facts.py.
-/
import Derived.Test.YtcaljbefchapoaaDoorRows
import Derived.Test.YtcaljbefchapoaaDoorSxBag
namespace Go.Proofs.YtcaljbefchapoaaDoor
open Go Go.Sx
theorem tyS2 : tyS Tryd.prog 2 = some (false, 1) := by kernel_rfl
theorem zeroC2 : zeroC Tryd.prog 2 = some [Value.int .i64 0] := by kernel_rfl
theorem intT2 : intT Tryd.prog 2 = some .i64 := by kernel_rfl
theorem tyS3 : tyS Tryd.prog 3 = some (false, 1) := by kernel_rfl
theorem zeroC3 : zeroC Tryd.prog 3 = some [Value.int .i64 0] := by kernel_rfl
theorem intT3 : intT Tryd.prog 3 = some .i64 := by kernel_rfl
theorem tyS4 : tyS Tryd.prog 4 = some (false, 1) := by kernel_rfl
theorem zeroC4 : zeroC Tryd.prog 4 = some [Value.bool false] := by kernel_rfl
theorem isBool4 : isBoolT Tryd.prog 4 = true := by kernel_rfl
theorem tyS5 : tyS Tryd.prog 5 = some (false, 1) := by kernel_rfl
theorem zeroC5 : zeroC Tryd.prog 5 = some [Value.int .u8 0] := by kernel_rfl
theorem intT5 : intT Tryd.prog 5 = some .u8 := by kernel_rfl
theorem tyS9 : tyS Tryd.prog 9 = some (false, 1) := by kernel_rfl
theorem zeroC9 : zeroC Tryd.prog 9 = some [Value.string ⟨#[]⟩] := by kernel_rfl
theorem isStr9 : isStr Tryd.prog 9 = true := by kernel_rfl
theorem lenT9 : lenT Tryd.prog 9 = 0 := by kernel_rfl
theorem tyS12 : tyS Tryd.prog 12 = some (false, 1) := by kernel_rfl
theorem zeroC12 : zeroC Tryd.prog 12 = some [Value.int .u64 0] := by kernel_rfl
theorem intT12 : intT Tryd.prog 12 = some .u64 := by kernel_rfl
theorem tyS21 : tyS Tryd.prog 21 = some (false, 1) := by kernel_rfl
theorem zeroC21 : zeroC Tryd.prog 21 = some [Value.int .i32 0] := by kernel_rfl
theorem intT21 : intT Tryd.prog 21 = some .i32 := by kernel_rfl
theorem tyS22 : tyS Tryd.prog 22 = some (true, 4) := by kernel_rfl
theorem zeroC22 : zeroC Tryd.prog 22 = some [Value.int .i64 0, Value.int .i64 0, Value.string ⟨#[]⟩, Value.int .i64 0] := by kernel_rfl
theorem plcs22 : plcs Tryd.prog 22 = some [(0, 1), (1, 1), (2, 1), (3, 1)] := by kernel_rfl
theorem tyS23 : tyS Tryd.prog 23 = some (true, 4) := by kernel_rfl
theorem zeroC23 : zeroC Tryd.prog 23 = some [Value.int .i64 0, Value.int .i64 0, Value.string ⟨#[]⟩, Value.int .i64 0] := by kernel_rfl
theorem plcs23 : plcs Tryd.prog 23 = some [(0, 1), (1, 1), (2, 1), (3, 1)] := by kernel_rfl
theorem tyS26 : tyS Tryd.prog 26 = some (true, 4) := by kernel_rfl
theorem zeroC26 : zeroC Tryd.prog 26 = some [Value.int .i64 0, Value.int .i64 0, Value.string ⟨#[]⟩, Value.int .i64 0] := by kernel_rfl
theorem plcs26 : plcs Tryd.prog 26 = some [(0, 1), (1, 1), (2, 1), (3, 1)] := by kernel_rfl
theorem tyS31 : tyS Tryd.prog 31 = some (false, 1) := by kernel_rfl
theorem zeroC31 : zeroC Tryd.prog 31 = some [Value.slice none 0 0] := by kernel_rfl
theorem elS31 : elS Tryd.prog 31 = some 1 := by kernel_rfl
theorem lenT31 : lenT Tryd.prog 31 = 1 := by kernel_rfl
theorem bytT31 : bytT Tryd.prog 31 = true := by kernel_rfl
theorem slT31 : slT Tryd.prog 31 = some ⟨5, 1, 1, [Value.int .u8 0]⟩ := by kernel_rfl
theorem tyS34 : tyS Tryd.prog 34 = some (false, 1) := by kernel_rfl
theorem zeroC34 : zeroC Tryd.prog 34 = some [Value.int .u64 0] := by kernel_rfl
theorem intT34 : intT Tryd.prog 34 = some .u64 := by kernel_rfl
theorem tyS42 : tyS Tryd.prog 42 = some (false, 1) := by kernel_rfl
theorem zeroC42 : zeroC Tryd.prog 42 = some [Value.int .u32 0] := by kernel_rfl
theorem intT42 : intT Tryd.prog 42 = some .u32 := by kernel_rfl
theorem tyS45 : tyS Tryd.prog 45 = some (false, 1) := by kernel_rfl
theorem zeroC45 : zeroC Tryd.prog 45 = some [Value.int .u64 0] := by kernel_rfl
theorem intT45 : intT Tryd.prog 45 = some .u64 := by kernel_rfl
theorem tyS60 : tyS Tryd.prog 60 = some (false, 1) := by kernel_rfl
theorem zeroC60 : zeroC Tryd.prog 60 = some [Value.pointer none] := by kernel_rfl
attribute [go_sem] tyS2 zeroC2 intT2 tyS3 zeroC3 intT3 tyS4 zeroC4 isBool4 tyS5 zeroC5 intT5 tyS9 zeroC9 isStr9 lenT9 tyS12 zeroC12 intT12 tyS21 zeroC21 intT21 tyS22 zeroC22 plcs22 tyS23 zeroC23 plcs23 tyS26 zeroC26 plcs26 tyS31 zeroC31 elS31 lenT31 bytT31 slT31 tyS34 zeroC34 intT34 tyS42 zeroC42 intT42 tyS45 zeroC45 intT45 tyS60 zeroC60
end Go.Proofs.YtcaljbefchapoaaDoor
