/-
  The closed facts on the program's types that the abstract machine asks, each by the kernel. Written by facts.py.
-/
import Derived.Test.YtpfongmnmcmnaaaGreatDoorRows
import Derived.Test.YtpfongmnmcmnaaaGreatDoorSxBag
namespace Go.Proofs.YtpfongmnmcmnaaaGreatDoor
open Go Go.Sx
theorem tyS2 : tyS Tryz.prog 2 = some (false, 1) := by kernel_rfl
theorem zeroC2 : zeroC Tryz.prog 2 = some [Value.int .i64 0] := by kernel_rfl
theorem intT2 : intT Tryz.prog 2 = some .i64 := by kernel_rfl
theorem tyS3 : tyS Tryz.prog 3 = some (false, 1) := by kernel_rfl
theorem zeroC3 : zeroC Tryz.prog 3 = some [Value.int .i64 0] := by kernel_rfl
theorem intT3 : intT Tryz.prog 3 = some .i64 := by kernel_rfl
theorem tyS4 : tyS Tryz.prog 4 = some (false, 1) := by kernel_rfl
theorem zeroC4 : zeroC Tryz.prog 4 = some [Value.bool false] := by kernel_rfl
theorem isBool4 : isBoolT Tryz.prog 4 = true := by kernel_rfl
theorem tyS5 : tyS Tryz.prog 5 = some (false, 1) := by kernel_rfl
theorem zeroC5 : zeroC Tryz.prog 5 = some [Value.int .u8 0] := by kernel_rfl
theorem intT5 : intT Tryz.prog 5 = some .u8 := by kernel_rfl
theorem tyS9 : tyS Tryz.prog 9 = some (false, 1) := by kernel_rfl
theorem zeroC9 : zeroC Tryz.prog 9 = some [Value.string ⟨#[]⟩] := by kernel_rfl
theorem isStr9 : isStr Tryz.prog 9 = true := by kernel_rfl
theorem lenT9 : lenT Tryz.prog 9 = 0 := by kernel_rfl
theorem tyS12 : tyS Tryz.prog 12 = some (false, 1) := by kernel_rfl
theorem zeroC12 : zeroC Tryz.prog 12 = some [Value.int .u64 0] := by kernel_rfl
theorem intT12 : intT Tryz.prog 12 = some .u64 := by kernel_rfl
theorem tyS21 : tyS Tryz.prog 21 = some (false, 1) := by kernel_rfl
theorem zeroC21 : zeroC Tryz.prog 21 = some [Value.int .i32 0] := by kernel_rfl
theorem intT21 : intT Tryz.prog 21 = some .i32 := by kernel_rfl
theorem tyS22 : tyS Tryz.prog 22 = some (false, 1) := by kernel_rfl
theorem zeroC22 : zeroC Tryz.prog 22 = some [Value.slice none 0 0] := by kernel_rfl
theorem elS22 : elS Tryz.prog 22 = some 8 := by kernel_rfl
theorem lenT22 : lenT Tryz.prog 22 = 1 := by kernel_rfl
theorem slT22 : slT Tryz.prog 22 = some ⟨59, 8, 96, [Value.bool false, Value.int .i64 0, Value.string ⟨#[]⟩, Value.int .i64 0, Value.int .i64 0, Value.string ⟨#[]⟩, Value.int .i64 0, Value.slice none 0 0]⟩ := by kernel_rfl
theorem tyS23 : tyS Tryz.prog 23 = some (true, 5) := by kernel_rfl
theorem zeroC23 : zeroC Tryz.prog 23 = some [Value.int .i64 0, Value.int .i64 0, Value.string ⟨#[]⟩, Value.int .i64 0, Value.slice none 0 0] := by kernel_rfl
theorem plcs23 : plcs Tryz.prog 23 = some [(0, 1), (1, 1), (2, 1), (3, 1), (4, 1)] := by kernel_rfl
theorem tyS24 : tyS Tryz.prog 24 = some (true, 5) := by kernel_rfl
theorem zeroC24 : zeroC Tryz.prog 24 = some [Value.int .i64 0, Value.int .i64 0, Value.string ⟨#[]⟩, Value.int .i64 0, Value.slice none 0 0] := by kernel_rfl
theorem plcs24 : plcs Tryz.prog 24 = some [(0, 1), (1, 1), (2, 1), (3, 1), (4, 1)] := by kernel_rfl
theorem tyS26 : tyS Tryz.prog 26 = some (false, 1) := by kernel_rfl
theorem zeroC26 : zeroC Tryz.prog 26 = some [Value.slice none 0 0] := by kernel_rfl
theorem elS26 : elS Tryz.prog 26 = some 8 := by kernel_rfl
theorem lenT26 : lenT Tryz.prog 26 = 1 := by kernel_rfl
theorem slT26 : slT Tryz.prog 26 = some ⟨64, 8, 96, [Value.bool false, Value.int .i64 0, Value.string ⟨#[]⟩, Value.int .i64 0, Value.int .i64 0, Value.string ⟨#[]⟩, Value.int .i64 0, Value.slice none 0 0]⟩ := by kernel_rfl
theorem tyS27 : tyS Tryz.prog 27 = some (true, 5) := by kernel_rfl
theorem zeroC27 : zeroC Tryz.prog 27 = some [Value.int .i64 0, Value.int .i64 0, Value.string ⟨#[]⟩, Value.int .i64 0, Value.slice none 0 0] := by kernel_rfl
theorem plcs27 : plcs Tryz.prog 27 = some [(0, 1), (1, 1), (2, 1), (3, 1), (4, 1)] := by kernel_rfl
theorem tyS28 : tyS Tryz.prog 28 = some (true, 5) := by kernel_rfl
theorem zeroC28 : zeroC Tryz.prog 28 = some [Value.int .i64 0, Value.int .i64 0, Value.string ⟨#[]⟩, Value.int .i64 0, Value.slice none 0 0] := by kernel_rfl
theorem plcs28 : plcs Tryz.prog 28 = some [(0, 1), (1, 1), (2, 1), (3, 1), (4, 1)] := by kernel_rfl
theorem tyS56 : tyS Tryz.prog 56 = some (true, 3) := by kernel_rfl
theorem zeroC56 : zeroC Tryz.prog 56 = some [Value.bool false, Value.int .i64 0, Value.string ⟨#[]⟩] := by kernel_rfl
theorem plcs56 : plcs Tryz.prog 56 = some [(0, 1), (1, 1), (2, 1)] := by kernel_rfl
theorem keyT56 : keyT Tryz.prog 56 = true := by kernel_rfl
theorem tyS57 : tyS Tryz.prog 57 = some (true, 3) := by kernel_rfl
theorem zeroC57 : zeroC Tryz.prog 57 = some [Value.bool false, Value.int .i64 0, Value.string ⟨#[]⟩] := by kernel_rfl
theorem plcs57 : plcs Tryz.prog 57 = some [(0, 1), (1, 1), (2, 1)] := by kernel_rfl
theorem keyT57 : keyT Tryz.prog 57 = true := by kernel_rfl
theorem tyS58 : tyS Tryz.prog 58 = some (true, 8) := by kernel_rfl
theorem zeroC58 : zeroC Tryz.prog 58 = some [Value.bool false, Value.int .i64 0, Value.string ⟨#[]⟩, Value.int .i64 0, Value.int .i64 0, Value.string ⟨#[]⟩, Value.int .i64 0, Value.slice none 0 0] := by kernel_rfl
theorem plcs58 : plcs Tryz.prog 58 = some [(0, 3), (3, 5)] := by kernel_rfl
theorem tyS59 : tyS Tryz.prog 59 = some (true, 8) := by kernel_rfl
theorem zeroC59 : zeroC Tryz.prog 59 = some [Value.bool false, Value.int .i64 0, Value.string ⟨#[]⟩, Value.int .i64 0, Value.int .i64 0, Value.string ⟨#[]⟩, Value.int .i64 0, Value.slice none 0 0] := by kernel_rfl
theorem plcs59 : plcs Tryz.prog 59 = some [(0, 3), (3, 5)] := by kernel_rfl
theorem tyS62 : tyS Tryz.prog 62 = some (true, 3) := by kernel_rfl
theorem zeroC62 : zeroC Tryz.prog 62 = some [Value.bool false, Value.int .i64 0, Value.string ⟨#[]⟩] := by kernel_rfl
theorem plcs62 : plcs Tryz.prog 62 = some [(0, 1), (1, 1), (2, 1)] := by kernel_rfl
theorem keyT62 : keyT Tryz.prog 62 = true := by kernel_rfl
theorem tyS63 : tyS Tryz.prog 63 = some (true, 8) := by kernel_rfl
theorem zeroC63 : zeroC Tryz.prog 63 = some [Value.bool false, Value.int .i64 0, Value.string ⟨#[]⟩, Value.int .i64 0, Value.int .i64 0, Value.string ⟨#[]⟩, Value.int .i64 0, Value.slice none 0 0] := by kernel_rfl
theorem plcs63 : plcs Tryz.prog 63 = some [(0, 3), (3, 5)] := by kernel_rfl
theorem tyS64 : tyS Tryz.prog 64 = some (true, 8) := by kernel_rfl
theorem zeroC64 : zeroC Tryz.prog 64 = some [Value.bool false, Value.int .i64 0, Value.string ⟨#[]⟩, Value.int .i64 0, Value.int .i64 0, Value.string ⟨#[]⟩, Value.int .i64 0, Value.slice none 0 0] := by kernel_rfl
theorem plcs64 : plcs Tryz.prog 64 = some [(0, 3), (3, 5)] := by kernel_rfl
theorem tyS73 : tyS Tryz.prog 73 = some (false, 1) := by kernel_rfl
theorem zeroC73 : zeroC Tryz.prog 73 = some [Value.pointer none] := by kernel_rfl
theorem tyS85 : tyS Tryz.prog 85 = some (false, 1) := by kernel_rfl
theorem zeroC85 : zeroC Tryz.prog 85 = some [Value.slice none 0 0] := by kernel_rfl
theorem elS85 : elS Tryz.prog 85 = some 1 := by kernel_rfl
theorem lenT85 : lenT Tryz.prog 85 = 1 := by kernel_rfl
theorem bytT85 : bytT Tryz.prog 85 = true := by kernel_rfl
theorem slT85 : slT Tryz.prog 85 = some ⟨5, 1, 1, [Value.int .u8 0]⟩ := by kernel_rfl
theorem tyS87 : tyS Tryz.prog 87 = some (false, 1) := by kernel_rfl
theorem zeroC87 : zeroC Tryz.prog 87 = some [Value.map none] := by kernel_rfl
theorem lenT87 : lenT Tryz.prog 87 = 2 := by kernel_rfl
theorem tyS93 : tyS Tryz.prog 93 = some (false, 1) := by kernel_rfl
theorem zeroC93 : zeroC Tryz.prog 93 = some [Value.int .u64 0] := by kernel_rfl
theorem intT93 : intT Tryz.prog 93 = some .u64 := by kernel_rfl
theorem tyS104 : tyS Tryz.prog 104 = some (false, 1) := by kernel_rfl
theorem zeroC104 : zeroC Tryz.prog 104 = some [Value.int .u32 0] := by kernel_rfl
theorem intT104 : intT Tryz.prog 104 = some .u32 := by kernel_rfl
theorem tyS107 : tyS Tryz.prog 107 = some (false, 1) := by kernel_rfl
theorem zeroC107 : zeroC Tryz.prog 107 = some [Value.int .u64 0] := by kernel_rfl
theorem intT107 : intT Tryz.prog 107 = some .u64 := by kernel_rfl
theorem tyS114 : tyS Tryz.prog 114 = some (false, 1) := by kernel_rfl
theorem zeroC114 : zeroC Tryz.prog 114 = some [Value.pointer none] := by kernel_rfl
theorem tyS122 : tyS Tryz.prog 122 = some (true, 3) := by kernel_rfl
theorem zeroC122 : zeroC Tryz.prog 122 = some [Value.string ⟨#[]⟩, Value.string ⟨#[]⟩, Value.nilIface] := by kernel_rfl
theorem plcs122 : plcs Tryz.prog 122 = some [(0, 1), (1, 1), (2, 1)] := by kernel_rfl
theorem tyS123 : tyS Tryz.prog 123 = some (true, 3) := by kernel_rfl
theorem zeroC123 : zeroC Tryz.prog 123 = some [Value.string ⟨#[]⟩, Value.string ⟨#[]⟩, Value.nilIface] := by kernel_rfl
theorem plcs123 : plcs Tryz.prog 123 = some [(0, 1), (1, 1), (2, 1)] := by kernel_rfl
theorem tyS126 : tyS Tryz.prog 126 = some (false, 1) := by kernel_rfl
theorem zeroC126 : zeroC Tryz.prog 126 = some [Value.pointer none] := by kernel_rfl
theorem tyS127 : tyS Tryz.prog 127 = some (false, 1) := by kernel_rfl
theorem zeroC127 : zeroC Tryz.prog 127 = some [Value.pointer none] := by kernel_rfl
theorem tyS128 : tyS Tryz.prog 128 = some (true, 1) := by kernel_rfl
theorem zeroC128 : zeroC Tryz.prog 128 = some [Value.string ⟨#[]⟩] := by kernel_rfl
theorem plcs128 : plcs Tryz.prog 128 = some [(0, 1)] := by kernel_rfl
theorem tyS129 : tyS Tryz.prog 129 = some (true, 1) := by kernel_rfl
theorem zeroC129 : zeroC Tryz.prog 129 = some [Value.string ⟨#[]⟩] := by kernel_rfl
theorem plcs129 : plcs Tryz.prog 129 = some [(0, 1)] := by kernel_rfl
attribute [go_sem] tyS2 zeroC2 intT2 tyS3 zeroC3 intT3 tyS4 zeroC4 isBool4 tyS5 zeroC5 intT5 tyS9 zeroC9 isStr9 lenT9 tyS12 zeroC12 intT12 tyS21 zeroC21 intT21 tyS22 zeroC22 elS22 lenT22 slT22 tyS23 zeroC23 plcs23 tyS24 zeroC24 plcs24 tyS26 zeroC26 elS26 lenT26 slT26 tyS27 zeroC27 plcs27 tyS28 zeroC28 plcs28 tyS56 zeroC56 plcs56 keyT56 tyS57 zeroC57 plcs57 keyT57 tyS58 zeroC58 plcs58 tyS59 zeroC59 plcs59 tyS62 zeroC62 plcs62 keyT62 tyS63 zeroC63 plcs63 tyS64 zeroC64 plcs64 tyS73 zeroC73 tyS85 zeroC85 elS85 lenT85 bytT85 slT85 tyS87 zeroC87 lenT87 tyS93 zeroC93 intT93 tyS104 zeroC104 intT104 tyS107 zeroC107 intT107 tyS114 zeroC114 tyS122 zeroC122 plcs122 tyS123 zeroC123 plcs123 tyS126 zeroC126 tyS127 zeroC127 tyS128 zeroC128 plcs128 tyS129 zeroC129 plcs129
end Go.Proofs.YtpfongmnmcmnaaaGreatDoor
