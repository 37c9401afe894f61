/-
  The closed facts on the program's types that the abstract machine asks, each by the kernel. Written by facts.py.
-/
import Derived.Test.YtjbcokpkbfnpiaaDoorRows
import Derived.Test.YtjbcokpkbfnpiaaDoorSxBag
namespace Go.Proofs.YtjbcokpkbfnpiaaDoor
open Go Go.Sx
theorem tyS2 : tyS Tryd.prog 2 = some (false, 1) := by kernel_rfl
theorem zeroC2 : zeroC Tryd.prog 2 = some [Value.int .i64 0] := by kernel_rfl
theorem intT2 : intT Tryd.prog 2 = some .i64 := by kernel_rfl
theorem tyS3 : tyS Tryd.prog 3 = some (false, 1) := by kernel_rfl
theorem zeroC3 : zeroC Tryd.prog 3 = some [Value.int .i64 0] := by kernel_rfl
theorem intT3 : intT Tryd.prog 3 = some .i64 := by kernel_rfl
theorem tyS4 : tyS Tryd.prog 4 = some (false, 1) := by kernel_rfl
theorem zeroC4 : zeroC Tryd.prog 4 = some [Value.bool false] := by kernel_rfl
theorem isBool4 : isBoolT Tryd.prog 4 = true := by kernel_rfl
theorem tyS5 : tyS Tryd.prog 5 = some (false, 1) := by kernel_rfl
theorem zeroC5 : zeroC Tryd.prog 5 = some [Value.int .u8 0] := by kernel_rfl
theorem intT5 : intT Tryd.prog 5 = some .u8 := by kernel_rfl
theorem tyS9 : tyS Tryd.prog 9 = some (false, 1) := by kernel_rfl
theorem zeroC9 : zeroC Tryd.prog 9 = some [Value.string ⟨#[]⟩] := by kernel_rfl
theorem isStr9 : isStr Tryd.prog 9 = true := by kernel_rfl
theorem lenT9 : lenT Tryd.prog 9 = 0 := by kernel_rfl
theorem tyS12 : tyS Tryd.prog 12 = some (false, 1) := by kernel_rfl
theorem zeroC12 : zeroC Tryd.prog 12 = some [Value.int .u64 0] := by kernel_rfl
theorem intT12 : intT Tryd.prog 12 = some .u64 := by kernel_rfl
theorem tyS21 : tyS Tryd.prog 21 = some (false, 1) := by kernel_rfl
theorem zeroC21 : zeroC Tryd.prog 21 = some [Value.int .i32 0] := by kernel_rfl
theorem intT21 : intT Tryd.prog 21 = some .i32 := by kernel_rfl
theorem tyS22 : tyS Tryd.prog 22 = some (false, 1) := by kernel_rfl
theorem zeroC22 : zeroC Tryd.prog 22 = some [Value.slice none 0 0] := by kernel_rfl
theorem elS22 : elS Tryd.prog 22 = some 8 := by kernel_rfl
theorem lenT22 : lenT Tryd.prog 22 = 1 := by kernel_rfl
theorem slT22 : slT Tryd.prog 22 = some ⟨88, 8, 96, [Value.bool false, Value.int .i64 0, Value.string ⟨#[]⟩, Value.int .i64 0, Value.int .i64 0, Value.string ⟨#[]⟩, Value.int .i64 0, Value.slice none 0 0]⟩ := by kernel_rfl
theorem tyS23 : tyS Tryd.prog 23 = some (true, 5) := by kernel_rfl
theorem zeroC23 : zeroC Tryd.prog 23 = some [Value.int .i64 0, Value.int .i64 0, Value.string ⟨#[]⟩, Value.int .i64 0, Value.slice none 0 0] := by kernel_rfl
theorem plcs23 : plcs Tryd.prog 23 = some [(0, 1), (1, 1), (2, 1), (3, 1), (4, 1)] := by kernel_rfl
theorem tyS24 : tyS Tryd.prog 24 = some (true, 5) := by kernel_rfl
theorem zeroC24 : zeroC Tryd.prog 24 = some [Value.int .i64 0, Value.int .i64 0, Value.string ⟨#[]⟩, Value.int .i64 0, Value.slice none 0 0] := by kernel_rfl
theorem plcs24 : plcs Tryd.prog 24 = some [(0, 1), (1, 1), (2, 1), (3, 1), (4, 1)] := by kernel_rfl
theorem tyS28 : tyS Tryd.prog 28 = some (false, 1) := by kernel_rfl
theorem zeroC28 : zeroC Tryd.prog 28 = some [Value.slice none 0 0] := by kernel_rfl
theorem elS28 : elS Tryd.prog 28 = some 8 := by kernel_rfl
theorem lenT28 : lenT Tryd.prog 28 = 1 := by kernel_rfl
theorem slT28 : slT Tryd.prog 28 = some ⟨76, 8, 96, [Value.bool false, Value.int .i64 0, Value.string ⟨#[]⟩, Value.int .i64 0, Value.int .i64 0, Value.string ⟨#[]⟩, Value.int .i64 0, Value.slice none 0 0]⟩ := by kernel_rfl
theorem tyS29 : tyS Tryd.prog 29 = some (true, 5) := by kernel_rfl
theorem zeroC29 : zeroC Tryd.prog 29 = some [Value.int .i64 0, Value.int .i64 0, Value.string ⟨#[]⟩, Value.int .i64 0, Value.slice none 0 0] := by kernel_rfl
theorem plcs29 : plcs Tryd.prog 29 = some [(0, 1), (1, 1), (2, 1), (3, 1), (4, 1)] := by kernel_rfl
theorem tyS30 : tyS Tryd.prog 30 = some (true, 5) := by kernel_rfl
theorem zeroC30 : zeroC Tryd.prog 30 = some [Value.int .i64 0, Value.int .i64 0, Value.string ⟨#[]⟩, Value.int .i64 0, Value.slice none 0 0] := by kernel_rfl
theorem plcs30 : plcs Tryd.prog 30 = some [(0, 1), (1, 1), (2, 1), (3, 1), (4, 1)] := by kernel_rfl
theorem tyS36 : tyS Tryd.prog 36 = some (false, 1) := by kernel_rfl
theorem zeroC36 : zeroC Tryd.prog 36 = some [Value.slice none 0 0] := by kernel_rfl
theorem elS36 : elS Tryd.prog 36 = some 5 := by kernel_rfl
theorem lenT36 : lenT Tryd.prog 36 = 1 := by kernel_rfl
theorem slT36 : slT Tryd.prog 36 = some ⟨24, 5, 64, [Value.int .i64 0, Value.int .i64 0, Value.string ⟨#[]⟩, Value.int .i64 0, Value.slice none 0 0]⟩ := by kernel_rfl
theorem tyS39 : tyS Tryd.prog 39 = some (false, 1) := by kernel_rfl
theorem zeroC39 : zeroC Tryd.prog 39 = some [Value.slice none 0 0] := by kernel_rfl
theorem elS39 : elS Tryd.prog 39 = some 5 := by kernel_rfl
theorem lenT39 : lenT Tryd.prog 39 = 1 := by kernel_rfl
theorem slT39 : slT Tryd.prog 39 = some ⟨30, 5, 64, [Value.int .i64 0, Value.int .i64 0, Value.string ⟨#[]⟩, Value.int .i64 0, Value.slice none 0 0]⟩ := by kernel_rfl
theorem tyS48 : tyS Tryd.prog 48 = some (false, 1) := by kernel_rfl
theorem zeroC48 : zeroC Tryd.prog 48 = some [Value.slice none 0 0] := by kernel_rfl
theorem elS48 : elS Tryd.prog 48 = some 3 := by kernel_rfl
theorem lenT48 : lenT Tryd.prog 48 = 1 := by kernel_rfl
theorem slT48 : slT Tryd.prog 48 = some ⟨81, 3, 32, [Value.bool false, Value.int .i64 0, Value.string ⟨#[]⟩]⟩ := by kernel_rfl
theorem tyS51 : tyS Tryd.prog 51 = some (false, 1) := by kernel_rfl
theorem zeroC51 : zeroC Tryd.prog 51 = some [Value.slice none 0 0] := by kernel_rfl
theorem elS51 : elS Tryd.prog 51 = some 3 := by kernel_rfl
theorem lenT51 : lenT Tryd.prog 51 = 1 := by kernel_rfl
theorem slT51 : slT Tryd.prog 51 = some ⟨74, 3, 32, [Value.bool false, Value.int .i64 0, Value.string ⟨#[]⟩]⟩ := by kernel_rfl
theorem tyS73 : tyS Tryd.prog 73 = some (true, 3) := by kernel_rfl
theorem zeroC73 : zeroC Tryd.prog 73 = some [Value.bool false, Value.int .i64 0, Value.string ⟨#[]⟩] := by kernel_rfl
theorem plcs73 : plcs Tryd.prog 73 = some [(0, 1), (1, 1), (2, 1)] := by kernel_rfl
theorem keyT73 : keyT Tryd.prog 73 = true := by kernel_rfl
theorem tyS74 : tyS Tryd.prog 74 = some (true, 3) := by kernel_rfl
theorem zeroC74 : zeroC Tryd.prog 74 = some [Value.bool false, Value.int .i64 0, Value.string ⟨#[]⟩] := by kernel_rfl
theorem plcs74 : plcs Tryd.prog 74 = some [(0, 1), (1, 1), (2, 1)] := by kernel_rfl
theorem keyT74 : keyT Tryd.prog 74 = true := by kernel_rfl
theorem tyS75 : tyS Tryd.prog 75 = some (true, 8) := by kernel_rfl
theorem zeroC75 : zeroC Tryd.prog 75 = some [Value.bool false, Value.int .i64 0, Value.string ⟨#[]⟩, Value.int .i64 0, Value.int .i64 0, Value.string ⟨#[]⟩, Value.int .i64 0, Value.slice none 0 0] := by kernel_rfl
theorem plcs75 : plcs Tryd.prog 75 = some [(0, 3), (3, 5)] := by kernel_rfl
theorem tyS76 : tyS Tryd.prog 76 = some (true, 8) := by kernel_rfl
theorem zeroC76 : zeroC Tryd.prog 76 = some [Value.bool false, Value.int .i64 0, Value.string ⟨#[]⟩, Value.int .i64 0, Value.int .i64 0, Value.string ⟨#[]⟩, Value.int .i64 0, Value.slice none 0 0] := by kernel_rfl
theorem plcs76 : plcs Tryd.prog 76 = some [(0, 3), (3, 5)] := by kernel_rfl
theorem tyS79 : tyS Tryd.prog 79 = some (false, 1) := by kernel_rfl
theorem zeroC79 : zeroC Tryd.prog 79 = some [Value.pointer none] := by kernel_rfl
theorem tyS81 : tyS Tryd.prog 81 = some (true, 3) := by kernel_rfl
theorem zeroC81 : zeroC Tryd.prog 81 = some [Value.bool false, Value.int .i64 0, Value.string ⟨#[]⟩] := by kernel_rfl
theorem plcs81 : plcs Tryd.prog 81 = some [(0, 1), (1, 1), (2, 1)] := by kernel_rfl
theorem keyT81 : keyT Tryd.prog 81 = true := by kernel_rfl
theorem tyS87 : tyS Tryd.prog 87 = some (true, 8) := by kernel_rfl
theorem zeroC87 : zeroC Tryd.prog 87 = some [Value.bool false, Value.int .i64 0, Value.string ⟨#[]⟩, Value.int .i64 0, Value.int .i64 0, Value.string ⟨#[]⟩, Value.int .i64 0, Value.slice none 0 0] := by kernel_rfl
theorem plcs87 : plcs Tryd.prog 87 = some [(0, 3), (3, 5)] := by kernel_rfl
theorem tyS88 : tyS Tryd.prog 88 = some (true, 8) := by kernel_rfl
theorem zeroC88 : zeroC Tryd.prog 88 = some [Value.bool false, Value.int .i64 0, Value.string ⟨#[]⟩, Value.int .i64 0, Value.int .i64 0, Value.string ⟨#[]⟩, Value.int .i64 0, Value.slice none 0 0] := by kernel_rfl
theorem plcs88 : plcs Tryd.prog 88 = some [(0, 3), (3, 5)] := by kernel_rfl
theorem tyS89 : tyS Tryd.prog 89 = some (false, 1) := by kernel_rfl
theorem zeroC89 : zeroC Tryd.prog 89 = some [Value.slice none 0 0] := by kernel_rfl
theorem elS89 : elS Tryd.prog 89 = some 1 := by kernel_rfl
theorem lenT89 : lenT Tryd.prog 89 = 1 := by kernel_rfl
theorem bytT89 : bytT Tryd.prog 89 = true := by kernel_rfl
theorem slT89 : slT Tryd.prog 89 = some ⟨5, 1, 1, [Value.int .u8 0]⟩ := by kernel_rfl
theorem tyS102 : tyS Tryd.prog 102 = some (false, 1) := by kernel_rfl
theorem zeroC102 : zeroC Tryd.prog 102 = some [Value.map none] := by kernel_rfl
theorem lenT102 : lenT Tryd.prog 102 = 2 := by kernel_rfl
theorem tyS109 : tyS Tryd.prog 109 = some (false, 1) := by kernel_rfl
theorem zeroC109 : zeroC Tryd.prog 109 = some [Value.int .u64 0] := by kernel_rfl
theorem intT109 : intT Tryd.prog 109 = some .u64 := by kernel_rfl
theorem tyS120 : tyS Tryd.prog 120 = some (false, 1) := by kernel_rfl
theorem zeroC120 : zeroC Tryd.prog 120 = some [Value.int .u32 0] := by kernel_rfl
theorem intT120 : intT Tryd.prog 120 = some .u32 := by kernel_rfl
theorem tyS123 : tyS Tryd.prog 123 = some (false, 1) := by kernel_rfl
theorem zeroC123 : zeroC Tryd.prog 123 = some [Value.int .u64 0] := by kernel_rfl
theorem intT123 : intT Tryd.prog 123 = some .u64 := by kernel_rfl
theorem tyS130 : tyS Tryd.prog 130 = some (false, 1) := by kernel_rfl
theorem zeroC130 : zeroC Tryd.prog 130 = some [Value.pointer none] := by kernel_rfl
theorem tyS138 : tyS Tryd.prog 138 = some (true, 3) := by kernel_rfl
theorem zeroC138 : zeroC Tryd.prog 138 = some [Value.string ⟨#[]⟩, Value.string ⟨#[]⟩, Value.nilIface] := by kernel_rfl
theorem plcs138 : plcs Tryd.prog 138 = some [(0, 1), (1, 1), (2, 1)] := by kernel_rfl
theorem tyS139 : tyS Tryd.prog 139 = some (true, 3) := by kernel_rfl
theorem zeroC139 : zeroC Tryd.prog 139 = some [Value.string ⟨#[]⟩, Value.string ⟨#[]⟩, Value.nilIface] := by kernel_rfl
theorem plcs139 : plcs Tryd.prog 139 = some [(0, 1), (1, 1), (2, 1)] := by kernel_rfl
theorem tyS142 : tyS Tryd.prog 142 = some (false, 1) := by kernel_rfl
theorem zeroC142 : zeroC Tryd.prog 142 = some [Value.pointer none] := by kernel_rfl
theorem tyS143 : tyS Tryd.prog 143 = some (false, 1) := by kernel_rfl
theorem zeroC143 : zeroC Tryd.prog 143 = some [Value.pointer none] := by kernel_rfl
theorem tyS144 : tyS Tryd.prog 144 = some (true, 1) := by kernel_rfl
theorem zeroC144 : zeroC Tryd.prog 144 = some [Value.string ⟨#[]⟩] := by kernel_rfl
theorem plcs144 : plcs Tryd.prog 144 = some [(0, 1)] := by kernel_rfl
theorem tyS145 : tyS Tryd.prog 145 = some (true, 1) := by kernel_rfl
theorem zeroC145 : zeroC Tryd.prog 145 = some [Value.string ⟨#[]⟩] := by kernel_rfl
theorem plcs145 : plcs Tryd.prog 145 = some [(0, 1)] := by kernel_rfl
attribute [go_sem] tyS2 zeroC2 intT2 tyS3 zeroC3 intT3 tyS4 zeroC4 isBool4 tyS5 zeroC5 intT5 tyS9 zeroC9 isStr9 lenT9 tyS12 zeroC12 intT12 tyS21 zeroC21 intT21 tyS22 zeroC22 elS22 lenT22 slT22 tyS23 zeroC23 plcs23 tyS24 zeroC24 plcs24 tyS28 zeroC28 elS28 lenT28 slT28 tyS29 zeroC29 plcs29 tyS30 zeroC30 plcs30 tyS36 zeroC36 elS36 lenT36 slT36 tyS39 zeroC39 elS39 lenT39 slT39 tyS48 zeroC48 elS48 lenT48 slT48 tyS51 zeroC51 elS51 lenT51 slT51 tyS73 zeroC73 plcs73 keyT73 tyS74 zeroC74 plcs74 keyT74 tyS75 zeroC75 plcs75 tyS76 zeroC76 plcs76 tyS79 zeroC79 tyS81 zeroC81 plcs81 keyT81 tyS87 zeroC87 plcs87 tyS88 zeroC88 plcs88 tyS89 zeroC89 elS89 lenT89 bytT89 slT89 tyS102 zeroC102 lenT102 tyS109 zeroC109 intT109 tyS120 zeroC120 intT120 tyS123 zeroC123 intT123 tyS130 zeroC130 tyS138 zeroC138 plcs138 tyS139 zeroC139 plcs139 tyS142 zeroC142 tyS143 zeroC143 tyS144 zeroC144 plcs144 tyS145 zeroC145 plcs145
end Go.Proofs.YtjbcokpkbfnpiaaDoor
