/-
  The closed facts on the program's types that the abstract machine asks, each by the kernel. Written by facts.py.
-/
import Derived.Test.YtpfongmnmcmnaaaDoorRows
import Derived.Test.YtpfongmnmcmnaaaDoorSxBag
namespace Go.Proofs.YtpfongmnmcmnaaaDoor
open Go Go.Sx
theorem tyS2 : tyS Tryd.prog 2 = some (false, 1) := by kernel_rfl
theorem zeroC2 : zeroC Tryd.prog 2 = some [Value.int .i64 0] := by kernel_rfl
theorem intT2 : intT Tryd.prog 2 = some .i64 := by kernel_rfl
theorem tyS3 : tyS Tryd.prog 3 = some (false, 1) := by kernel_rfl
theorem zeroC3 : zeroC Tryd.prog 3 = some [Value.int .i64 0] := by kernel_rfl
theorem intT3 : intT Tryd.prog 3 = some .i64 := by kernel_rfl
theorem tyS4 : tyS Tryd.prog 4 = some (false, 1) := by kernel_rfl
theorem zeroC4 : zeroC Tryd.prog 4 = some [Value.bool false] := by kernel_rfl
theorem isBool4 : isBoolT Tryd.prog 4 = true := by kernel_rfl
theorem tyS5 : tyS Tryd.prog 5 = some (false, 1) := by kernel_rfl
theorem zeroC5 : zeroC Tryd.prog 5 = some [Value.int .u8 0] := by kernel_rfl
theorem intT5 : intT Tryd.prog 5 = some .u8 := by kernel_rfl
theorem tyS9 : tyS Tryd.prog 9 = some (false, 1) := by kernel_rfl
theorem zeroC9 : zeroC Tryd.prog 9 = some [Value.string ⟨#[]⟩] := by kernel_rfl
theorem isStr9 : isStr Tryd.prog 9 = true := by kernel_rfl
theorem lenT9 : lenT Tryd.prog 9 = 0 := by kernel_rfl
theorem tyS12 : tyS Tryd.prog 12 = some (false, 1) := by kernel_rfl
theorem zeroC12 : zeroC Tryd.prog 12 = some [Value.int .u64 0] := by kernel_rfl
theorem intT12 : intT Tryd.prog 12 = some .u64 := by kernel_rfl
theorem tyS21 : tyS Tryd.prog 21 = some (false, 1) := by kernel_rfl
theorem zeroC21 : zeroC Tryd.prog 21 = some [Value.int .i32 0] := by kernel_rfl
theorem intT21 : intT Tryd.prog 21 = some .i32 := by kernel_rfl
theorem tyS22 : tyS Tryd.prog 22 = some (false, 1) := by kernel_rfl
theorem zeroC22 : zeroC Tryd.prog 22 = some [Value.slice none 0 0] := by kernel_rfl
theorem elS22 : elS Tryd.prog 22 = some 8 := by kernel_rfl
theorem lenT22 : lenT Tryd.prog 22 = 1 := by kernel_rfl
theorem slT22 : slT Tryd.prog 22 = some ⟨45, 8, 96, [Value.bool false, Value.int .i64 0, Value.string ⟨#[]⟩, Value.int .i64 0, Value.int .i64 0, Value.string ⟨#[]⟩, Value.int .i64 0, Value.slice none 0 0]⟩ := by kernel_rfl
theorem tyS23 : tyS Tryd.prog 23 = some (true, 5) := by kernel_rfl
theorem zeroC23 : zeroC Tryd.prog 23 = some [Value.int .i64 0, Value.int .i64 0, Value.string ⟨#[]⟩, Value.int .i64 0, Value.slice none 0 0] := by kernel_rfl
theorem plcs23 : plcs Tryd.prog 23 = some [(0, 1), (1, 1), (2, 1), (3, 1), (4, 1)] := by kernel_rfl
theorem tyS24 : tyS Tryd.prog 24 = some (true, 5) := by kernel_rfl
theorem zeroC24 : zeroC Tryd.prog 24 = some [Value.int .i64 0, Value.int .i64 0, Value.string ⟨#[]⟩, Value.int .i64 0, Value.slice none 0 0] := by kernel_rfl
theorem plcs24 : plcs Tryd.prog 24 = some [(0, 1), (1, 1), (2, 1), (3, 1), (4, 1)] := by kernel_rfl
theorem tyS28 : tyS Tryd.prog 28 = some (false, 1) := by kernel_rfl
theorem zeroC28 : zeroC Tryd.prog 28 = some [Value.slice none 0 0] := by kernel_rfl
theorem elS28 : elS Tryd.prog 28 = some 8 := by kernel_rfl
theorem lenT28 : lenT Tryd.prog 28 = 1 := by kernel_rfl
theorem slT28 : slT Tryd.prog 28 = some ⟨50, 8, 96, [Value.bool false, Value.int .i64 0, Value.string ⟨#[]⟩, Value.int .i64 0, Value.int .i64 0, Value.string ⟨#[]⟩, Value.int .i64 0, Value.slice none 0 0]⟩ := by kernel_rfl
theorem tyS29 : tyS Tryd.prog 29 = some (true, 5) := by kernel_rfl
theorem zeroC29 : zeroC Tryd.prog 29 = some [Value.int .i64 0, Value.int .i64 0, Value.string ⟨#[]⟩, Value.int .i64 0, Value.slice none 0 0] := by kernel_rfl
theorem plcs29 : plcs Tryd.prog 29 = some [(0, 1), (1, 1), (2, 1), (3, 1), (4, 1)] := by kernel_rfl
theorem tyS30 : tyS Tryd.prog 30 = some (true, 5) := by kernel_rfl
theorem zeroC30 : zeroC Tryd.prog 30 = some [Value.int .i64 0, Value.int .i64 0, Value.string ⟨#[]⟩, Value.int .i64 0, Value.slice none 0 0] := by kernel_rfl
theorem plcs30 : plcs Tryd.prog 30 = some [(0, 1), (1, 1), (2, 1), (3, 1), (4, 1)] := by kernel_rfl
theorem tyS38 : tyS Tryd.prog 38 = some (false, 1) := by kernel_rfl
theorem zeroC38 : zeroC Tryd.prog 38 = some [Value.slice none 0 0] := by kernel_rfl
theorem elS38 : elS Tryd.prog 38 = some 1 := by kernel_rfl
theorem lenT38 : lenT Tryd.prog 38 = 1 := by kernel_rfl
theorem bytT38 : bytT Tryd.prog 38 = true := by kernel_rfl
theorem slT38 : slT Tryd.prog 38 = some ⟨5, 1, 1, [Value.int .u8 0]⟩ := by kernel_rfl
theorem tyS42 : tyS Tryd.prog 42 = some (true, 3) := by kernel_rfl
theorem zeroC42 : zeroC Tryd.prog 42 = some [Value.bool false, Value.int .i64 0, Value.string ⟨#[]⟩] := by kernel_rfl
theorem plcs42 : plcs Tryd.prog 42 = some [(0, 1), (1, 1), (2, 1)] := by kernel_rfl
theorem keyT42 : keyT Tryd.prog 42 = true := by kernel_rfl
theorem tyS43 : tyS Tryd.prog 43 = some (true, 3) := by kernel_rfl
theorem zeroC43 : zeroC Tryd.prog 43 = some [Value.bool false, Value.int .i64 0, Value.string ⟨#[]⟩] := by kernel_rfl
theorem plcs43 : plcs Tryd.prog 43 = some [(0, 1), (1, 1), (2, 1)] := by kernel_rfl
theorem keyT43 : keyT Tryd.prog 43 = true := by kernel_rfl
theorem tyS44 : tyS Tryd.prog 44 = some (true, 8) := by kernel_rfl
theorem zeroC44 : zeroC Tryd.prog 44 = some [Value.bool false, Value.int .i64 0, Value.string ⟨#[]⟩, Value.int .i64 0, Value.int .i64 0, Value.string ⟨#[]⟩, Value.int .i64 0, Value.slice none 0 0] := by kernel_rfl
theorem plcs44 : plcs Tryd.prog 44 = some [(0, 3), (3, 5)] := by kernel_rfl
theorem tyS45 : tyS Tryd.prog 45 = some (true, 8) := by kernel_rfl
theorem zeroC45 : zeroC Tryd.prog 45 = some [Value.bool false, Value.int .i64 0, Value.string ⟨#[]⟩, Value.int .i64 0, Value.int .i64 0, Value.string ⟨#[]⟩, Value.int .i64 0, Value.slice none 0 0] := by kernel_rfl
theorem plcs45 : plcs Tryd.prog 45 = some [(0, 3), (3, 5)] := by kernel_rfl
theorem tyS48 : tyS Tryd.prog 48 = some (true, 3) := by kernel_rfl
theorem zeroC48 : zeroC Tryd.prog 48 = some [Value.bool false, Value.int .i64 0, Value.string ⟨#[]⟩] := by kernel_rfl
theorem plcs48 : plcs Tryd.prog 48 = some [(0, 1), (1, 1), (2, 1)] := by kernel_rfl
theorem keyT48 : keyT Tryd.prog 48 = true := by kernel_rfl
theorem tyS49 : tyS Tryd.prog 49 = some (true, 8) := by kernel_rfl
theorem zeroC49 : zeroC Tryd.prog 49 = some [Value.bool false, Value.int .i64 0, Value.string ⟨#[]⟩, Value.int .i64 0, Value.int .i64 0, Value.string ⟨#[]⟩, Value.int .i64 0, Value.slice none 0 0] := by kernel_rfl
theorem plcs49 : plcs Tryd.prog 49 = some [(0, 3), (3, 5)] := by kernel_rfl
theorem tyS50 : tyS Tryd.prog 50 = some (true, 8) := by kernel_rfl
theorem zeroC50 : zeroC Tryd.prog 50 = some [Value.bool false, Value.int .i64 0, Value.string ⟨#[]⟩, Value.int .i64 0, Value.int .i64 0, Value.string ⟨#[]⟩, Value.int .i64 0, Value.slice none 0 0] := by kernel_rfl
theorem plcs50 : plcs Tryd.prog 50 = some [(0, 3), (3, 5)] := by kernel_rfl
theorem tyS62 : tyS Tryd.prog 62 = some (false, 1) := by kernel_rfl
theorem zeroC62 : zeroC Tryd.prog 62 = some [Value.map none] := by kernel_rfl
theorem lenT62 : lenT Tryd.prog 62 = 2 := by kernel_rfl
theorem tyS73 : tyS Tryd.prog 73 = some (false, 1) := by kernel_rfl
theorem zeroC73 : zeroC Tryd.prog 73 = some [Value.int .u64 0] := by kernel_rfl
theorem intT73 : intT Tryd.prog 73 = some .u64 := by kernel_rfl
theorem tyS82 : tyS Tryd.prog 82 = some (false, 1) := by kernel_rfl
theorem zeroC82 : zeroC Tryd.prog 82 = some [Value.int .u32 0] := by kernel_rfl
theorem intT82 : intT Tryd.prog 82 = some .u32 := by kernel_rfl
theorem tyS85 : tyS Tryd.prog 85 = some (false, 1) := by kernel_rfl
theorem zeroC85 : zeroC Tryd.prog 85 = some [Value.int .u64 0] := by kernel_rfl
theorem intT85 : intT Tryd.prog 85 = some .u64 := by kernel_rfl
theorem tyS90 : tyS Tryd.prog 90 = some (false, 1) := by kernel_rfl
theorem zeroC90 : zeroC Tryd.prog 90 = some [Value.pointer none] := by kernel_rfl
theorem tyS97 : tyS Tryd.prog 97 = some (true, 3) := by kernel_rfl
theorem zeroC97 : zeroC Tryd.prog 97 = some [Value.string ⟨#[]⟩, Value.string ⟨#[]⟩, Value.nilIface] := by kernel_rfl
theorem plcs97 : plcs Tryd.prog 97 = some [(0, 1), (1, 1), (2, 1)] := by kernel_rfl
theorem tyS98 : tyS Tryd.prog 98 = some (true, 3) := by kernel_rfl
theorem zeroC98 : zeroC Tryd.prog 98 = some [Value.string ⟨#[]⟩, Value.string ⟨#[]⟩, Value.nilIface] := by kernel_rfl
theorem plcs98 : plcs Tryd.prog 98 = some [(0, 1), (1, 1), (2, 1)] := by kernel_rfl
theorem tyS104 : tyS Tryd.prog 104 = some (false, 1) := by kernel_rfl
theorem zeroC104 : zeroC Tryd.prog 104 = some [Value.pointer none] := by kernel_rfl
theorem tyS105 : tyS Tryd.prog 105 = some (false, 1) := by kernel_rfl
theorem zeroC105 : zeroC Tryd.prog 105 = some [Value.pointer none] := by kernel_rfl
theorem tyS106 : tyS Tryd.prog 106 = some (true, 1) := by kernel_rfl
theorem zeroC106 : zeroC Tryd.prog 106 = some [Value.string ⟨#[]⟩] := by kernel_rfl
theorem plcs106 : plcs Tryd.prog 106 = some [(0, 1)] := by kernel_rfl
theorem tyS107 : tyS Tryd.prog 107 = some (true, 1) := by kernel_rfl
theorem zeroC107 : zeroC Tryd.prog 107 = some [Value.string ⟨#[]⟩] := by kernel_rfl
theorem plcs107 : plcs Tryd.prog 107 = some [(0, 1)] := by kernel_rfl
attribute [go_sem] tyS2 zeroC2 intT2 tyS3 zeroC3 intT3 tyS4 zeroC4 isBool4 tyS5 zeroC5 intT5 tyS9 zeroC9 isStr9 lenT9 tyS12 zeroC12 intT12 tyS21 zeroC21 intT21 tyS22 zeroC22 elS22 lenT22 slT22 tyS23 zeroC23 plcs23 tyS24 zeroC24 plcs24 tyS28 zeroC28 elS28 lenT28 slT28 tyS29 zeroC29 plcs29 tyS30 zeroC30 plcs30 tyS38 zeroC38 elS38 lenT38 bytT38 slT38 tyS42 zeroC42 plcs42 keyT42 tyS43 zeroC43 plcs43 keyT43 tyS44 zeroC44 plcs44 tyS45 zeroC45 plcs45 tyS48 zeroC48 plcs48 keyT48 tyS49 zeroC49 plcs49 tyS50 zeroC50 plcs50 tyS62 zeroC62 lenT62 tyS73 zeroC73 intT73 tyS82 zeroC82 intT82 tyS85 zeroC85 intT85 tyS90 zeroC90 tyS97 zeroC97 plcs97 tyS98 zeroC98 plcs98 tyS104 zeroC104 tyS105 zeroC105 tyS106 zeroC106 plcs106 tyS107 zeroC107 plcs107
end Go.Proofs.YtpfongmnmcmnaaaDoor
