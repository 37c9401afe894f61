/-
  The closed facts on the program's types that the abstract machine asks, each by the kernel. Written by facts.py.
-/
import Derived.Test.YtedfplodobpgfaaGreatDoorRows
import Derived.Test.YtedfplodobpgfaaGreatDoorSxBag
namespace Go.Proofs.YtedfplodobpgfaaGreatDoor
open Go Go.Sx
theorem tyS2 : tyS Tryz.prog 2 = some (false, 1) := by kernel_rfl
theorem zeroC2 : zeroC Tryz.prog 2 = some [Value.int .i64 0] := by kernel_rfl
theorem intT2 : intT Tryz.prog 2 = some .i64 := by kernel_rfl
theorem tyS3 : tyS Tryz.prog 3 = some (false, 1) := by kernel_rfl
theorem zeroC3 : zeroC Tryz.prog 3 = some [Value.int .i64 0] := by kernel_rfl
theorem intT3 : intT Tryz.prog 3 = some .i64 := by kernel_rfl
theorem tyS4 : tyS Tryz.prog 4 = some (false, 1) := by kernel_rfl
theorem zeroC4 : zeroC Tryz.prog 4 = some [Value.bool false] := by kernel_rfl
theorem isBool4 : isBoolT Tryz.prog 4 = true := by kernel_rfl
theorem tyS5 : tyS Tryz.prog 5 = some (false, 1) := by kernel_rfl
theorem zeroC5 : zeroC Tryz.prog 5 = some [Value.int .u8 0] := by kernel_rfl
theorem intT5 : intT Tryz.prog 5 = some .u8 := by kernel_rfl
theorem tyS9 : tyS Tryz.prog 9 = some (false, 1) := by kernel_rfl
theorem zeroC9 : zeroC Tryz.prog 9 = some [Value.string ⟨#[]⟩] := by kernel_rfl
theorem isStr9 : isStr Tryz.prog 9 = true := by kernel_rfl
theorem lenT9 : lenT Tryz.prog 9 = 0 := by kernel_rfl
theorem tyS12 : tyS Tryz.prog 12 = some (false, 1) := by kernel_rfl
theorem zeroC12 : zeroC Tryz.prog 12 = some [Value.int .u64 0] := by kernel_rfl
theorem intT12 : intT Tryz.prog 12 = some .u64 := by kernel_rfl
theorem tyS21 : tyS Tryz.prog 21 = some (false, 1) := by kernel_rfl
theorem zeroC21 : zeroC Tryz.prog 21 = some [Value.int .i32 0] := by kernel_rfl
theorem intT21 : intT Tryz.prog 21 = some .i32 := by kernel_rfl
theorem tyS22 : tyS Tryz.prog 22 = some (false, 1) := by kernel_rfl
theorem zeroC22 : zeroC Tryz.prog 22 = some [Value.slice none 0 0] := by kernel_rfl
theorem elS22 : elS Tryz.prog 22 = some 1 := by kernel_rfl
theorem lenT22 : lenT Tryz.prog 22 = 1 := by kernel_rfl
theorem slT22 : slT Tryz.prog 22 = some ⟨3, 1, 8, [Value.int .i64 0]⟩ := by kernel_rfl
theorem tyS23 : tyS Tryz.prog 23 = some (false, 1) := by kernel_rfl
theorem zeroC23 : zeroC Tryz.prog 23 = some [Value.slice none 0 0] := by kernel_rfl
theorem elS23 : elS Tryz.prog 23 = some 10 := by kernel_rfl
theorem lenT23 : lenT Tryz.prog 23 = 1 := by kernel_rfl
theorem slT23 : slT Tryz.prog 23 = some ⟨129, 10, 112, [Value.bool false, Value.int .i64 0, Value.string ⟨#[]⟩, Value.int .i64 0, Value.int .i64 0, Value.string ⟨#[]⟩, Value.int .i64 0, Value.slice none 0 0, Value.bool false, Value.int .i64 0]⟩ := by kernel_rfl
theorem tyS24 : tyS Tryz.prog 24 = some (true, 5) := by kernel_rfl
theorem zeroC24 : zeroC Tryz.prog 24 = some [Value.bool false, Value.slice none 0 0, Value.slice none 0 0, Value.int .i64 0, Value.int .i64 0] := by kernel_rfl
theorem plcs24 : plcs Tryz.prog 24 = some [(0, 1), (1, 1), (2, 1), (3, 1), (4, 1)] := by kernel_rfl
theorem tyS25 : tyS Tryz.prog 25 = some (true, 5) := by kernel_rfl
theorem zeroC25 : zeroC Tryz.prog 25 = some [Value.bool false, Value.slice none 0 0, Value.slice none 0 0, Value.int .i64 0, Value.int .i64 0] := by kernel_rfl
theorem plcs25 : plcs Tryz.prog 25 = some [(0, 1), (1, 1), (2, 1), (3, 1), (4, 1)] := by kernel_rfl
theorem tyS26 : tyS Tryz.prog 26 = some (true, 3) := by kernel_rfl
theorem zeroC26 : zeroC Tryz.prog 26 = some [Value.bool false, Value.int .i64 0, Value.string ⟨#[]⟩] := by kernel_rfl
theorem plcs26 : plcs Tryz.prog 26 = some [(0, 1), (1, 1), (2, 1)] := by kernel_rfl
theorem keyT26 : keyT Tryz.prog 26 = true := by kernel_rfl
theorem tyS27 : tyS Tryz.prog 27 = some (true, 3) := by kernel_rfl
theorem zeroC27 : zeroC Tryz.prog 27 = some [Value.bool false, Value.int .i64 0, Value.string ⟨#[]⟩] := by kernel_rfl
theorem plcs27 : plcs Tryz.prog 27 = some [(0, 1), (1, 1), (2, 1)] := by kernel_rfl
theorem keyT27 : keyT Tryz.prog 27 = true := by kernel_rfl
theorem tyS28 : tyS Tryz.prog 28 = some (false, 1) := by kernel_rfl
theorem zeroC28 : zeroC Tryz.prog 28 = some [Value.slice none 0 0] := by kernel_rfl
theorem elS28 : elS Tryz.prog 28 = some 8 := by kernel_rfl
theorem lenT28 : lenT Tryz.prog 28 = 1 := by kernel_rfl
theorem slT28 : slT Tryz.prog 28 = some ⟨132, 8, 96, [Value.bool false, Value.int .i64 0, Value.string ⟨#[]⟩, Value.int .i64 0, Value.int .i64 0, Value.string ⟨#[]⟩, Value.int .i64 0, Value.slice none 0 0]⟩ := by kernel_rfl
theorem tyS29 : tyS Tryz.prog 29 = some (true, 5) := by kernel_rfl
theorem zeroC29 : zeroC Tryz.prog 29 = some [Value.int .i64 0, Value.int .i64 0, Value.string ⟨#[]⟩, Value.int .i64 0, Value.slice none 0 0] := by kernel_rfl
theorem plcs29 : plcs Tryz.prog 29 = some [(0, 1), (1, 1), (2, 1), (3, 1), (4, 1)] := by kernel_rfl
theorem tyS30 : tyS Tryz.prog 30 = some (true, 5) := by kernel_rfl
theorem zeroC30 : zeroC Tryz.prog 30 = some [Value.int .i64 0, Value.int .i64 0, Value.string ⟨#[]⟩, Value.int .i64 0, Value.slice none 0 0] := by kernel_rfl
theorem plcs30 : plcs Tryz.prog 30 = some [(0, 1), (1, 1), (2, 1), (3, 1), (4, 1)] := by kernel_rfl
theorem tyS34 : tyS Tryz.prog 34 = some (false, 1) := by kernel_rfl
theorem zeroC34 : zeroC Tryz.prog 34 = some [Value.slice none 0 0] := by kernel_rfl
theorem elS34 : elS Tryz.prog 34 = some 10 := by kernel_rfl
theorem lenT34 : lenT Tryz.prog 34 = 1 := by kernel_rfl
theorem slT34 : slT Tryz.prog 34 = some ⟨134, 10, 112, [Value.bool false, Value.int .i64 0, Value.string ⟨#[]⟩, Value.int .i64 0, Value.int .i64 0, Value.string ⟨#[]⟩, Value.int .i64 0, Value.slice none 0 0, Value.bool false, Value.int .i64 0]⟩ := by kernel_rfl
theorem tyS35 : tyS Tryz.prog 35 = some (true, 5) := by kernel_rfl
theorem zeroC35 : zeroC Tryz.prog 35 = some [Value.bool false, Value.slice none 0 0, Value.slice none 0 0, Value.int .i64 0, Value.int .i64 0] := by kernel_rfl
theorem plcs35 : plcs Tryz.prog 35 = some [(0, 1), (1, 1), (2, 1), (3, 1), (4, 1)] := by kernel_rfl
theorem tyS36 : tyS Tryz.prog 36 = some (true, 5) := by kernel_rfl
theorem zeroC36 : zeroC Tryz.prog 36 = some [Value.bool false, Value.slice none 0 0, Value.slice none 0 0, Value.int .i64 0, Value.int .i64 0] := by kernel_rfl
theorem plcs36 : plcs Tryz.prog 36 = some [(0, 1), (1, 1), (2, 1), (3, 1), (4, 1)] := by kernel_rfl
theorem tyS40 : tyS Tryz.prog 40 = some (true, 3) := by kernel_rfl
theorem zeroC40 : zeroC Tryz.prog 40 = some [Value.bool false, Value.int .i64 0, Value.string ⟨#[]⟩] := by kernel_rfl
theorem plcs40 : plcs Tryz.prog 40 = some [(0, 1), (1, 1), (2, 1)] := by kernel_rfl
theorem keyT40 : keyT Tryz.prog 40 = true := by kernel_rfl
theorem tyS42 : tyS Tryz.prog 42 = some (false, 1) := by kernel_rfl
theorem zeroC42 : zeroC Tryz.prog 42 = some [Value.slice none 0 0] := by kernel_rfl
theorem elS42 : elS Tryz.prog 42 = some 8 := by kernel_rfl
theorem lenT42 : lenT Tryz.prog 42 = 1 := by kernel_rfl
theorem slT42 : slT Tryz.prog 42 = some ⟨141, 8, 96, [Value.bool false, Value.int .i64 0, Value.string ⟨#[]⟩, Value.int .i64 0, Value.int .i64 0, Value.string ⟨#[]⟩, Value.int .i64 0, Value.slice none 0 0]⟩ := by kernel_rfl
theorem tyS43 : tyS Tryz.prog 43 = some (true, 5) := by kernel_rfl
theorem zeroC43 : zeroC Tryz.prog 43 = some [Value.int .i64 0, Value.int .i64 0, Value.string ⟨#[]⟩, Value.int .i64 0, Value.slice none 0 0] := by kernel_rfl
theorem plcs43 : plcs Tryz.prog 43 = some [(0, 1), (1, 1), (2, 1), (3, 1), (4, 1)] := by kernel_rfl
theorem tyS44 : tyS Tryz.prog 44 = some (true, 5) := by kernel_rfl
theorem zeroC44 : zeroC Tryz.prog 44 = some [Value.int .i64 0, Value.int .i64 0, Value.string ⟨#[]⟩, Value.int .i64 0, Value.slice none 0 0] := by kernel_rfl
theorem plcs44 : plcs Tryz.prog 44 = some [(0, 1), (1, 1), (2, 1), (3, 1), (4, 1)] := by kernel_rfl
theorem tyS51 : tyS Tryz.prog 51 = some (false, 1) := by kernel_rfl
theorem zeroC51 : zeroC Tryz.prog 51 = some [Value.slice none 0 0] := by kernel_rfl
theorem elS51 : elS Tryz.prog 51 = some 6 := by kernel_rfl
theorem lenT51 : lenT Tryz.prog 51 = 1 := by kernel_rfl
theorem slT51 : slT Tryz.prog 51 = some ⟨154, 6, 80, [Value.int .i64 0, Value.bool false, Value.slice none 0 0, Value.slice none 0 0, Value.int .i64 0, Value.int .i64 0]⟩ := by kernel_rfl
theorem tyS52 : tyS Tryz.prog 52 = some (true, 1) := by kernel_rfl
theorem zeroC52 : zeroC Tryz.prog 52 = some [Value.slice none 0 0] := by kernel_rfl
theorem plcs52 : plcs Tryz.prog 52 = some [(0, 1)] := by kernel_rfl
theorem tyS53 : tyS Tryz.prog 53 = some (true, 1) := by kernel_rfl
theorem zeroC53 : zeroC Tryz.prog 53 = some [Value.slice none 0 0] := by kernel_rfl
theorem plcs53 : plcs Tryz.prog 53 = some [(0, 1)] := by kernel_rfl
theorem tyS54 : tyS Tryz.prog 54 = some (false, 1) := by kernel_rfl
theorem zeroC54 : zeroC Tryz.prog 54 = some [Value.slice none 0 0] := by kernel_rfl
theorem elS54 : elS Tryz.prog 54 = some 5 := by kernel_rfl
theorem lenT54 : lenT Tryz.prog 54 = 1 := by kernel_rfl
theorem slT54 : slT Tryz.prog 54 = some ⟨30, 5, 64, [Value.int .i64 0, Value.int .i64 0, Value.string ⟨#[]⟩, Value.int .i64 0, Value.slice none 0 0]⟩ := by kernel_rfl
theorem tyS58 : tyS Tryz.prog 58 = some (false, 1) := by kernel_rfl
theorem zeroC58 : zeroC Tryz.prog 58 = some [Value.slice none 0 0] := by kernel_rfl
theorem elS58 : elS Tryz.prog 58 = some 6 := by kernel_rfl
theorem lenT58 : lenT Tryz.prog 58 = 1 := by kernel_rfl
theorem slT58 : slT Tryz.prog 58 = some ⟨107, 6, 80, [Value.int .i64 0, Value.bool false, Value.slice none 0 0, Value.slice none 0 0, Value.int .i64 0, Value.int .i64 0]⟩ := by kernel_rfl
theorem tyS59 : tyS Tryz.prog 59 = some (true, 1) := by kernel_rfl
theorem zeroC59 : zeroC Tryz.prog 59 = some [Value.slice none 0 0] := by kernel_rfl
theorem plcs59 : plcs Tryz.prog 59 = some [(0, 1)] := by kernel_rfl
theorem tyS60 : tyS Tryz.prog 60 = some (true, 1) := by kernel_rfl
theorem zeroC60 : zeroC Tryz.prog 60 = some [Value.slice none 0 0] := by kernel_rfl
theorem plcs60 : plcs Tryz.prog 60 = some [(0, 1)] := by kernel_rfl
theorem tyS62 : tyS Tryz.prog 62 = some (false, 1) := by kernel_rfl
theorem zeroC62 : zeroC Tryz.prog 62 = some [Value.slice none 0 0] := by kernel_rfl
theorem elS62 : elS Tryz.prog 62 = some 5 := by kernel_rfl
theorem lenT62 : lenT Tryz.prog 62 = 1 := by kernel_rfl
theorem slT62 : slT Tryz.prog 62 = some ⟨44, 5, 64, [Value.int .i64 0, Value.int .i64 0, Value.string ⟨#[]⟩, Value.int .i64 0, Value.slice none 0 0]⟩ := by kernel_rfl
theorem tyS78 : tyS Tryz.prog 78 = some (false, 1) := by kernel_rfl
theorem zeroC78 : zeroC Tryz.prog 78 = some [Value.slice none 0 0] := by kernel_rfl
theorem elS78 : elS Tryz.prog 78 = some 3 := by kernel_rfl
theorem lenT78 : lenT Tryz.prog 78 = 1 := by kernel_rfl
theorem slT78 : slT Tryz.prog 78 = some ⟨27, 3, 32, [Value.bool false, Value.int .i64 0, Value.string ⟨#[]⟩]⟩ := by kernel_rfl
theorem tyS82 : tyS Tryz.prog 82 = some (false, 1) := by kernel_rfl
theorem zeroC82 : zeroC Tryz.prog 82 = some [Value.slice none 0 0] := by kernel_rfl
theorem elS82 : elS Tryz.prog 82 = some 3 := by kernel_rfl
theorem lenT82 : lenT Tryz.prog 82 = 1 := by kernel_rfl
theorem slT82 : slT Tryz.prog 82 = some ⟨40, 3, 32, [Value.bool false, Value.int .i64 0, Value.string ⟨#[]⟩]⟩ := by kernel_rfl
theorem tyS106 : tyS Tryz.prog 106 = some (true, 6) := by kernel_rfl
theorem zeroC106 : zeroC Tryz.prog 106 = some [Value.int .i64 0, Value.bool false, Value.slice none 0 0, Value.slice none 0 0, Value.int .i64 0, Value.int .i64 0] := by kernel_rfl
theorem plcs106 : plcs Tryz.prog 106 = some [(0, 1), (1, 5)] := by kernel_rfl
theorem tyS107 : tyS Tryz.prog 107 = some (true, 6) := by kernel_rfl
theorem zeroC107 : zeroC Tryz.prog 107 = some [Value.int .i64 0, Value.bool false, Value.slice none 0 0, Value.slice none 0 0, Value.int .i64 0, Value.int .i64 0] := by kernel_rfl
theorem plcs107 : plcs Tryz.prog 107 = some [(0, 1), (1, 5)] := by kernel_rfl
theorem tyS113 : tyS Tryz.prog 113 = some (false, 1) := by kernel_rfl
theorem zeroC113 : zeroC Tryz.prog 113 = some [Value.pointer none] := by kernel_rfl
theorem tyS128 : tyS Tryz.prog 128 = some (true, 10) := by kernel_rfl
theorem zeroC128 : zeroC Tryz.prog 128 = some [Value.bool false, Value.int .i64 0, Value.string ⟨#[]⟩, Value.int .i64 0, Value.int .i64 0, Value.string ⟨#[]⟩, Value.int .i64 0, Value.slice none 0 0, Value.bool false, Value.int .i64 0] := by kernel_rfl
theorem plcs128 : plcs Tryz.prog 128 = some [(0, 3), (3, 5), (8, 1), (9, 1)] := by kernel_rfl
theorem tyS129 : tyS Tryz.prog 129 = some (true, 10) := by kernel_rfl
theorem zeroC129 : zeroC Tryz.prog 129 = some [Value.bool false, Value.int .i64 0, Value.string ⟨#[]⟩, Value.int .i64 0, Value.int .i64 0, Value.string ⟨#[]⟩, Value.int .i64 0, Value.slice none 0 0, Value.bool false, Value.int .i64 0] := by kernel_rfl
theorem plcs129 : plcs Tryz.prog 129 = some [(0, 3), (3, 5), (8, 1), (9, 1)] := by kernel_rfl
theorem tyS131 : tyS Tryz.prog 131 = some (true, 8) := by kernel_rfl
theorem zeroC131 : zeroC Tryz.prog 131 = some [Value.bool false, Value.int .i64 0, Value.string ⟨#[]⟩, Value.int .i64 0, Value.int .i64 0, Value.string ⟨#[]⟩, Value.int .i64 0, Value.slice none 0 0] := by kernel_rfl
theorem plcs131 : plcs Tryz.prog 131 = some [(0, 3), (3, 5)] := by kernel_rfl
theorem tyS132 : tyS Tryz.prog 132 = some (true, 8) := by kernel_rfl
theorem zeroC132 : zeroC Tryz.prog 132 = some [Value.bool false, Value.int .i64 0, Value.string ⟨#[]⟩, Value.int .i64 0, Value.int .i64 0, Value.string ⟨#[]⟩, Value.int .i64 0, Value.slice none 0 0] := by kernel_rfl
theorem plcs132 : plcs Tryz.prog 132 = some [(0, 3), (3, 5)] := by kernel_rfl
theorem tyS133 : tyS Tryz.prog 133 = some (true, 10) := by kernel_rfl
theorem zeroC133 : zeroC Tryz.prog 133 = some [Value.bool false, Value.int .i64 0, Value.string ⟨#[]⟩, Value.int .i64 0, Value.int .i64 0, Value.string ⟨#[]⟩, Value.int .i64 0, Value.slice none 0 0, Value.bool false, Value.int .i64 0] := by kernel_rfl
theorem plcs133 : plcs Tryz.prog 133 = some [(0, 3), (3, 5), (8, 1), (9, 1)] := by kernel_rfl
theorem tyS134 : tyS Tryz.prog 134 = some (true, 10) := by kernel_rfl
theorem zeroC134 : zeroC Tryz.prog 134 = some [Value.bool false, Value.int .i64 0, Value.string ⟨#[]⟩, Value.int .i64 0, Value.int .i64 0, Value.string ⟨#[]⟩, Value.int .i64 0, Value.slice none 0 0, Value.bool false, Value.int .i64 0] := by kernel_rfl
theorem plcs134 : plcs Tryz.prog 134 = some [(0, 3), (3, 5), (8, 1), (9, 1)] := by kernel_rfl
theorem tyS140 : tyS Tryz.prog 140 = some (true, 8) := by kernel_rfl
theorem zeroC140 : zeroC Tryz.prog 140 = some [Value.bool false, Value.int .i64 0, Value.string ⟨#[]⟩, Value.int .i64 0, Value.int .i64 0, Value.string ⟨#[]⟩, Value.int .i64 0, Value.slice none 0 0] := by kernel_rfl
theorem plcs140 : plcs Tryz.prog 140 = some [(0, 3), (3, 5)] := by kernel_rfl
theorem tyS141 : tyS Tryz.prog 141 = some (true, 8) := by kernel_rfl
theorem zeroC141 : zeroC Tryz.prog 141 = some [Value.bool false, Value.int .i64 0, Value.string ⟨#[]⟩, Value.int .i64 0, Value.int .i64 0, Value.string ⟨#[]⟩, Value.int .i64 0, Value.slice none 0 0] := by kernel_rfl
theorem plcs141 : plcs Tryz.prog 141 = some [(0, 3), (3, 5)] := by kernel_rfl
theorem tyS144 : tyS Tryz.prog 144 = some (false, 1) := by kernel_rfl
theorem zeroC144 : zeroC Tryz.prog 144 = some [Value.map none] := by kernel_rfl
theorem lenT144 : lenT Tryz.prog 144 = 2 := by kernel_rfl
theorem tyS149 : tyS Tryz.prog 149 = some (false, 1) := by kernel_rfl
theorem zeroC149 : zeroC Tryz.prog 149 = some [Value.pointer none] := by kernel_rfl
theorem tyS153 : tyS Tryz.prog 153 = some (true, 6) := by kernel_rfl
theorem zeroC153 : zeroC Tryz.prog 153 = some [Value.int .i64 0, Value.bool false, Value.slice none 0 0, Value.slice none 0 0, Value.int .i64 0, Value.int .i64 0] := by kernel_rfl
theorem plcs153 : plcs Tryz.prog 153 = some [(0, 1), (1, 5)] := by kernel_rfl
theorem tyS154 : tyS Tryz.prog 154 = some (true, 6) := by kernel_rfl
theorem zeroC154 : zeroC Tryz.prog 154 = some [Value.int .i64 0, Value.bool false, Value.slice none 0 0, Value.slice none 0 0, Value.int .i64 0, Value.int .i64 0] := by kernel_rfl
theorem plcs154 : plcs Tryz.prog 154 = some [(0, 1), (1, 5)] := by kernel_rfl
theorem tyS160 : tyS Tryz.prog 160 = some (false, 1) := by kernel_rfl
theorem zeroC160 : zeroC Tryz.prog 160 = some [Value.slice none 0 0] := by kernel_rfl
theorem elS160 : elS Tryz.prog 160 = some 1 := by kernel_rfl
theorem lenT160 : lenT Tryz.prog 160 = 1 := by kernel_rfl
theorem bytT160 : bytT Tryz.prog 160 = true := by kernel_rfl
theorem slT160 : slT Tryz.prog 160 = some ⟨5, 1, 1, [Value.int .u8 0]⟩ := by kernel_rfl
theorem tyS165 : tyS Tryz.prog 165 = some (false, 1) := by kernel_rfl
theorem zeroC165 : zeroC Tryz.prog 165 = some [Value.pointer none] := by kernel_rfl
theorem tyS181 : tyS Tryz.prog 181 = some (false, 1) := by kernel_rfl
theorem zeroC181 : zeroC Tryz.prog 181 = some [Value.pointer none] := by kernel_rfl
theorem tyS185 : tyS Tryz.prog 185 = some (false, 1) := by kernel_rfl
theorem zeroC185 : zeroC Tryz.prog 185 = some [Value.int .u64 0] := by kernel_rfl
theorem intT185 : intT Tryz.prog 185 = some .u64 := by kernel_rfl
theorem tyS188 : tyS Tryz.prog 188 = some (false, 1) := by kernel_rfl
theorem zeroC188 : zeroC Tryz.prog 188 = some [Value.int .u64 0] := by kernel_rfl
theorem intT188 : intT Tryz.prog 188 = some .u64 := by kernel_rfl
theorem tyS190 : tyS Tryz.prog 190 = some (true, 3) := by kernel_rfl
theorem zeroC190 : zeroC Tryz.prog 190 = some [Value.string ⟨#[]⟩, Value.string ⟨#[]⟩, Value.nilIface] := by kernel_rfl
theorem plcs190 : plcs Tryz.prog 190 = some [(0, 1), (1, 1), (2, 1)] := by kernel_rfl
theorem tyS191 : tyS Tryz.prog 191 = some (true, 3) := by kernel_rfl
theorem zeroC191 : zeroC Tryz.prog 191 = some [Value.string ⟨#[]⟩, Value.string ⟨#[]⟩, Value.nilIface] := by kernel_rfl
theorem plcs191 : plcs Tryz.prog 191 = some [(0, 1), (1, 1), (2, 1)] := by kernel_rfl
theorem tyS200 : tyS Tryz.prog 200 = some (false, 1) := by kernel_rfl
theorem zeroC200 : zeroC Tryz.prog 200 = some [Value.pointer none] := by kernel_rfl
theorem tyS201 : tyS Tryz.prog 201 = some (false, 1) := by kernel_rfl
theorem zeroC201 : zeroC Tryz.prog 201 = some [Value.pointer none] := by kernel_rfl
theorem tyS202 : tyS Tryz.prog 202 = some (true, 1) := by kernel_rfl
theorem zeroC202 : zeroC Tryz.prog 202 = some [Value.string ⟨#[]⟩] := by kernel_rfl
theorem plcs202 : plcs Tryz.prog 202 = some [(0, 1)] := by kernel_rfl
theorem tyS203 : tyS Tryz.prog 203 = some (true, 1) := by kernel_rfl
theorem zeroC203 : zeroC Tryz.prog 203 = some [Value.string ⟨#[]⟩] := by kernel_rfl
theorem plcs203 : plcs Tryz.prog 203 = some [(0, 1)] := by kernel_rfl
theorem tyS207 : tyS Tryz.prog 207 = some (false, 1) := by kernel_rfl
theorem zeroC207 : zeroC Tryz.prog 207 = some [Value.int .u32 0] := by kernel_rfl
theorem intT207 : intT Tryz.prog 207 = some .u32 := by kernel_rfl
attribute [go_sem] tyS2 zeroC2 intT2 tyS3 zeroC3 intT3 tyS4 zeroC4 isBool4 tyS5 zeroC5 intT5 tyS9 zeroC9 isStr9 lenT9 tyS12 zeroC12 intT12 tyS21 zeroC21 intT21 tyS22 zeroC22 elS22 lenT22 slT22 tyS23 zeroC23 elS23 lenT23 slT23 tyS24 zeroC24 plcs24 tyS25 zeroC25 plcs25 tyS26 zeroC26 plcs26 keyT26 tyS27 zeroC27 plcs27 keyT27 tyS28 zeroC28 elS28 lenT28 slT28 tyS29 zeroC29 plcs29 tyS30 zeroC30 plcs30 tyS34 zeroC34 elS34 lenT34 slT34 tyS35 zeroC35 plcs35 tyS36 zeroC36 plcs36 tyS40 zeroC40 plcs40 keyT40 tyS42 zeroC42 elS42 lenT42 slT42 tyS43 zeroC43 plcs43 tyS44 zeroC44 plcs44 tyS51 zeroC51 elS51 lenT51 slT51 tyS52 zeroC52 plcs52 tyS53 zeroC53 plcs53 tyS54 zeroC54 elS54 lenT54 slT54 tyS58 zeroC58 elS58 lenT58 slT58 tyS59 zeroC59 plcs59 tyS60 zeroC60 plcs60 tyS62 zeroC62 elS62 lenT62 slT62 tyS78 zeroC78 elS78 lenT78 slT78 tyS82 zeroC82 elS82 lenT82 slT82 tyS106 zeroC106 plcs106 tyS107 zeroC107 plcs107 tyS113 zeroC113 tyS128 zeroC128 plcs128 tyS129 zeroC129 plcs129 tyS131 zeroC131 plcs131 tyS132 zeroC132 plcs132 tyS133 zeroC133 plcs133 tyS134 zeroC134 plcs134 tyS140 zeroC140 plcs140 tyS141 zeroC141 plcs141 tyS144 zeroC144 lenT144 tyS149 zeroC149 tyS153 zeroC153 plcs153 tyS154 zeroC154 plcs154 tyS160 zeroC160 elS160 lenT160 bytT160 slT160 tyS165 zeroC165 tyS181 zeroC181 tyS185 zeroC185 intT185 tyS188 zeroC188 intT188 tyS190 zeroC190 plcs190 tyS191 zeroC191 plcs191 tyS200 zeroC200 tyS201 zeroC201 tyS202 zeroC202 plcs202 tyS203 zeroC203 plcs203 tyS207 zeroC207 intT207
end Go.Proofs.YtedfplodobpgfaaGreatDoor
