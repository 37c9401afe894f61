/-
  The statement FnExactSetShared is proved: for each argument the law returns true; nothing is assumed.
-/
import Derived.Test.YtedfplodobpgfaaGreatDoorRows
import Derived.Test.YtedfplodobpgfaaGreatDoorSxBag
import Derived.Shelf.Strconv.Atoi
import Derived.Shelf.Strconv.Itoa0
import Derived.Shelf.Strconv.Itoa1
import Derived.Shelf.LaysM
import Derived.Shelf.Strconv.Itoa2
import Derived.Shelf.Strconv.Itoa3
import Derived.Shelf.Strconv.AtoiErrFast
import Derived.Shelf.Strconv.ParseIntEmpty
import Derived.Shelf.Strconv.AtoiFail
import Derived.Shelf.Strconv.Clone
import Derived.Shelf.Strconv.SyntaxError
import Derived.Shelf.LaysC
import Derived.Shelf.Strconv.ToError
import Derived.Shelf.Strconv.Lower
import Derived.Shelf.Strconv.ParseUint10
import Derived.Shelf.Strconv.ParseUint10Empty
import Derived.Shelf.Strconv.ParseUint10Any
import Derived.Shelf.Strconv.ParseInt10
import Derived.Shelf.Strconv.AtoiLong
import Derived.Shelf.Strconv.AtoiInnerAll
import Derived.Shelf.Strconv.RangeError
import Derived.Shelf.Strconv.ToErrorRange
import Derived.Shelf.Strconv.AtoiAll
import Derived.Shelf.Strconv.ErrVarAll
import Derived.Test.YtedfplodobpgfaaGreatDoorProg
import Derived.Test.YtedfplodobpgfaaGreatDoorSxLib
import Derived.LaidSub
import Derived.MakeChecks
import Derived.Test.YtedfplodobpgfaaGreatDoorSxCanon
import Derived.Lib.AtoiErrMem
import Derived.Test.YtedfplodobpgfaaGreatDoorSxLaw
import Derived.Test.YtedfplodobpgfaaGreatDoorSxDataT
import Derived.Test.YtedfplodobpgfaaGreatDoorSxDataV
import Derived.Lib.AtoiAllCases
import Derived.Test.YtedfplodobpgfaaGreatDoorSxMathV
import Derived.Test.YtedfplodobpgfaaGreatDoorSxValid
import Derived.Test.YtedfplodobpgfaaGreatDoorSxMaps
import Derived.Test.YtedfplodobpgfaaGreatDoorSxHole
namespace Go.Proofs.YtedfplodobpgfaaGreatDoor
open Go Go.Sx
theorem tyS2 : tyS Tryz.prog 2 = some (false, 1) := by kernel_rfl
theorem zeroC2 : zeroC Tryz.prog 2 = some [Value.int .i64 0] := by kernel_rfl
theorem intT2 : intT Tryz.prog 2 = some .i64 := by kernel_rfl
theorem tyS3 : tyS Tryz.prog 3 = some (false, 1) := by kernel_rfl
theorem zeroC3 : zeroC Tryz.prog 3 = some [Value.int .i64 0] := by kernel_rfl
theorem intT3 : intT Tryz.prog 3 = some .i64 := by kernel_rfl
theorem tyS4 : tyS Tryz.prog 4 = some (false, 1) := by kernel_rfl
theorem zeroC4 : zeroC Tryz.prog 4 = some [Value.bool false] := by kernel_rfl
theorem isBool4 : isBoolT Tryz.prog 4 = true := by kernel_rfl
theorem tyS5 : tyS Tryz.prog 5 = some (false, 1) := by kernel_rfl
theorem zeroC5 : zeroC Tryz.prog 5 = some [Value.int .u8 0] := by kernel_rfl
theorem intT5 : intT Tryz.prog 5 = some .u8 := by kernel_rfl
theorem tyS9 : tyS Tryz.prog 9 = some (false, 1) := by kernel_rfl
theorem zeroC9 : zeroC Tryz.prog 9 = some [Value.string ⟨#[]⟩] := by kernel_rfl
theorem isStr9 : isStr Tryz.prog 9 = true := by kernel_rfl
theorem lenT9 : lenT Tryz.prog 9 = 0 := by kernel_rfl
theorem tyS12 : tyS Tryz.prog 12 = some (false, 1) := by kernel_rfl
theorem zeroC12 : zeroC Tryz.prog 12 = some [Value.int .u64 0] := by kernel_rfl
theorem intT12 : intT Tryz.prog 12 = some .u64 := by kernel_rfl
theorem tyS21 : tyS Tryz.prog 21 = some (false, 1) := by kernel_rfl
theorem zeroC21 : zeroC Tryz.prog 21 = some [Value.int .i32 0] := by kernel_rfl
theorem intT21 : intT Tryz.prog 21 = some .i32 := by kernel_rfl
theorem tyS22 : tyS Tryz.prog 22 = some (false, 1) := by kernel_rfl
theorem zeroC22 : zeroC Tryz.prog 22 = some [Value.slice none 0 0] := by kernel_rfl
theorem elS22 : elS Tryz.prog 22 = some 1 := by kernel_rfl
theorem lenT22 : lenT Tryz.prog 22 = 1 := by kernel_rfl
theorem slT22 : slT Tryz.prog 22 = some ⟨3, 1, 8, [Value.int .i64 0]⟩ := by kernel_rfl
theorem tyS23 : tyS Tryz.prog 23 = some (false, 1) := by kernel_rfl
theorem zeroC23 : zeroC Tryz.prog 23 = some [Value.slice none 0 0] := by kernel_rfl
theorem elS23 : elS Tryz.prog 23 = some 10 := by kernel_rfl
theorem lenT23 : lenT Tryz.prog 23 = 1 := by kernel_rfl
theorem slT23 : slT Tryz.prog 23 = some ⟨129, 10, 112, [Value.bool false, Value.int .i64 0, Value.string ⟨#[]⟩, Value.int .i64 0, Value.int .i64 0, Value.string ⟨#[]⟩, Value.int .i64 0, Value.slice none 0 0, Value.bool false, Value.int .i64 0]⟩ := by kernel_rfl
theorem tyS24 : tyS Tryz.prog 24 = some (true, 5) := by kernel_rfl
theorem zeroC24 : zeroC Tryz.prog 24 = some [Value.bool false, Value.slice none 0 0, Value.slice none 0 0, Value.int .i64 0, Value.int .i64 0] := by kernel_rfl
theorem plcs24 : plcs Tryz.prog 24 = some [(0, 1), (1, 1), (2, 1), (3, 1), (4, 1)] := by kernel_rfl
theorem tyS25 : tyS Tryz.prog 25 = some (true, 5) := by kernel_rfl
theorem zeroC25 : zeroC Tryz.prog 25 = some [Value.bool false, Value.slice none 0 0, Value.slice none 0 0, Value.int .i64 0, Value.int .i64 0] := by kernel_rfl
theorem plcs25 : plcs Tryz.prog 25 = some [(0, 1), (1, 1), (2, 1), (3, 1), (4, 1)] := by kernel_rfl
theorem tyS26 : tyS Tryz.prog 26 = some (true, 3) := by kernel_rfl
theorem zeroC26 : zeroC Tryz.prog 26 = some [Value.bool false, Value.int .i64 0, Value.string ⟨#[]⟩] := by kernel_rfl
theorem plcs26 : plcs Tryz.prog 26 = some [(0, 1), (1, 1), (2, 1)] := by kernel_rfl
theorem keyT26 : keyT Tryz.prog 26 = true := by kernel_rfl
theorem tyS27 : tyS Tryz.prog 27 = some (true, 3) := by kernel_rfl
theorem zeroC27 : zeroC Tryz.prog 27 = some [Value.bool false, Value.int .i64 0, Value.string ⟨#[]⟩] := by kernel_rfl
theorem plcs27 : plcs Tryz.prog 27 = some [(0, 1), (1, 1), (2, 1)] := by kernel_rfl
theorem keyT27 : keyT Tryz.prog 27 = true := by kernel_rfl
theorem tyS28 : tyS Tryz.prog 28 = some (false, 1) := by kernel_rfl
theorem zeroC28 : zeroC Tryz.prog 28 = some [Value.slice none 0 0] := by kernel_rfl
theorem elS28 : elS Tryz.prog 28 = some 8 := by kernel_rfl
theorem lenT28 : lenT Tryz.prog 28 = 1 := by kernel_rfl
theorem slT28 : slT Tryz.prog 28 = some ⟨132, 8, 96, [Value.bool false, Value.int .i64 0, Value.string ⟨#[]⟩, Value.int .i64 0, Value.int .i64 0, Value.string ⟨#[]⟩, Value.int .i64 0, Value.slice none 0 0]⟩ := by kernel_rfl
theorem tyS29 : tyS Tryz.prog 29 = some (true, 5) := by kernel_rfl
theorem zeroC29 : zeroC Tryz.prog 29 = some [Value.int .i64 0, Value.int .i64 0, Value.string ⟨#[]⟩, Value.int .i64 0, Value.slice none 0 0] := by kernel_rfl
theorem plcs29 : plcs Tryz.prog 29 = some [(0, 1), (1, 1), (2, 1), (3, 1), (4, 1)] := by kernel_rfl
theorem tyS30 : tyS Tryz.prog 30 = some (true, 5) := by kernel_rfl
theorem zeroC30 : zeroC Tryz.prog 30 = some [Value.int .i64 0, Value.int .i64 0, Value.string ⟨#[]⟩, Value.int .i64 0, Value.slice none 0 0] := by kernel_rfl
theorem plcs30 : plcs Tryz.prog 30 = some [(0, 1), (1, 1), (2, 1), (3, 1), (4, 1)] := by kernel_rfl
theorem tyS34 : tyS Tryz.prog 34 = some (false, 1) := by kernel_rfl
theorem zeroC34 : zeroC Tryz.prog 34 = some [Value.slice none 0 0] := by kernel_rfl
theorem elS34 : elS Tryz.prog 34 = some 10 := by kernel_rfl
theorem lenT34 : lenT Tryz.prog 34 = 1 := by kernel_rfl
theorem slT34 : slT Tryz.prog 34 = some ⟨134, 10, 112, [Value.bool false, Value.int .i64 0, Value.string ⟨#[]⟩, Value.int .i64 0, Value.int .i64 0, Value.string ⟨#[]⟩, Value.int .i64 0, Value.slice none 0 0, Value.bool false, Value.int .i64 0]⟩ := by kernel_rfl
theorem tyS35 : tyS Tryz.prog 35 = some (true, 5) := by kernel_rfl
theorem zeroC35 : zeroC Tryz.prog 35 = some [Value.bool false, Value.slice none 0 0, Value.slice none 0 0, Value.int .i64 0, Value.int .i64 0] := by kernel_rfl
theorem plcs35 : plcs Tryz.prog 35 = some [(0, 1), (1, 1), (2, 1), (3, 1), (4, 1)] := by kernel_rfl
theorem tyS36 : tyS Tryz.prog 36 = some (true, 5) := by kernel_rfl
theorem zeroC36 : zeroC Tryz.prog 36 = some [Value.bool false, Value.slice none 0 0, Value.slice none 0 0, Value.int .i64 0, Value.int .i64 0] := by kernel_rfl
theorem plcs36 : plcs Tryz.prog 36 = some [(0, 1), (1, 1), (2, 1), (3, 1), (4, 1)] := by kernel_rfl
theorem tyS40 : tyS Tryz.prog 40 = some (true, 3) := by kernel_rfl
theorem zeroC40 : zeroC Tryz.prog 40 = some [Value.bool false, Value.int .i64 0, Value.string ⟨#[]⟩] := by kernel_rfl
theorem plcs40 : plcs Tryz.prog 40 = some [(0, 1), (1, 1), (2, 1)] := by kernel_rfl
theorem keyT40 : keyT Tryz.prog 40 = true := by kernel_rfl
theorem tyS42 : tyS Tryz.prog 42 = some (false, 1) := by kernel_rfl
theorem zeroC42 : zeroC Tryz.prog 42 = some [Value.slice none 0 0] := by kernel_rfl
theorem elS42 : elS Tryz.prog 42 = some 8 := by kernel_rfl
theorem lenT42 : lenT Tryz.prog 42 = 1 := by kernel_rfl
theorem slT42 : slT Tryz.prog 42 = some ⟨141, 8, 96, [Value.bool false, Value.int .i64 0, Value.string ⟨#[]⟩, Value.int .i64 0, Value.int .i64 0, Value.string ⟨#[]⟩, Value.int .i64 0, Value.slice none 0 0]⟩ := by kernel_rfl
theorem tyS43 : tyS Tryz.prog 43 = some (true, 5) := by kernel_rfl
theorem zeroC43 : zeroC Tryz.prog 43 = some [Value.int .i64 0, Value.int .i64 0, Value.string ⟨#[]⟩, Value.int .i64 0, Value.slice none 0 0] := by kernel_rfl
theorem plcs43 : plcs Tryz.prog 43 = some [(0, 1), (1, 1), (2, 1), (3, 1), (4, 1)] := by kernel_rfl
theorem tyS44 : tyS Tryz.prog 44 = some (true, 5) := by kernel_rfl
theorem zeroC44 : zeroC Tryz.prog 44 = some [Value.int .i64 0, Value.int .i64 0, Value.string ⟨#[]⟩, Value.int .i64 0, Value.slice none 0 0] := by kernel_rfl
theorem plcs44 : plcs Tryz.prog 44 = some [(0, 1), (1, 1), (2, 1), (3, 1), (4, 1)] := by kernel_rfl
theorem tyS51 : tyS Tryz.prog 51 = some (false, 1) := by kernel_rfl
theorem zeroC51 : zeroC Tryz.prog 51 = some [Value.slice none 0 0] := by kernel_rfl
theorem elS51 : elS Tryz.prog 51 = some 6 := by kernel_rfl
theorem lenT51 : lenT Tryz.prog 51 = 1 := by kernel_rfl
theorem slT51 : slT Tryz.prog 51 = some ⟨154, 6, 80, [Value.int .i64 0, Value.bool false, Value.slice none 0 0, Value.slice none 0 0, Value.int .i64 0, Value.int .i64 0]⟩ := by kernel_rfl
theorem tyS52 : tyS Tryz.prog 52 = some (true, 1) := by kernel_rfl
theorem zeroC52 : zeroC Tryz.prog 52 = some [Value.slice none 0 0] := by kernel_rfl
theorem plcs52 : plcs Tryz.prog 52 = some [(0, 1)] := by kernel_rfl
theorem tyS53 : tyS Tryz.prog 53 = some (true, 1) := by kernel_rfl
theorem zeroC53 : zeroC Tryz.prog 53 = some [Value.slice none 0 0] := by kernel_rfl
theorem plcs53 : plcs Tryz.prog 53 = some [(0, 1)] := by kernel_rfl
theorem tyS54 : tyS Tryz.prog 54 = some (false, 1) := by kernel_rfl
theorem zeroC54 : zeroC Tryz.prog 54 = some [Value.slice none 0 0] := by kernel_rfl
theorem elS54 : elS Tryz.prog 54 = some 5 := by kernel_rfl
theorem lenT54 : lenT Tryz.prog 54 = 1 := by kernel_rfl
theorem slT54 : slT Tryz.prog 54 = some ⟨30, 5, 64, [Value.int .i64 0, Value.int .i64 0, Value.string ⟨#[]⟩, Value.int .i64 0, Value.slice none 0 0]⟩ := by kernel_rfl
theorem tyS58 : tyS Tryz.prog 58 = some (false, 1) := by kernel_rfl
theorem zeroC58 : zeroC Tryz.prog 58 = some [Value.slice none 0 0] := by kernel_rfl
theorem elS58 : elS Tryz.prog 58 = some 6 := by kernel_rfl
theorem lenT58 : lenT Tryz.prog 58 = 1 := by kernel_rfl
theorem slT58 : slT Tryz.prog 58 = some ⟨107, 6, 80, [Value.int .i64 0, Value.bool false, Value.slice none 0 0, Value.slice none 0 0, Value.int .i64 0, Value.int .i64 0]⟩ := by kernel_rfl
theorem tyS59 : tyS Tryz.prog 59 = some (true, 1) := by kernel_rfl
theorem zeroC59 : zeroC Tryz.prog 59 = some [Value.slice none 0 0] := by kernel_rfl
theorem plcs59 : plcs Tryz.prog 59 = some [(0, 1)] := by kernel_rfl
theorem tyS60 : tyS Tryz.prog 60 = some (true, 1) := by kernel_rfl
theorem zeroC60 : zeroC Tryz.prog 60 = some [Value.slice none 0 0] := by kernel_rfl
theorem plcs60 : plcs Tryz.prog 60 = some [(0, 1)] := by kernel_rfl
theorem tyS62 : tyS Tryz.prog 62 = some (false, 1) := by kernel_rfl
theorem zeroC62 : zeroC Tryz.prog 62 = some [Value.slice none 0 0] := by kernel_rfl
theorem elS62 : elS Tryz.prog 62 = some 5 := by kernel_rfl
theorem lenT62 : lenT Tryz.prog 62 = 1 := by kernel_rfl
theorem slT62 : slT Tryz.prog 62 = some ⟨44, 5, 64, [Value.int .i64 0, Value.int .i64 0, Value.string ⟨#[]⟩, Value.int .i64 0, Value.slice none 0 0]⟩ := by kernel_rfl
theorem tyS78 : tyS Tryz.prog 78 = some (false, 1) := by kernel_rfl
theorem zeroC78 : zeroC Tryz.prog 78 = some [Value.slice none 0 0] := by kernel_rfl
theorem elS78 : elS Tryz.prog 78 = some 3 := by kernel_rfl
theorem lenT78 : lenT Tryz.prog 78 = 1 := by kernel_rfl
theorem slT78 : slT Tryz.prog 78 = some ⟨27, 3, 32, [Value.bool false, Value.int .i64 0, Value.string ⟨#[]⟩]⟩ := by kernel_rfl
theorem tyS82 : tyS Tryz.prog 82 = some (false, 1) := by kernel_rfl
theorem zeroC82 : zeroC Tryz.prog 82 = some [Value.slice none 0 0] := by kernel_rfl
theorem elS82 : elS Tryz.prog 82 = some 3 := by kernel_rfl
theorem lenT82 : lenT Tryz.prog 82 = 1 := by kernel_rfl
theorem slT82 : slT Tryz.prog 82 = some ⟨40, 3, 32, [Value.bool false, Value.int .i64 0, Value.string ⟨#[]⟩]⟩ := by kernel_rfl
theorem tyS106 : tyS Tryz.prog 106 = some (true, 6) := by kernel_rfl
theorem zeroC106 : zeroC Tryz.prog 106 = some [Value.int .i64 0, Value.bool false, Value.slice none 0 0, Value.slice none 0 0, Value.int .i64 0, Value.int .i64 0] := by kernel_rfl
theorem plcs106 : plcs Tryz.prog 106 = some [(0, 1), (1, 5)] := by kernel_rfl
theorem tyS107 : tyS Tryz.prog 107 = some (true, 6) := by kernel_rfl
theorem zeroC107 : zeroC Tryz.prog 107 = some [Value.int .i64 0, Value.bool false, Value.slice none 0 0, Value.slice none 0 0, Value.int .i64 0, Value.int .i64 0] := by kernel_rfl
theorem plcs107 : plcs Tryz.prog 107 = some [(0, 1), (1, 5)] := by kernel_rfl
theorem tyS113 : tyS Tryz.prog 113 = some (false, 1) := by kernel_rfl
theorem zeroC113 : zeroC Tryz.prog 113 = some [Value.pointer none] := by kernel_rfl
theorem tyS128 : tyS Tryz.prog 128 = some (true, 10) := by kernel_rfl
theorem zeroC128 : zeroC Tryz.prog 128 = some [Value.bool false, Value.int .i64 0, Value.string ⟨#[]⟩, Value.int .i64 0, Value.int .i64 0, Value.string ⟨#[]⟩, Value.int .i64 0, Value.slice none 0 0, Value.bool false, Value.int .i64 0] := by kernel_rfl
theorem plcs128 : plcs Tryz.prog 128 = some [(0, 3), (3, 5), (8, 1), (9, 1)] := by kernel_rfl
theorem tyS129 : tyS Tryz.prog 129 = some (true, 10) := by kernel_rfl
theorem zeroC129 : zeroC Tryz.prog 129 = some [Value.bool false, Value.int .i64 0, Value.string ⟨#[]⟩, Value.int .i64 0, Value.int .i64 0, Value.string ⟨#[]⟩, Value.int .i64 0, Value.slice none 0 0, Value.bool false, Value.int .i64 0] := by kernel_rfl
theorem plcs129 : plcs Tryz.prog 129 = some [(0, 3), (3, 5), (8, 1), (9, 1)] := by kernel_rfl
theorem tyS131 : tyS Tryz.prog 131 = some (true, 8) := by kernel_rfl
theorem zeroC131 : zeroC Tryz.prog 131 = some [Value.bool false, Value.int .i64 0, Value.string ⟨#[]⟩, Value.int .i64 0, Value.int .i64 0, Value.string ⟨#[]⟩, Value.int .i64 0, Value.slice none 0 0] := by kernel_rfl
theorem plcs131 : plcs Tryz.prog 131 = some [(0, 3), (3, 5)] := by kernel_rfl
theorem tyS132 : tyS Tryz.prog 132 = some (true, 8) := by kernel_rfl
theorem zeroC132 : zeroC Tryz.prog 132 = some [Value.bool false, Value.int .i64 0, Value.string ⟨#[]⟩, Value.int .i64 0, Value.int .i64 0, Value.string ⟨#[]⟩, Value.int .i64 0, Value.slice none 0 0] := by kernel_rfl
theorem plcs132 : plcs Tryz.prog 132 = some [(0, 3), (3, 5)] := by kernel_rfl
theorem tyS133 : tyS Tryz.prog 133 = some (true, 10) := by kernel_rfl
theorem zeroC133 : zeroC Tryz.prog 133 = some [Value.bool false, Value.int .i64 0, Value.string ⟨#[]⟩, Value.int .i64 0, Value.int .i64 0, Value.string ⟨#[]⟩, Value.int .i64 0, Value.slice none 0 0, Value.bool false, Value.int .i64 0] := by kernel_rfl
theorem plcs133 : plcs Tryz.prog 133 = some [(0, 3), (3, 5), (8, 1), (9, 1)] := by kernel_rfl
theorem tyS134 : tyS Tryz.prog 134 = some (true, 10) := by kernel_rfl
theorem zeroC134 : zeroC Tryz.prog 134 = some [Value.bool false, Value.int .i64 0, Value.string ⟨#[]⟩, Value.int .i64 0, Value.int .i64 0, Value.string ⟨#[]⟩, Value.int .i64 0, Value.slice none 0 0, Value.bool false, Value.int .i64 0] := by kernel_rfl
theorem plcs134 : plcs Tryz.prog 134 = some [(0, 3), (3, 5), (8, 1), (9, 1)] := by kernel_rfl
theorem tyS140 : tyS Tryz.prog 140 = some (true, 8) := by kernel_rfl
theorem zeroC140 : zeroC Tryz.prog 140 = some [Value.bool false, Value.int .i64 0, Value.string ⟨#[]⟩, Value.int .i64 0, Value.int .i64 0, Value.string ⟨#[]⟩, Value.int .i64 0, Value.slice none 0 0] := by kernel_rfl
theorem plcs140 : plcs Tryz.prog 140 = some [(0, 3), (3, 5)] := by kernel_rfl
theorem tyS141 : tyS Tryz.prog 141 = some (true, 8) := by kernel_rfl
theorem zeroC141 : zeroC Tryz.prog 141 = some [Value.bool false, Value.int .i64 0, Value.string ⟨#[]⟩, Value.int .i64 0, Value.int .i64 0, Value.string ⟨#[]⟩, Value.int .i64 0, Value.slice none 0 0] := by kernel_rfl
theorem plcs141 : plcs Tryz.prog 141 = some [(0, 3), (3, 5)] := by kernel_rfl
theorem tyS144 : tyS Tryz.prog 144 = some (false, 1) := by kernel_rfl
theorem zeroC144 : zeroC Tryz.prog 144 = some [Value.map none] := by kernel_rfl
theorem lenT144 : lenT Tryz.prog 144 = 2 := by kernel_rfl
theorem tyS149 : tyS Tryz.prog 149 = some (false, 1) := by kernel_rfl
theorem zeroC149 : zeroC Tryz.prog 149 = some [Value.pointer none] := by kernel_rfl
theorem tyS153 : tyS Tryz.prog 153 = some (true, 6) := by kernel_rfl
theorem zeroC153 : zeroC Tryz.prog 153 = some [Value.int .i64 0, Value.bool false, Value.slice none 0 0, Value.slice none 0 0, Value.int .i64 0, Value.int .i64 0] := by kernel_rfl
theorem plcs153 : plcs Tryz.prog 153 = some [(0, 1), (1, 5)] := by kernel_rfl
theorem tyS154 : tyS Tryz.prog 154 = some (true, 6) := by kernel_rfl
theorem zeroC154 : zeroC Tryz.prog 154 = some [Value.int .i64 0, Value.bool false, Value.slice none 0 0, Value.slice none 0 0, Value.int .i64 0, Value.int .i64 0] := by kernel_rfl
theorem plcs154 : plcs Tryz.prog 154 = some [(0, 1), (1, 5)] := by kernel_rfl
theorem tyS160 : tyS Tryz.prog 160 = some (false, 1) := by kernel_rfl
theorem zeroC160 : zeroC Tryz.prog 160 = some [Value.slice none 0 0] := by kernel_rfl
theorem elS160 : elS Tryz.prog 160 = some 1 := by kernel_rfl
theorem lenT160 : lenT Tryz.prog 160 = 1 := by kernel_rfl
theorem bytT160 : bytT Tryz.prog 160 = true := by kernel_rfl
theorem slT160 : slT Tryz.prog 160 = some ⟨5, 1, 1, [Value.int .u8 0]⟩ := by kernel_rfl
theorem tyS165 : tyS Tryz.prog 165 = some (false, 1) := by kernel_rfl
theorem zeroC165 : zeroC Tryz.prog 165 = some [Value.pointer none] := by kernel_rfl
theorem tyS181 : tyS Tryz.prog 181 = some (false, 1) := by kernel_rfl
theorem zeroC181 : zeroC Tryz.prog 181 = some [Value.pointer none] := by kernel_rfl
theorem tyS185 : tyS Tryz.prog 185 = some (false, 1) := by kernel_rfl
theorem zeroC185 : zeroC Tryz.prog 185 = some [Value.int .u64 0] := by kernel_rfl
theorem intT185 : intT Tryz.prog 185 = some .u64 := by kernel_rfl
theorem tyS188 : tyS Tryz.prog 188 = some (false, 1) := by kernel_rfl
theorem zeroC188 : zeroC Tryz.prog 188 = some [Value.int .u64 0] := by kernel_rfl
theorem intT188 : intT Tryz.prog 188 = some .u64 := by kernel_rfl
theorem tyS190 : tyS Tryz.prog 190 = some (true, 3) := by kernel_rfl
theorem zeroC190 : zeroC Tryz.prog 190 = some [Value.string ⟨#[]⟩, Value.string ⟨#[]⟩, Value.nilIface] := by kernel_rfl
theorem plcs190 : plcs Tryz.prog 190 = some [(0, 1), (1, 1), (2, 1)] := by kernel_rfl
theorem tyS191 : tyS Tryz.prog 191 = some (true, 3) := by kernel_rfl
theorem zeroC191 : zeroC Tryz.prog 191 = some [Value.string ⟨#[]⟩, Value.string ⟨#[]⟩, Value.nilIface] := by kernel_rfl
theorem plcs191 : plcs Tryz.prog 191 = some [(0, 1), (1, 1), (2, 1)] := by kernel_rfl
theorem tyS200 : tyS Tryz.prog 200 = some (false, 1) := by kernel_rfl
theorem zeroC200 : zeroC Tryz.prog 200 = some [Value.pointer none] := by kernel_rfl
theorem tyS201 : tyS Tryz.prog 201 = some (false, 1) := by kernel_rfl
theorem zeroC201 : zeroC Tryz.prog 201 = some [Value.pointer none] := by kernel_rfl
theorem tyS202 : tyS Tryz.prog 202 = some (true, 1) := by kernel_rfl
theorem zeroC202 : zeroC Tryz.prog 202 = some [Value.string ⟨#[]⟩] := by kernel_rfl
theorem plcs202 : plcs Tryz.prog 202 = some [(0, 1)] := by kernel_rfl
theorem tyS203 : tyS Tryz.prog 203 = some (true, 1) := by kernel_rfl
theorem zeroC203 : zeroC Tryz.prog 203 = some [Value.string ⟨#[]⟩] := by kernel_rfl
theorem plcs203 : plcs Tryz.prog 203 = some [(0, 1)] := by kernel_rfl
theorem tyS207 : tyS Tryz.prog 207 = some (false, 1) := by kernel_rfl
theorem zeroC207 : zeroC Tryz.prog 207 = some [Value.int .u32 0] := by kernel_rfl
theorem intT207 : intT Tryz.prog 207 = some .u32 := by kernel_rfl
attribute [go_sem] tyS2 zeroC2 intT2 tyS3 zeroC3 intT3 tyS4 zeroC4 isBool4 tyS5 zeroC5 intT5 tyS9 zeroC9 isStr9 lenT9 tyS12 zeroC12 intT12 tyS21 zeroC21 intT21 tyS22 zeroC22 elS22 lenT22 slT22 tyS23 zeroC23 elS23 lenT23 slT23 tyS24 zeroC24 plcs24 tyS25 zeroC25 plcs25 tyS26 zeroC26 plcs26 keyT26 tyS27 zeroC27 plcs27 keyT27 tyS28 zeroC28 elS28 lenT28 slT28 tyS29 zeroC29 plcs29 tyS30 zeroC30 plcs30 tyS34 zeroC34 elS34 lenT34 slT34 tyS35 zeroC35 plcs35 tyS36 zeroC36 plcs36 tyS40 zeroC40 plcs40 keyT40 tyS42 zeroC42 elS42 lenT42 slT42 tyS43 zeroC43 plcs43 tyS44 zeroC44 plcs44 tyS51 zeroC51 elS51 lenT51 slT51 tyS52 zeroC52 plcs52 tyS53 zeroC53 plcs53 tyS54 zeroC54 elS54 lenT54 slT54 tyS58 zeroC58 elS58 lenT58 slT58 tyS59 zeroC59 plcs59 tyS60 zeroC60 plcs60 tyS62 zeroC62 elS62 lenT62 slT62 tyS78 zeroC78 elS78 lenT78 slT78 tyS82 zeroC82 elS82 lenT82 slT82 tyS106 zeroC106 plcs106 tyS107 zeroC107 plcs107 tyS113 zeroC113 tyS128 zeroC128 plcs128 tyS129 zeroC129 plcs129 tyS131 zeroC131 plcs131 tyS132 zeroC132 plcs132 tyS133 zeroC133 plcs133 tyS134 zeroC134 plcs134 tyS140 zeroC140 plcs140 tyS141 zeroC141 plcs141 tyS144 zeroC144 lenT144 tyS149 zeroC149 tyS153 zeroC153 plcs153 tyS154 zeroC154 plcs154 tyS160 zeroC160 elS160 lenT160 bytT160 slT160 tyS165 zeroC165 tyS181 zeroC181 tyS185 zeroC185 intT185 tyS188 zeroC188 intT188 tyS190 zeroC190 plcs190 tyS191 zeroC191 plcs191 tyS200 zeroC200 tyS201 zeroC201 tyS202 zeroC202 plcs202 tyS203 zeroC203 plcs203 tyS207 zeroC207 intT207
end Go.Proofs.YtedfplodobpgfaaGreatDoor
namespace Go.Proofs
open Go.Shelf
def Tryz.laysM171_ren : Go.Shelf.Ren := ⟨fun | 171 => 168 | 243 => 171 | 246 => 177 | 283 => 181 | 284 => 182 | 285 => 183 | 286 => 184 | 129 => 188 | 317 => 187 | 318 => 189 | 319 => 190 | 320 => 191 | 337 => 192 | 338 => 193 | n => n, fun | 3 => 3 | 9 => 9 | 2 => 2 | 4 => 4 | 171 => 193 | 0 => 0 | 53 => 185 | 37 => 160 | 5 => 5 | 173 => 196 | 212 => 206 | 51 => 207 | 20 => 20 | 213 => 208 | 46 => 188 | 232 => 212 | 233 => 213 | n => n, fun | 17 => 2 | 18 => 3 | 19 => 4 | n => n⟩
theorem Tryz.laysM171 : Go.Proofs.LaysM.n171 Tryz.prog Tryz.laysM171_ren := {
  mixed := by kernel_rfl
  f129 := Tryz.func188.trans (congrArg some (by kernel_rfl))
  f171 := Tryz.func168.trans (congrArg some (by kernel_rfl))
  f243 := Tryz.func171.trans (congrArg some (by kernel_rfl))
  f246 := Tryz.func177.trans (congrArg some (by kernel_rfl))
  f283 := Tryz.func181.trans (congrArg some (by kernel_rfl))
  f284 := Tryz.func182.trans (congrArg some (by kernel_rfl))
  f285 := Tryz.func183.trans (congrArg some (by kernel_rfl))
  f286 := Tryz.func184.trans (congrArg some (by kernel_rfl))
  f317 := Tryz.func187.trans (congrArg some (by kernel_rfl))
  f318 := Tryz.func189.trans (congrArg some (by kernel_rfl))
  f319 := Tryz.func190.trans (congrArg some (by kernel_rfl))
  f320 := Tryz.func191.trans (congrArg some (by kernel_rfl))
  f337 := Tryz.func192.trans (congrArg some (by kernel_rfl))
  f338 := Tryz.func193.trans (congrArg some (by kernel_rfl))
  t0 := Tryz.underlying0
  a0 := Tryz.isAgg0
  z0 := Tryz.sizeOf0
  v0 := Tryz.zeroValue0
  t2 := Tryz.underlying2
  a2 := Tryz.isAgg2
  z2 := Tryz.sizeOf2
  v2 := Tryz.zeroValue2
  t3 := Tryz.underlying3
  a3 := Tryz.isAgg3
  z3 := Tryz.sizeOf3
  v3 := Tryz.zeroValue3
  t4 := Tryz.underlying4
  a4 := Tryz.isAgg4
  z4 := Tryz.sizeOf4
  v4 := Tryz.zeroValue4
  t5 := Tryz.underlying5
  a5 := Tryz.isAgg5
  z5 := Tryz.sizeOf5
  v5 := Tryz.zeroValue5
  t9 := Tryz.underlying9
  a9 := Tryz.isAgg9
  z9 := Tryz.sizeOf9
  v9 := Tryz.zeroValue9
  t20 := Tryz.underlying20
  a20 := Tryz.isAgg20
  z20 := Tryz.sizeOf20
  v20 := Tryz.zeroValue20
  t37 := Tryz.underlying160
  a37 := Tryz.isAgg160
  z37 := Tryz.sizeOf160
  v37 := Tryz.zeroValue160
  t46 := Tryz.underlying188
  a46 := Tryz.isAgg188
  z46 := Tryz.sizeOf188
  v46 := Tryz.zeroValue188
  t51 := Tryz.underlying207
  a51 := Tryz.isAgg207
  z51 := Tryz.sizeOf207
  v51 := Tryz.zeroValue207
  t53 := Tryz.underlying185
  a53 := Tryz.isAgg185
  z53 := Tryz.sizeOf185
  v53 := Tryz.zeroValue185
  t171 := Tryz.underlying193
  a171 := Tryz.isAgg193
  z171 := Tryz.sizeOf193
  v171 := Tryz.zeroValue193
  t173 := Tryz.underlying196
  a173 := Tryz.isAgg196
  z173 := Tryz.sizeOf196
  v173 := Tryz.zeroValue196
  t212 := Tryz.underlying206
  a212 := Tryz.isAgg206
  z212 := Tryz.sizeOf206
  v212 := Tryz.zeroValue206
  t213 := Tryz.underlying208
  a213 := Tryz.isAgg208
  z213 := Tryz.sizeOf208
  t232 := Tryz.underlying212
  a232 := Tryz.isAgg212
  z232 := Tryz.sizeOf212
  v232 := Tryz.zeroValue212
  t233 := Tryz.underlying213
  a233 := Tryz.isAgg213
  z233 := Tryz.sizeOf213
  v233 := Tryz.zeroValue213
  g17 := by kernel_rfl
  g18 := by kernel_rfl
  g19 := by kernel_rfl
  i0 := by kernel_rfl
  i2 := by kernel_rfl
  i3 := by kernel_rfl
  i4 := by kernel_rfl
  i5 := by kernel_rfl
  i9 := by kernel_rfl
  i20 := by kernel_rfl
  i37 := by kernel_rfl
  i46 := by kernel_rfl
  i51 := by kernel_rfl
  i53 := by kernel_rfl
  i171 := by kernel_rfl
  i173 := by kernel_rfl
  i212 := by kernel_rfl
  i232 := by kernel_rfl
  i233 := by kernel_rfl
  m17 := by kernel_rfl
  m18 := by kernel_rfl
  m19 := by kernel_rfl }
open Go.RowKit Go.Sort Go.Lib in
theorem Tryz.strconv_Itoa (n : Int) (h0 : -9223372036854775808 ≤ n) (h1 : n ≤ 9223372036854775807) (w : World) (htab : Lib.TabIs Tryz.prog w "internal/strconv.uint64pow10" .u64 Lib.pow10Tab) :
    Calls Tryz.prog 168 #[.int .i64 n] w fun e w' => e = .returned (.string ⟨(Lib.itoa n).toArray⟩) ∧ ∃ k os, w' = grow (w.drewN k) os := Any.strconv_Itoa Tryz.laysM171 n h0 h1 w htab
def Tryz.laysC172_ren : Go.Shelf.Ren := ⟨fun | 172 => 167 | 244 => 169 | 245 => 170 | 247 => 172 | 279 => 173 | 280 => 174 | 281 => 175 | 282 => 176 | 287 => 178 | 316 => 179 | 171 => 168 | 205 => 180 | 321 => 185 | 322 => 186 | 243 => 171 | 246 => 177 | 283 => 181 | 284 => 182 | 285 => 183 | 286 => 184 | 129 => 188 | 317 => 187 | 318 => 189 | 319 => 190 | 320 => 191 | 337 => 192 | 338 => 193 | n => n, fun | 9 => 9 | 3 => 3 | 75 => 174 | 76 => 175 | 4 => 4 | 5 => 5 | 167 => 178 | 37 => 160 | 0 => 0 | 85 => 179 | 2 => 2 | 168 => 181 | 53 => 185 | 175 => 186 | 46 => 188 | 210 => 191 | 127 => 200 | 145 => 203 | 143 => 201 | 21 => 21 | 171 => 193 | 173 => 196 | 212 => 206 | 51 => 207 | 20 => 20 | 213 => 208 | 232 => 212 | 233 => 213 | 80 => 214 | n => n, fun | 15 => 0 | 16 => 1 | 17 => 2 | 18 => 3 | 19 => 4 | n => n⟩
theorem Tryz.laysC172 : Go.Proofs.LaysC.n172 Tryz.prog Tryz.laysC172_ren := {
  mixed := by kernel_rfl
  f129 := Tryz.func188.trans (congrArg some (by kernel_rfl))
  f171 := Tryz.func168.trans (congrArg some (by kernel_rfl))
  f172 := Tryz.func167.trans (congrArg some (by kernel_rfl))
  f205 := Tryz.func180.trans (congrArg some (by kernel_rfl))
  f243 := Tryz.func171.trans (congrArg some (by kernel_rfl))
  f244 := Tryz.func169.trans (congrArg some (by kernel_rfl))
  f245 := Tryz.func170.trans (congrArg some (by kernel_rfl))
  f246 := Tryz.func177.trans (congrArg some (by kernel_rfl))
  f247 := Tryz.func172.trans (congrArg some (by kernel_rfl))
  f279 := Tryz.func173.trans (congrArg some (by kernel_rfl))
  f280 := Tryz.func174.trans (congrArg some (by kernel_rfl))
  f281 := Tryz.func175.trans (congrArg some (by kernel_rfl))
  f282 := Tryz.func176.trans (congrArg some (by kernel_rfl))
  f283 := Tryz.func181.trans (congrArg some (by kernel_rfl))
  f284 := Tryz.func182.trans (congrArg some (by kernel_rfl))
  f285 := Tryz.func183.trans (congrArg some (by kernel_rfl))
  f286 := Tryz.func184.trans (congrArg some (by kernel_rfl))
  f287 := Tryz.func178.trans (congrArg some (by kernel_rfl))
  f316 := Tryz.func179.trans (congrArg some (by kernel_rfl))
  f317 := Tryz.func187.trans (congrArg some (by kernel_rfl))
  f318 := Tryz.func189.trans (congrArg some (by kernel_rfl))
  f319 := Tryz.func190.trans (congrArg some (by kernel_rfl))
  f320 := Tryz.func191.trans (congrArg some (by kernel_rfl))
  f321 := Tryz.func185.trans (congrArg some (by kernel_rfl))
  f322 := Tryz.func186.trans (congrArg some (by kernel_rfl))
  f337 := Tryz.func192.trans (congrArg some (by kernel_rfl))
  f338 := Tryz.func193.trans (congrArg some (by kernel_rfl))
  t0 := Tryz.underlying0
  a0 := Tryz.isAgg0
  z0 := Tryz.sizeOf0
  v0 := Tryz.zeroValue0
  t2 := Tryz.underlying2
  a2 := Tryz.isAgg2
  z2 := Tryz.sizeOf2
  v2 := Tryz.zeroValue2
  t3 := Tryz.underlying3
  a3 := Tryz.isAgg3
  z3 := Tryz.sizeOf3
  v3 := Tryz.zeroValue3
  t4 := Tryz.underlying4
  a4 := Tryz.isAgg4
  z4 := Tryz.sizeOf4
  v4 := Tryz.zeroValue4
  t5 := Tryz.underlying5
  a5 := Tryz.isAgg5
  z5 := Tryz.sizeOf5
  v5 := Tryz.zeroValue5
  t9 := Tryz.underlying9
  a9 := Tryz.isAgg9
  z9 := Tryz.sizeOf9
  v9 := Tryz.zeroValue9
  t20 := Tryz.underlying20
  a20 := Tryz.isAgg20
  z20 := Tryz.sizeOf20
  v20 := Tryz.zeroValue20
  t21 := Tryz.underlying21
  a21 := Tryz.isAgg21
  z21 := Tryz.sizeOf21
  v21 := Tryz.zeroValue21
  t37 := Tryz.underlying160
  a37 := Tryz.isAgg160
  z37 := Tryz.sizeOf160
  v37 := Tryz.zeroValue160
  t46 := Tryz.underlying188
  a46 := Tryz.isAgg188
  z46 := Tryz.sizeOf188
  v46 := Tryz.zeroValue188
  t51 := Tryz.underlying207
  a51 := Tryz.isAgg207
  z51 := Tryz.sizeOf207
  v51 := Tryz.zeroValue207
  t53 := Tryz.underlying185
  a53 := Tryz.isAgg185
  z53 := Tryz.sizeOf185
  v53 := Tryz.zeroValue185
  t75 := Tryz.underlying174
  a75 := Tryz.isAgg174
  z75 := Tryz.sizeOf174
  v75 := Tryz.zeroValue174
  t76 := Tryz.underlying175
  a76 := Tryz.isAgg175
  z76 := Tryz.sizeOf175
  v76 := Tryz.zeroValue175
  t85 := Tryz.underlying179
  a85 := Tryz.isAgg179
  z85 := Tryz.sizeOf179
  v85 := Tryz.zeroValue179
  t127 := Tryz.underlying200
  a127 := Tryz.isAgg200
  z127 := Tryz.sizeOf200
  v127 := Tryz.zeroValue200
  t143 := Tryz.underlying201
  a143 := Tryz.isAgg201
  z143 := Tryz.sizeOf201
  v143 := Tryz.zeroValue201
  t145 := Tryz.underlying203
  a145 := Tryz.isAgg203
  z145 := Tryz.sizeOf203
  v145 := Tryz.zeroValue203
  t167 := Tryz.underlying178
  a167 := Tryz.isAgg178
  z167 := Tryz.sizeOf178
  v167 := Tryz.zeroValue178
  t168 := Tryz.underlying181
  a168 := Tryz.isAgg181
  z168 := Tryz.sizeOf181
  v168 := Tryz.zeroValue181
  t171 := Tryz.underlying193
  a171 := Tryz.isAgg193
  z171 := Tryz.sizeOf193
  v171 := Tryz.zeroValue193
  t173 := Tryz.underlying196
  a173 := Tryz.isAgg196
  z173 := Tryz.sizeOf196
  v173 := Tryz.zeroValue196
  t175 := Tryz.underlying186
  a175 := Tryz.isAgg186
  z175 := Tryz.sizeOf186
  v175 := Tryz.zeroValue186
  t210 := Tryz.underlying191
  a210 := Tryz.isAgg191
  z210 := Tryz.sizeOf191
  v210 := Tryz.zeroValue191
  t212 := Tryz.underlying206
  a212 := Tryz.isAgg206
  z212 := Tryz.sizeOf206
  v212 := Tryz.zeroValue206
  t213 := Tryz.underlying208
  a213 := Tryz.isAgg208
  z213 := Tryz.sizeOf208
  t232 := Tryz.underlying212
  a232 := Tryz.isAgg212
  z232 := Tryz.sizeOf212
  v232 := Tryz.zeroValue212
  t233 := Tryz.underlying213
  a233 := Tryz.isAgg213
  z233 := Tryz.sizeOf213
  v233 := Tryz.zeroValue213
  g15 := by kernel_rfl
  g16 := by kernel_rfl
  g17 := by kernel_rfl
  g18 := by kernel_rfl
  g19 := by kernel_rfl
  t80 := Tryz.underlying214
  a80 := Tryz.isAgg214
  z80 := Tryz.sizeOf214
  v80 := Tryz.zeroValue214
  i0 := by kernel_rfl
  i2 := by kernel_rfl
  i3 := by kernel_rfl
  i4 := by kernel_rfl
  i5 := by kernel_rfl
  i9 := by kernel_rfl
  i20 := by kernel_rfl
  i21 := by kernel_rfl
  i37 := by kernel_rfl
  i46 := by kernel_rfl
  i51 := by kernel_rfl
  i53 := by kernel_rfl
  i75 := by kernel_rfl
  i76 := by kernel_rfl
  i80 := by kernel_rfl
  i85 := by kernel_rfl
  i127 := by kernel_rfl
  i143 := by kernel_rfl
  i145 := by kernel_rfl
  i167 := by kernel_rfl
  i168 := by kernel_rfl
  i171 := by kernel_rfl
  i173 := by kernel_rfl
  i175 := by kernel_rfl
  i210 := by kernel_rfl
  i212 := by kernel_rfl
  i232 := by kernel_rfl
  i233 := by kernel_rfl
  m15 := by kernel_rfl
  m16 := by kernel_rfl
  m17 := by kernel_rfl
  m18 := by kernel_rfl
  m19 := by kernel_rfl
  c0 := by kernel_rfl
  c2 := by kernel_rfl
  c3 := by kernel_rfl
  c4 := by kernel_rfl
  c5 := by kernel_rfl
  c9 := by kernel_rfl
  c20 := by kernel_rfl
  c21 := by kernel_rfl
  c37 := by kernel_rfl
  c46 := by kernel_rfl
  c51 := by kernel_rfl
  c53 := by kernel_rfl
  c75 := by kernel_rfl
  c76 := by kernel_rfl
  c80 := by kernel_rfl
  c85 := by kernel_rfl
  c127 := by kernel_rfl
  c143 := by kernel_rfl
  c145 := by kernel_rfl
  c167 := by kernel_rfl
  c168 := by kernel_rfl
  c171 := by kernel_rfl
  c173 := by kernel_rfl
  c175 := by kernel_rfl
  c210 := by kernel_rfl
  c212 := by kernel_rfl
  c213 := by kernel_rfl
  c232 := by kernel_rfl
  c233 := by kernel_rfl }
open Go.RowKit in
theorem Tryz.strconv_Atoi_ok (s : ByteArray) (hmax : s.size ≤ 9223372036854775806) (v : Int) (h : Lib.atoiAll s.data.toList = .ok v) (w : World) :
    Calls Tryz.prog 167 #[.string s] w fun e w' => e = .returned (.tuple #[.int .i64 v, .nilIface]) ∧ (w' = w ∨ ∃ t, w' = Lib.bytesWorld w 5 t) := Any.strconv_Atoi_ok Tryz.laysC172 s hmax v h w
open Go.RowKit in
theorem Tryz.strconv_Atoi_syntax_var (s : ByteArray) (hlim : s.size ≤ 281474976710656) (h : Lib.atoiAll s.data.toList = Lib.NumEnd.syntax) (tp : TypeId) (p : Value) (w : World) (hvar : w.var? Tryz.prog "strconv.ErrSyntax" = some #[.iface tp p]) :
    Calls Tryz.prog 167 #[.string s] w fun e w' => ∃ N, e = .returned (.tuple #[.int .i64 0, .iface 181 (.pointer (some ⟨N, 0, none⟩))]) ∧ w.heap.size ≤ N ∧ w'.heap[N]? = some (.cells #[.string ⟨#[65, 116, 111, 105]⟩, .string s, .iface tp p] 191 (0, 0)) ∧ Below w.heap.size w w' := Any.strconv_Atoi_syntax_var Tryz.laysC172 s hlim h tp p w hvar
open Go.RowKit in
theorem Tryz.strconv_Atoi_range_var (s : ByteArray) (hlim : s.size ≤ 281474976710656) (h : Lib.atoiAll s.data.toList = .range) (tp : TypeId) (p : Value) (w : World) (hvar : w.var? Tryz.prog "strconv.ErrRange" = some #[.iface tp p]) :
    Calls Tryz.prog 167 #[.string s] w fun e w' => ∃ N, e = .returned (.tuple #[.int .i64 (Lib.atoiSat s.data.toList), .iface 181 (.pointer (some ⟨N, 0, none⟩))]) ∧ w.heap.size ≤ N ∧ w'.heap[N]? = some (.cells #[.string ⟨#[65, 116, 111, 105]⟩, .string s, .iface tp p] 191 (0, 0)) ∧ Below w.heap.size w w' := Any.strconv_Atoi_range_var Tryz.laysC172 s hlim h tp p w hvar
end Go.Proofs
namespace Go.Proofs.YtedfplodobpgfaaGreatDoor
set_option maxRecDepth 8000
open Go Go.Sx
def Pow (h : Hp) : Prop := TabH Tryz.prog h "internal/strconv.uint64pow10" .u64 Lib.pow10Tab
theorem Pow.ext {h h' : Hp} (e : Ext h h') (t : Pow h) : Pow h' := TabH.ext e t
theorem itoa_c (n : Int) (hn : IntKind.i64.min ≤ n ∧ n ≤ IntKind.i64.max) (h : Hp) (hT : Pow h) : ACalls Tryz.prog 168 #[.int .i64 n] h (Pu (.string ⟨(Lib.itoa n).toArray⟩) h) :=
  acalls_below (by kernel_rfl) fun w s => (Tryz.strconv_Itoa n hn.1 hn.2 w (hT.is s)).mono fun e w' ⟨he, k, os, hw⟩ => ⟨he, by subst hw; exact below_grow w k os⟩
theorem pow_of {W : World} {laid : List (String × DataW Unit)} (hf : (laid.filter fun x => x.1 == "internal/strconv.uint64pow10") = [("internal/strconv.uint64pow10", Lib.tabData .u64 Lib.pow10Tab)]) (h : laidMet Tryz.prog laid W) : Pow (vis W) := by
  have h2 := h.filter fun x => x.1 == "internal/strconv.uint64pow10"
  rw [hf] at h2
  exact TabH.of (Lib.tabIs_of_head (g := 2) (t := 206) (e := 185) (n := 20) (by kernel_rfl) (by kernel_rfl) Tryz.underlying206 Tryz.underlying185 (by kernel_rfl) (by kernel_rfl) h2)
end Go.Proofs.YtedfplodobpgfaaGreatDoor
namespace Go.Proofs.YtedfplodobpgfaaGreatDoor
set_option maxRecDepth 8000
open Go Go.Sx
def ErrH (P : Program) (h : Hp) (name : String) : Prop := ∃ g tp p e x, P.globalNamed name = some g ∧ h g = some (.cells #[.iface tp p] e x)
theorem ErrH.ext {P : Program} {h h' : Hp} {name : String} (e : Ext h h') (t : ErrH P h name) : ErrH P h' name := by
  obtain ⟨g, tp, p, a, x, h1, h2⟩ := t
  exact ⟨g, tp, p, a, x, h1, e g _ h2⟩
theorem ErrH.var {P : Program} {h : Hp} {name : String} {w : World} (s : Sim h w) (t : ErrH P h name) : ∃ tp p, w.var? P name = some #[.iface tp p] := by
  obtain ⟨g, tp, p, a, x, h1, h2⟩ := t
  refine ⟨tp, p, ?_⟩
  unfold World.var?
  rw [h1]
  simp only [Option.bind_some, s.vis g _ h2]
theorem trod_iface {P : Program} {w : World} {sp : Nat → Bool} {fuel t : Nat} {cs : List Value} {nm : String} {d : DataW Unit} {ps : List MemPlace} (hi : isIfc P t = true) (h : DataW.trod (fun _ => ()) P w 0 sp false fuel t cs = some (.iface nm d, ps)) : ∃ u v, cs = [.iface u v] := by
  cases fuel with
  | zero => simp [DataW.trod] at h
  | succ n =>
    have hu : ∃ ms, P.underlying t = some (.interface ms) := by
      unfold isIfc at hi
      split at hi
      · rename_i ms hm
        exact ⟨ms, hm⟩
      · cases hi
    obtain ⟨ms, hu⟩ := hu
    unfold DataW.trod at h
    rw [hu] at h
    split at h <;> simp_all
theorem err_of {P : Program} {W : World} {name nm : String} {d : DataW Unit} {laid : List (String × DataW Unit)} {g t : Nat} (hg : P.globalNamed name = some g) (hty : (P.globals[g]?).map (·.type) = some t) (hi : isIfc P t = true)
    (hf : (laid.filter fun x => x.1 == name) = [(name, .iface nm d)]) (h : laidMet P laid W) : ErrH P (vis W) name := by
  have h2 := h.filter fun x => x.1 == name
  rw [hf] at h2
  obtain ⟨ps, ⟨g', t', cs, fuel, p, q, hg', ht', hvar, hd, _, _⟩, _⟩ := h2
  obtain rfl := Option.some.inj (hg.symm.trans hg')
  obtain rfl := Option.some.inj (hty.symm.trans ht')
  obtain ⟨u, v, hcs⟩ := trod_iface hi hd
  have hcs : cs = #[.iface u v] := by
    cases cs
    simp only at hcs
    rw [hcs]
  subst hcs
  unfold World.var? at hvar
  rw [hg] at hvar
  simp only [Option.bind_some] at hvar
  split at hvar
  · rename_i cs e x hb
    cases hvar
    exact ⟨g, u, v, e, x, hg, hb⟩
  · cases hvar
/-- what the library's variables hold -/
structure Env (h : Hp) : Prop where
  pow : Pow h
  syn : ErrH Tryz.prog h "strconv.ErrSyntax"
  rng : ErrH Tryz.prog h "strconv.ErrRange"
theorem Env.ext {h h' : Hp} (t : Env h) (e : Ext h h') : Env h' := ⟨t.pow.ext e, t.syn.ext e, t.rng.ext e⟩
theorem acalls_belowR {P : Program} {f : Nat} {args : Array Value} {h : Hp} {R : Value → Prop} (hp : plainFn P f = true) (hc : ∀ w, Sim h w → Calls P f args w fun e w' => ∃ v, e = .returned v ∧ R v ∧ RowKit.Below w.heap.size w w') : ACalls P f args h (fun v h' => R v ∧ h = h') :=
  ⟨hp, fun w s => (hc w s).mono fun e w' ⟨v, he, hr, hb⟩ => ⟨v, h, he, ⟨fun b o ho => (hb.block b (by
    have := s.vis b o ho
    exact (Array.getElem?_eq_some_iff.1 this).1)).trans (s.vis b o ho)⟩, ⟨hb.os, hb.tape, hb.output, hb.size, fun b hlt hn => ⟨hb.block b hlt, hn⟩⟩, hr, rfl⟩⟩
def AtoiR (s : ByteArray) (v : Value) : Prop := (∃ n, Lib.atoiAll s.data.toList = .ok n ∧ v = .tuple #[.int .i64 n, .nilIface]) ∨ ((∀ n, Lib.atoiAll s.data.toList ≠ .ok n) ∧ ∃ m t p, v = .tuple #[.int .i64 m, .iface t p])
theorem atoi_c (s : ByteArray) (hs : s.size ≤ 1048576) (h : Hp) (hE : Env h) : ACalls Tryz.prog 167 #[.string s] h (fun v h' => AtoiR s v ∧ h = h') := by
  refine acalls_belowR (by kernel_rfl) fun w sm => ?_
  rcases hx : Lib.atoiAll s.data.toList with n | _ | _
  · refine (Tryz.strconv_Atoi_ok s (by omega) n hx w).mono fun e w' ⟨he, hw⟩ => ⟨_, he, .inl ⟨n, hx, rfl⟩, ?_⟩
    rcases hw with rfl | ⟨t, rfl⟩
    · exact RowKit.Below.refl _ _
    · exact Lib.bytesWorld_below w _ _
  · obtain ⟨tp, p, hv⟩ := hE.syn.var sm
    exact (Tryz.strconv_Atoi_syntax_var s (by omega) hx tp p w hv).mono fun e w' ⟨N, he, _, _, hb⟩ => ⟨_, he, .inr ⟨fun n => (by rw [hx]; simp), _, _, _, rfl⟩, hb⟩
  · obtain ⟨tp, p, hv⟩ := hE.rng.var sm
    exact (Tryz.strconv_Atoi_range_var s (by omega) hx tp p w hv).mono fun e w' ⟨N, he, _, _, hb⟩ => ⟨_, he, .inr ⟨fun n => (by rw [hx]; simp), _, _, _, rfl⟩, hb⟩
theorem env_of {W : World} {laid : List (String × DataW Unit)} (hp : Pow (vis W)) (hf1 : (laid.filter fun x => x.1 == "strconv.ErrSyntax") = [("strconv.ErrSyntax", .iface "*errors.errorString" (.ptr (.agg [.lit (.string [105, 110, 118, 97, 108, 105, 100, 32, 115, 121, 110, 116, 97, 120])])))])
    (hf2 : (laid.filter fun x => x.1 == "strconv.ErrRange") = [("strconv.ErrRange", .iface "*errors.errorString" (.ptr (.agg [.lit (.string [118, 97, 108, 117, 101, 32, 111, 117, 116, 32, 111, 102, 32, 114, 97, 110, 103, 101])])))]) (h : laidMet Tryz.prog laid W) : Env (vis W) :=
  ⟨hp, err_of (g := 0) (t := 174) (by kernel_rfl) (by kernel_rfl) (by kernel_rfl) hf1 h, err_of (g := 1) (t := 174) (by kernel_rfl) (by kernel_rfl) (by kernel_rfl) hf2 h⟩
end Go.Proofs.YtedfplodobpgfaaGreatDoor
namespace Go.Proofs.YtedfplodobpgfaaGreatDoor
set_option maxRecDepth 8000
open Go Go.Sx
def isDig (c : UInt8) : Bool := decide (48 ≤ c.toNat ∧ c.toNat ≤ 57)
theorem l1In_c (x lo hi : Int) (h : Hp) : ACalls Tryz.prog 93 #[.int .i64 x, .int .i64 lo, .int .i64 hi] h (Pu (.bool (decide (lo ≤ x ∧ x ≤ hi))) h) := by
  (refine enter Tryz.func93 rfl rfl (by kernel_rfl) [] ?_; simp only [go_sem, Nat.reduceBEq])
  refine Br.intro (fun hb => ?_) (fun hb => ?_) <;> (try simp only [hb, go_sem, Nat.reduceBEq])
  · simp at hb; exact ⟨by simp [hb], rfl⟩
  · simp at hb; exact ⟨by simp; omega, rfl⟩
theorem iInRange (x lo hi : Int) (h : Hp) : ACalls Tryz.prog 95 #[.int .i64 x, .int .i64 lo, .int .i64 hi] h (Pu (.bool (decide (lo ≤ x ∧ x ≤ hi))) h) := by
  (refine enter Tryz.func95 rfl rfl (by kernel_rfl) [] ?_; simp only [go_sem, Nat.reduceBEq])
  refine Br.intro (fun hb => ?_) (fun hb => ?_) <;> (try simp only [hb, go_sem, Nat.reduceBEq])
  · simp at hb; exact ⟨by simp [hb], rfl⟩
  · simp at hb; exact ⟨by simp; omega, rfl⟩
theorem iMin (a b : Int) (h : Hp) : ACalls Tryz.prog 121 #[.int .i64 a, .int .i64 b] h (Pu (.int .i64 (min a b)) h) := by
  (refine enter Tryz.func121 rfl rfl (by kernel_rfl) [] ?_; simp only [go_sem, Nat.reduceBEq])
  refine Br.intro (fun h1 => ?_) (fun h1 => ?_) <;> (try simp only [h1, go_sem, Nat.reduceBEq])
  · have := of_decide_eq_true h1; exact ⟨by rw [Int.min_eq_right (by omega)], rfl⟩
  · have := of_decide_eq_false h1; exact ⟨by rw [Int.min_eq_left (by omega)], rfl⟩
theorem iMax (a b : Int) (h : Hp) : ACalls Tryz.prog 130 #[.int .i64 a, .int .i64 b] h (Pu (.int .i64 (max a b)) h) := by
  (refine enter Tryz.func130 rfl rfl (by kernel_rfl) [] ?_; simp only [go_sem, Nat.reduceBEq])
  refine Br.intro (fun h1 => ?_) (fun h1 => ?_) <;> (try simp only [h1, go_sem, Nat.reduceBEq])
  · have := of_decide_eq_true h1; exact ⟨by rw [Int.max_eq_right (by omega)], rfl⟩
  · have := of_decide_eq_false h1; exact ⟨by rw [Int.max_eq_left (by omega)], rfl⟩
theorem sMax (a b : Int) (h : Hp) : ACalls Tryz.prog 157 #[.int .i64 a, .int .i64 b] h (Pu (.int .i64 (max a b)) h) := by
  (refine enter Tryz.func157 rfl rfl (by kernel_rfl) [] ?_; simp only [go_sem, Nat.reduceBEq])
  refine Br.intro (fun h1 => ?_) (fun h1 => ?_) <;> (try simp only [h1, go_sem, Nat.reduceBEq])
  · have := of_decide_eq_true h1; exact ⟨by rw [Int.max_eq_right (by omega)], rfl⟩
  · have := of_decide_eq_false h1; exact ⟨by rw [Int.max_eq_left (by omega)], rfl⟩
end Go.Proofs.YtedfplodobpgfaaGreatDoor
namespace Go.Proofs.YtedfplodobpgfaaGreatDoor
set_option maxRecDepth 8000
open Go Go.Sx
theorem mdig_dec : ∀ (u : Nat) (acc : List UInt8), 0 < u → mdig u acc = Lib.decDigits u ++ acc := by
  intro u
  induction u using Nat.strongRecOn with
  | _ u ih =>
    intro acc h
    rw [mdig_step h, Lib.decDigits]
    by_cases h10 : u < 10
    · rw [dif_pos h10, show u / 10 = 0 by omega, mdig_zero, show u % 10 = u by omega]
      rfl
    · rw [dif_neg h10, ih (u / 10) (by omega) _ (by omega), List.append_assoc]
      rfl
theorem dig8 (d : Int) (r : Nat) (hd : d = (r : Int)) (hr : r < 10) : IntKind.u8.wrap (IntKind.i64.wrap (48 + d)) = (((UInt8.ofNat (48 + r)).toNat : Nat) : Int) := by
  subst hd
  have : ∀ r : Nat, r < 10 → IntKind.u8.wrap (IntKind.i64.wrap (48 + (r : Int))) = (((UInt8.ofNat (48 + r)).toNat : Nat) : Int) := by decide
  exact this r hr
theorem itoa_zero : Lib.itoa 0 = [48] := by
  unfold Lib.itoa
  rw [if_neg (by decide), Lib.decDigits, dif_pos (by decide)]
  rfl
theorem itoa_pos {n : Int} (h : 0 < n) : Lib.itoa n = mdig n.natAbs [] := by
  unfold Lib.itoa
  rw [if_neg (by omega), mdig_dec _ _ (by omega), List.append_nil, show n.toNat = n.natAbs by omega]
theorem itoa_neg {n : Int} (h : n < 0) : Lib.itoa n = 45 :: mdig n.natAbs [] := by
  unfold Lib.itoa
  rw [if_pos h, mdig_dec _ _ (by omega), List.append_nil]
theorem sFormatInt (n : Int) (hn : IntKind.i64.min ≤ n ∧ n ≤ IntKind.i64.max) (h : Hp) : ACalls Tryz.prog 166 #[.int .i64 n] h (Is (.string ⟨(Lib.itoa n).toArray⟩) h) := by
  have hi : IntKind.i64.min = -9223372036854775808 := by decide
  rw [hi, i64max] at hn
  (refine enter Tryz.func166 rfl rfl (by kernel_rfl) [] ?_; simp only [go_sem, Nat.reduceBEq])
  refine Br.intro (fun h0 => ?_) (fun h0 => ?_) <;> (try simp only [h0, go_sem, Nat.reduceBEq])
  · have h0 := of_decide_eq_true h0
    subst h0
    exact ⟨by rw [itoa_zero], Ext.refl _⟩
  have h0 := of_decide_eq_false h0
  refine aloop (ι := Int × List UInt8) (fun x => [(4, .val (.int .i64 x.1)), (3, .val (.string ⟨x.2.toArray⟩)), (0, .val (.int .i64 n))]) (fun _ => [])
    (fun x h' => mdig x.1.natAbs x.2 = mdig n.natAbs [] ∧ (x.1 = n ∧ x.2 = [] ∨ x.2.length + x.1.natAbs ≤ 4611686018427387904) ∧ Ext h h') (fun x => x.1.natAbs) (n, [])
    ⟨rfl, .inl ⟨rfl, rfl⟩, Ext.refl _⟩ (by repeat (first | exact wkF_e | refine wkF_c rfl ?_)) wkB_e rfl ?_
  rintro ⟨x, l⟩ h1 ⟨hq, hl, he⟩
  have hl : x = n ∧ l = [] ∨ l.length + x.natAbs ≤ 4611686018427387904 := hl
  have hq : mdig x.natAbs l = mdig n.natAbs [] := hq
  have hll : l.length ≤ 4611686018427387904 := by
    rcases hl with ⟨_, rfl⟩ | hl
    · simp
    · omega
  have hxn : x.natAbs ≤ 9223372036854775808 := by
    rcases hl with ⟨rfl, _⟩ | hl <;> omega
  have hr : (x.tmod 10).natAbs = x.natAbs % 10 := Int.natAbs_tmod x 10
  have hd : (x.tdiv 10).natAbs = x.natAbs / 10 := Int.natAbs_tdiv x 10
  have hr10 : x.natAbs % 10 < 10 := Nat.mod_lt _ (by omega)
  have wd : IntKind.i64.wrap (x.tdiv 10) = x.tdiv 10 := IntWalk.i64_in _ (by omega)
  have wr : IntKind.i64.wrap (0 - x.tmod 10) = 0 - x.tmod 10 := IntWalk.i64_in _ (by omega)
  simp only [go_sem, Nat.reduceBEq]
  refine Br.intro (fun hc => ?_) (fun hc => ?_) <;> (try simp only [hc, go_sem, Nat.reduceBEq, Int.reduceEq, not_false_eq_true])
  · have hc : ¬ x = 0 := by simpa using hc
    have next : ∀ h' : Hp, Ext h h' → mdig (x.tdiv 10).natAbs (UInt8.ofNat (48 + x.natAbs % 10) :: l) = mdig n.natAbs [] ∧ (x.tdiv 10 = n ∧ UInt8.ofNat (48 + x.natAbs % 10) :: l = [] ∨ (UInt8.ofNat (48 + x.natAbs % 10) :: l).length + (x.tdiv 10).natAbs ≤ 4611686018427387904) ∧ Ext h h' := fun h' e' => by
      refine ⟨by rw [← hq, hd, ← mdig_step (by omega)], .inr ?_, e'⟩
      rw [List.length_cons, hd]
      rcases hl with ⟨rfl, rfl⟩ | hl
      · simp only [List.length_nil]; omega
      · omega
    refine Br.intro (fun hs => ?_) (fun hs => ?_) <;> (try simp only [hs, go_sem, Nat.reduceBEq])
    · have hs := of_decide_eq_true hs
      simp only [wr, dig8 (0 - x.tmod 10) (x.natAbs % 10) (by omega) hr10, go_sem]
      refine bytes_lit1 slT160 (UInt8.ofNat (48 + x.natAbs % 10)) fun u2 h2 m2 => ?_
      simp only [go_sem, Nat.reduceBEq]
      refine cvK_bytes bytT160 isStr9 m2.rd ?_
      simp only [wd, go_sem, Nat.reduceBEq, Int.reduceEq, not_false_eq_true]
      refine ⟨by rw [i64max]; simp [ByteArray.size]; omega, ?_⟩
      exact Again.intro (x.tdiv 10, UInt8.ofNat (48 + x.natAbs % 10) :: l) (by simp only; omega) (next _ (he.trans m2.ext)) (by repeat (first | exact wkF_e | refine wkF_c rfl ?_)) wkB_e rfl
    · have hs := of_decide_eq_false hs
      simp only [dig8 (x.tmod 10) (x.natAbs % 10) (by omega) hr10, go_sem]
      refine bytes_lit1 slT160 (UInt8.ofNat (48 + x.natAbs % 10)) fun u2 h2 m2 => ?_
      simp only [go_sem, Nat.reduceBEq]
      refine cvK_bytes bytT160 isStr9 m2.rd ?_
      simp only [wd, go_sem, Nat.reduceBEq, Int.reduceEq, not_false_eq_true]
      refine ⟨by rw [i64max]; simp [ByteArray.size]; omega, ?_⟩
      exact Again.intro (x.tdiv 10, UInt8.ofNat (48 + x.natAbs % 10) :: l) (by simp only; omega) (next _ (he.trans m2.ext)) (by repeat (first | exact wkF_e | refine wkF_c rfl ?_)) wkB_e rfl
  · have hc : x = 0 := by simpa using hc
    subst hc
    have hq : l = mdig n.natAbs [] := by rw [← hq]; exact (mdig_zero l).symm
    refine Br.intro (fun hs => ?_) (fun hs => ?_) <;> (try simp only [hs, go_sem, Nat.reduceBEq])
    · have hs := of_decide_eq_true hs
      refine ⟨by rw [i64max]; simp [ByteArray.size]; omega, ?_⟩
      exact ⟨by rw [itoa_neg hs, hq]; rfl, he⟩
    · have hs := of_decide_eq_false hs
      exact ⟨by rw [itoa_pos (by omega), hq], he⟩
end Go.Proofs.YtedfplodobpgfaaGreatDoor
namespace Go.Proofs.YtedfplodobpgfaaGreatDoor
set_option maxRecDepth 8000
open Go Go.Sx
def isNeg (l : List UInt8) : Bool := decide (l.head? = some 45)
def at_ (l : List UInt8) : Nat := if isNeg l then 1 else 0
theorem u8sub {c : UInt8} (hc : isDig c = true) : IntKind.i64.wrap (IntKind.u8.wrap ((c.toNat : Int) - 48)) = (c.toNat : Int) - 48 := by
  simp only [isDig, decide_eq_true_eq] at hc
  have h3 : ∀ r : Nat, r < 10 → IntKind.u8.wrap (r : Int) = (r : Int) := by decide
  have h4 := h3 (c.toNat - 48) (by omega)
  rw [show ((c.toNat : Int) - 48) = ((c.toNat - 48 : Nat) : Int) by omega, h4, IntWalk.i64_in _ (by omega)]
theorem str_empty {s : ByteArray} : s = ⟨#[]⟩ ↔ s.size = 0 := ⟨fun e => by subst e; rfl, fun e => by
  cases s with
  | mk d => have : d = #[] := Array.eq_empty_of_size_eq_zero e
            rw [this]⟩
theorem byte_dec (c k : UInt8) : decide ((c.toNat : Int) = (k.toNat : Int)) = decide (c = k) := by
  apply decide_eq_decide.2
  exact ⟨fun h => UInt8.toNat_inj.1 (Int.ofNat.inj h), fun h => by rw [h]⟩
def big : Int := 100000000000
end Go.Proofs.YtedfplodobpgfaaGreatDoor
namespace Go.Proofs.YtedfplodobpgfaaGreatDoor
set_option maxRecDepth 8000
open Go Go.Sx
/-- a number read, or none -/
def PS (h : Hp) (s : ByteArray) (u : Value) (h' : Hp) : Prop := Ext h h' ∧ ∃ n : Int, u = .tuple #[.int .i64 n, .bool (canonB s)]
theorem canon_short {s : ByteArray} (h : canonP s) : 1 ≤ s.size ∧ s.size ≤ 11 := by
  obtain ⟨n, h1, h2, h3⟩ := h
  have := size_list s
  have h4 := (itoa_len (n := n) (k := 9) (by omega)).1
  have h5 := itoa_pos_len n
  rw [h3] at this
  omega
theorem canon_atoi {s : ByteArray} {n m : Int} (h : s.data.toList = Lib.itoa n) (hn : n.natAbs < 10 ^ 17) (ha : Lib.atoiAll s.data.toList = .ok m) : m = n := by
  rw [h, atoiAll_itoa hn] at ha
  cases ha
  rfl
theorem ba_itoa {s : ByteArray} {n : Int} (h : (⟨(Lib.itoa n).toArray⟩ : ByteArray) = s) : s.data.toList = Lib.itoa n := by rw [← h]
theorem iParseWithin (s : ByteArray) (h : Hp) (hE : Env h) : ACalls Tryz.prog 159 #[.string s, .int .i64 (-1000000000), .int .i64 1000000000] h (PS h s) := by
  have hif : isIfc Tryz.prog 174 = true := by kernel_rfl
  (refine enter Tryz.func159 rfl rfl (by kernel_rfl) [] ?_; simp only [go_sem, Nat.reduceBEq])
  refine Br.intro (fun hl => ?_) (fun hl => ?_) <;> (try simp only [hl, go_sem, Nat.reduceBEq])
  · have hl := of_decide_eq_true hl
    exact ⟨Ext.refl _, 0, by rw [canonB_false fun k => by have := canon_short k; omega]⟩
  have hl := of_decide_eq_false hl
  refine (atoi_c s (by omega) _ hE).mono ?_
  rintro v _ ⟨hv, rfl⟩
  rcases hv with ⟨n, hx, rfl⟩ | ⟨hx, m, t, p, rfl⟩
  · have hb := Lib.atoiAll_bounds hx
    have hn : IntKind.i64.min ≤ n ∧ n ≤ IntKind.i64.max := by
      rw [i64max, show IntKind.i64.min = -9223372036854775808 by decide]
      exact hb
    simp only [hif, go_sem, Nat.reduceBEq]
    (refine (itoa_c n hn _ hE.pow).mono ?_; rintro _ _ ⟨rfl, rfl⟩; simp only [go_sem, Nat.reduceBEq])
    refine Br.intro (fun h1 => ?_) (fun h1 => ?_) <;> (try simp only [h1, go_sem, Nat.reduceBEq])
    · have h1 : ¬ (⟨(Lib.itoa n).toArray⟩ : ByteArray) = s := by simpa using h1
      refine ⟨Ext.refl _, 0, ?_⟩
      rw [canonB_false]
      rintro ⟨m, hm1, hm2, hm3⟩
      have := canon_atoi hm3 (by omega) hx
      subst this
      exact h1 (ba_of hm3).symm
    have h1 : (⟨(Lib.itoa n).toArray⟩ : ByteArray) = s := by simpa using h1
    have hs := ba_itoa h1
    refine Br.intro (fun h2 => ?_) (fun h2 => ?_) <;> (try simp only [h2, go_sem, Nat.reduceBEq])
    · have h2 := of_decide_eq_true h2
      refine ⟨Ext.refl _, 0, ?_⟩
      rw [canonB_false]
      rintro ⟨m, hm1, hm2, hm3⟩
      have := canon_atoi hm3 (by omega) hx
      omega
    have h2 := of_decide_eq_false h2
    refine Br.intro (fun h3 => ?_) (fun h3 => ?_) <;> (try simp only [h3, go_sem, Nat.reduceBEq])
    · have h3 := of_decide_eq_true h3
      refine ⟨Ext.refl _, 0, ?_⟩
      rw [canonB_false]
      rintro ⟨m, hm1, hm2, hm3⟩
      have := canon_atoi hm3 (by omega) hx
      omega
    have h3 := of_decide_eq_false h3
    exact ⟨Ext.refl _, n, by rw [canonB_true ⟨n, by omega, by omega, hs⟩]⟩
  · simp only [hif, go_sem, Nat.reduceBEq]
    refine ⟨Ext.refl _, 0, ?_⟩
    rw [canonB_false]
    rintro ⟨n, h1, h2, h3⟩
    exact hx n (by rw [h3, atoiAll_itoa (by omega)])
theorem iParseSigned (s : ByteArray) (h : Hp) (hE : Env h) : ACalls Tryz.prog 127 #[.string s] h (PS h s) := by
  (refine enter Tryz.func127 rfl rfl (by kernel_rfl) [] ?_; simp only [go_sem, Nat.reduceBEq])
  refine (iParseWithin s _ hE).mono ?_
  rintro _ h1 ⟨e1, n, rfl⟩
  simp only [go_sem, Nat.reduceBEq]
  exact ⟨e1, n, rfl⟩
/-- a number that is not negative, or none -/
def PI (h : Hp) (s : ByteArray) (u : Value) (h' : Hp) : Prop := Ext h h' ∧ ∃ (n : Nat) (ok : Bool), u = .tuple #[.int .i64 (n : Nat), .bool ok] ∧ (ok = true → n ≤ 1000000000000 ∧ s.data.toList = Lib.itoa n) ∧ (ok = false → ∀ m : Nat, m ≤ 1000000000000 → s.data.toList ≠ Lib.itoa m)
theorem itoa_nat (m : Nat) : Lib.itoa (m : Int) = Lib.decDigits m := by
  unfold Lib.itoa
  rw [if_neg (by omega)]
  rfl
theorem decFrom_step {l : List UInt8} {i n : Nat} {c : UInt8} (h : Lib.decFrom 0 (l.take i) = some n) (hc : l[i]? = some c) (hd : 48 ≤ c.toNat ∧ c.toNat ≤ 57) : Lib.decFrom 0 (l.take (i + 1)) = some (n * 10 + (c.toNat - 48)) :=
  Lib.decFrom_take l i 0 n c _ h hc (by unfold Lib.digitVal; rw [if_pos hd])
theorem sParseInt (s : ByteArray) (h : Hp) : ACalls Tryz.prog 156 #[.string s] h (PI h s) := by
  have hsz := size_list s
  have small : ∀ m : Nat, m ≤ 1000000000000 → s.data.toList = Lib.itoa m → 1 ≤ s.size ∧ s.size ≤ 13 := by
    intro m hm he
    have h1 := (itoa_len (n := (m : Int)) (k := 12) (by omega)).2 (by omega)
    have h2 := itoa_pos_len (m : Int)
    rw [he] at hsz
    omega
  (refine enter Tryz.func156 rfl rfl (by kernel_rfl) [] ?_; simp only [go_sem, Nat.reduceBEq])
  (refine (l1In_c _ _ _ _).mono ?_; rintro _ _ ⟨rfl, rfl⟩; simp only [go_sem, Nat.reduceBEq])
  refine Br.intro (fun hl => ?_) (fun hl => ?_) <;> (try simp only [hl, go_sem, Nat.reduceBEq])
  · have hl : ¬ (1 ≤ s.size ∧ s.size ≤ 13) := by
      simp only [Bool.not_eq_true', decide_eq_false_iff_not] at hl
      omega
    exact ⟨Ext.refl _, 0, false, rfl, by simp, fun _ m hm he => hl (small m hm he)⟩
  have hl : 1 ≤ s.size ∧ s.size ≤ 13 := by
    simp only [Bool.not_eq_false', decide_eq_true_eq] at hl
    omega
  refine aloop (ι := Nat × Nat) (fun x => [(5, .val (.int .i64 (x.1 : Nat))), (4, .val (.int .i64 (x.2 : Nat))), (0, .val (.string s))]) (fun _ => [])
    (fun x h' => x.1 ≤ s.size ∧ Lib.decFrom 0 (s.data.toList.take x.1) = some x.2 ∧ x.2 < 10 ^ x.1 ∧ h = h') (fun x => s.size - x.1) (0, 0)
    ⟨Nat.zero_le _, rfl, by decide, rfl⟩ (by repeat (first | exact wkF_e | refine wkF_c rfl ?_)) wkB_e rfl ?_
  rintro ⟨i, n⟩ _ ⟨hi, hd, hn, rfl⟩
  have hi : i ≤ s.size := hi
  have hd : Lib.decFrom 0 (s.data.toList.take i) = some n := hd
  have hn : n < 10 ^ i := hn
  have hp : 10 ^ i ≤ 10 ^ 13 := Nat.pow_le_pow_right (by decide) (by omega)
  have e13 : (10 : Nat) ^ 13 = 10000000000000 := by decide
  simp only [go_sem, Nat.reduceBEq]
  refine Br.intro (fun hb => ?_) (fun hb => ?_) <;> (try simp only [hb, go_sem, Nat.reduceBEq])
  · have hb : i < s.size := by simpa using hb
    obtain ⟨c, hc⟩ : ∃ c, s.data.toList[i]? = some c := ⟨_, List.getElem?_eq_getElem (by omega)⟩
    have wsu := wrap_succ (i := i) (by omega)
    have hc8 := c.toNat_lt
    have wch : IntKind.i64.wrap (c.toNat : Int) = (c.toNat : Int) := IntWalk.i64_in _ (by omega)
    simp only [sidx_at hc, wch, go_sem, Nat.reduceBEq]
    (refine (l1In_c _ _ _ _).mono ?_; rintro _ _ ⟨rfl, rfl⟩; simp only [go_sem, Nat.reduceBEq])
    refine Br.intro (fun hdg => ?_) (fun hdg => ?_) <;> (try simp only [hdg, go_sem, Nat.reduceBEq])
    · have hdg : ¬ (48 ≤ c.toNat ∧ c.toNat ≤ 57) := by
        simp only [Bool.not_eq_true', decide_eq_false_iff_not] at hdg
        omega
      refine ⟨Ext.refl _, 0, false, rfl, by simp, fun _ m hm he => ?_⟩
      rw [itoa_nat] at he
      obtain ⟨d, hd'⟩ := Lib.digit_of_decFrom _ _ _ (decFrom_dec m) i c (by rw [← he]; exact hc)
      unfold Lib.digitVal at hd'
      rw [if_neg hdg] at hd'
      cases hd'
    · have hdg : 48 ≤ c.toNat ∧ c.toNat ≤ 57 := by
        simp only [Bool.not_eq_false', decide_eq_true_eq] at hdg
        omega
      have hdig : isDig c = true := by simp [isDig]; omega
      have w1 : IntKind.i64.wrap (10 * (n : Int)) = 10 * (n : Int) := IntWalk.i64_in _ (by omega)
      have w2 : IntKind.i64.wrap (10 * (n : Int) + ((c.toNat : Int) - 48)) = ((n * 10 + (c.toNat - 48) : Nat) : Int) := by rw [IntWalk.i64_in _ (by omega)]; omega
      simp only [sidx_at hc, u8sub hdig, w1, w2, wsu, go_sem, Nat.reduceBEq]
      refine Again.intro (i + 1, n * 10 + (c.toNat - 48)) (by first | omega | (simp only; omega)) ⟨hb, decFrom_step hd hc hdg, ?_, rfl⟩ (by repeat (first | exact wkF_e | refine wkF_c rfl ?_)) wkB_e rfl
      simp only
      rw [Nat.pow_succ]
      omega
  · have hb : i = s.size := by simp at hb; omega
    subst hb
    rw [List.take_of_length_le (by omega)] at hd
    have hu : ∀ m : Nat, s.data.toList = Lib.itoa m → m = n := by
      intro m he
      rw [he, itoa_nat, decFrom_dec] at hd
      exact Option.some.inj hd
    refine Br.intro (fun hbig => ?_) (fun hbig => ?_) <;> (try simp only [hbig, go_sem, Nat.reduceBEq])
    · have hbig := of_decide_eq_true hbig
      refine ⟨Ext.refl _, 0, false, rfl, by simp, fun _ m hm he => ?_⟩
      have := hu m he
      omega
    have hbig := of_decide_eq_false hbig
    refine (sFormatInt (n : Int) (by rw [i64max, show IntKind.i64.min = -9223372036854775808 by decide]; omega) _).mono ?_
    rintro _ h2 ⟨rfl, e2⟩
    simp only [go_sem, Nat.reduceBEq]
    refine Br.intro (fun he => ?_) (fun he => ?_) <;> (try simp only [he, go_sem, Nat.reduceBEq])
    · have he : ¬ (⟨(Lib.itoa (n : Int)).toArray⟩ : ByteArray) = s := by simpa using he
      refine ⟨e2, 0, false, rfl, by simp, fun _ m hm hq => ?_⟩
      have := hu m hq
      subst this
      exact he (ba_of hq).symm
    · have he : (⟨(Lib.itoa (n : Int)).toArray⟩ : ByteArray) = s := by simpa using he
      exact ⟨e2, n, true, rfl, fun _ => ⟨by omega, ba_itoa he⟩, by simp⟩
theorem itoa_head_neg {n : Int} {r : List UInt8} (h : Lib.itoa n = 45 :: r) : n < 0 ∧ r = Lib.decDigits n.natAbs := by
  unfold Lib.itoa at h
  by_cases hn : n < 0
  · rw [if_pos hn] at h
    exact ⟨hn, (List.cons.inj h).2.symm⟩
  · rw [if_neg hn] at h
    obtain ⟨b, q, hb, h1, h2⟩ := dec_head n.toNat
    rw [hb] at h
    have := (List.cons.inj h).1
    subst this
    exact absurd h1 (by decide)
theorem sParseSigned (s : ByteArray) (h : Hp) (hs : s.size ≤ 1152921504606846976) : ACalls Tryz.prog 113 #[.string s] h (PS h s) := by
  have hsz := size_list s
  -- what is behind the sign
  have pos : ∀ c : UInt8, s.data.toList[0]? = some c → ¬ c = 45 → ∀ n : Int, s.data.toList = Lib.itoa n → 0 ≤ n := by
    intro c hc hne n he
    by_cases hn : n < 0
    · rw [he] at hc
      unfold Lib.itoa at hc
      rw [if_pos hn] at hc
      simp only [List.getElem?_cons_zero, Option.some.injEq] at hc
      exact absurd hc.symm hne
    · omega
  have plain : (∀ n : Int, s.data.toList = Lib.itoa n → 0 ≤ n) → ∀ h1, ∀ (n : Nat) (ok : Bool), Ext h h1 → (ok = true → n ≤ 1000000000000 ∧ s.data.toList = Lib.itoa n) → (ok = false → ∀ m : Nat, m ≤ 1000000000000 → s.data.toList ≠ Lib.itoa m) → (canonB s = true ↔ ok = true ∧ n ≤ 1000000000) := by
    intro hp h1 n ok e1 k1 k2
    constructor
    · intro hc
      have hc : canonP s := canonB_iff.1 hc
      obtain ⟨m, m1, m2, m3⟩ := hc
      have hm := hp m m3
      cases ok with
      | false => exact absurd m3 (by have := k2 rfl m.toNat (by omega); rwa [show ((m.toNat : Nat) : Int) = m by omega] at this)
      | true =>
        have := itoa_inj (m3.symm.trans (k1 rfl).2)
        exact ⟨rfl, by omega⟩
    · rintro ⟨rfl, hn⟩
      exact canonB_true ⟨(n : Int), by omega, by omega, (k1 rfl).2⟩
  have fin : ∀ (b : Bool) (h1 : Hp) (n : Int), (canonB s = true ↔ b = true) → Ext h h1 → PS h s (.tuple #[.int .i64 n, .bool b]) h1 := by
    intro b h1 n hb e1
    refine ⟨e1, n, ?_⟩
    have : canonB s = b := Bool.eq_iff_iff.2 hb
    rw [this]
  by_cases h0 : s.size = 0
  · (refine enter Tryz.func113 rfl rfl (by kernel_rfl) [] ?_; simp only [go_sem, Nat.reduceBEq])
    have e0 : s = ⟨#[]⟩ := str_empty.2 h0
    have d0 : decide ((0 : Int) < (s.size : Int)) = false := decide_eq_false (by omega)
    simp only [d0, go_sem, Nat.reduceBEq]
    refine (sParseInt s _).mono ?_
    rintro _ h1 ⟨e1, n, ok, rfl, k1, k2⟩
    have hn0 : ∀ n : Int, s.data.toList ≠ Lib.itoa n := by
      intro n he
      have := itoa_pos_len n
      rw [← he] at this
      omega
    cases ok with
    | true => exact absurd (k1 rfl).2 (hn0 n)
    | false =>
      simp only [go_sem, Nat.reduceBEq]
      exact fin false _ 0 ⟨fun hc => absurd (canonB_iff.1 hc) (fun ⟨m, _, _, m3⟩ => hn0 m m3), fun hc => by cases hc⟩ e1
  obtain ⟨c0, hc0⟩ : ∃ c, s.data.toList[0]? = some c := ⟨_, List.getElem?_eq_getElem (by omega)⟩
  have hix : sidx s 0 = some (.int .u8 c0.toNat) := sidx_at hc0
  have d0 : decide ((0 : Int) < (s.size : Int)) = true := decide_eq_true (by omega)
  by_cases h45 : c0 = 45
  · subst h45
    obtain ⟨r, hr⟩ : ∃ r, s.data.toList = 45 :: r := by
      cases hd : s.data.toList with
      | nil => rw [hd] at hc0; simp at hc0
      | cons a r => rw [hd] at hc0; simp at hc0; exact ⟨r, by rw [hc0]⟩
    have hex : (s.extract 1 s.size).data.toList = r := by
      have : (s.extract 1 s.size).data.toList = s.data.toList.drop 1 := by
        simp only [ByteArray.data_extract, Array.toList_extract, List.extract]
        exact List.take_of_length_le (by rw [List.length_drop]; omega)
      rw [this, hr]
      rfl
    have hd45 : decide ((((45 : UInt8).toNat : Nat) : Int) = 45) = true := by decide
    (refine enter Tryz.func113 rfl rfl (by kernel_rfl) [] ?_; simp only [go_sem, Nat.reduceBEq])
    simp only [d0, hix, hd45, go_sem, Nat.reduceBEq, Int.reduceToNat]
    have hcond : (0 : Int) ≤ 1 ∧ (1 : Int) ≤ (s.size : Int) ∧ (s.size : Int) ≤ (s.size : Int) := by omega
    try simp only [hcond, go_sem]
    refine (sParseInt (s.extract 1 s.size) _).mono ?_
    rintro _ h1 ⟨e1, n, ok, rfl, k1, k2⟩
    rw [hex] at k1 k2
    have key : canonB s = true ↔ ok = true ∧ n ≤ 1000000000 ∧ ¬ n = 0 := by
      constructor
      · intro hc
        have hc : canonP s := canonB_iff.1 hc
        obtain ⟨m, m1, m2, m3⟩ := hc
        rw [hr] at m3
        obtain ⟨m4, m5⟩ := itoa_head_neg m3.symm
        rw [← itoa_nat] at m5
        cases ok with
        | false => exact absurd m5 (k2 rfl m.natAbs (by omega))
        | true =>
          have := itoa_inj (m5.symm.trans (k1 rfl).2)
          exact ⟨rfl, by omega, by omega⟩
      · rintro ⟨rfl, hn, hn0⟩
        refine canonB_true ⟨-(n : Int), by omega, by omega, ?_⟩
        rw [hr, (k1 rfl).2, itoa_nat]
        unfold Lib.itoa
        rw [if_pos (by omega), Int.natAbs_neg, Int.natAbs_natCast]
    cases ok with
    | false =>
      simp only [go_sem, Nat.reduceBEq]
      exact fin _ _ _ (key.trans (by simp)) e1
    | true =>
      simp only [go_sem, Nat.reduceBEq]
      refine Br.intro (fun hb => ?_) (fun hb => ?_) <;> (try simp only [hb, go_sem, Nat.reduceBEq])
      · have hb := of_decide_eq_true hb
        exact fin _ _ _ (key.trans (by simp; omega)) e1
      have hb := of_decide_eq_false hb
      refine Br.intro (fun hz => ?_) (fun hz => ?_) <;> (try simp only [hz, go_sem, Nat.reduceBEq])
      · have hz := of_decide_eq_true hz
        exact fin _ _ _ (key.trans (by simp; omega)) e1
      · have hz := of_decide_eq_false hz
        exact fin _ _ _ (key.trans (by simp; omega)) e1
  · have hd45 : decide ((c0.toNat : Int) = 45) = false := by
      rw [show (45 : Int) = ((45 : UInt8).toNat : Int) from rfl, byte_dec]
      exact decide_eq_false h45
    (refine enter Tryz.func113 rfl rfl (by kernel_rfl) [] ?_; simp only [go_sem, Nat.reduceBEq])
    simp only [d0, hix, hd45, go_sem, Nat.reduceBEq]
    refine (sParseInt s _).mono ?_
    rintro _ h1 ⟨e1, n, ok, rfl, k1, k2⟩
    have key := plain (pos c0 hc0 h45) h1 n ok e1 k1 k2
    cases ok with
    | false =>
      simp only [go_sem, Nat.reduceBEq]
      exact fin _ _ _ (key.trans (by simp)) e1
    | true =>
      simp only [go_sem, Nat.reduceBEq]
      refine Br.intro (fun hb => ?_) (fun hb => ?_) <;> (try simp only [hb, go_sem, Nat.reduceBEq])
      · have hb := of_decide_eq_true hb
        exact fin _ _ _ (key.trans (by simp; omega)) e1
      · have hb := of_decide_eq_false hb
        exact fin _ _ _ (key.trans (by simp; omega)) e1
theorem iIsKey (k : Ky) (h : Hp) (hE : Env h) : ACalls Tryz.prog 62 #[.agg #[.bool k.text, .int .i64 k.num, .string k.str]] h (Is (.bool (keyOk k)) h) := by
  (refine enter Tryz.func62 rfl rfl (by kernel_rfl) [] ?_; simp only [go_sem, Nat.reduceBEq])
  cases ht : k.text with
  | false =>
    have e : keyOk k = (decide (k.str = ⟨#[]⟩) && decide (-1000000000 ≤ k.num ∧ k.num ≤ 1000000000)) := by unfold keyOk; rw [ht]; rfl
    rw [e]
    simp only [go_sem, Nat.reduceBEq]
    refine Br.intro (fun h1 => ?_) (fun h1 => ?_) <;> (try simp only [h1, go_sem, Nat.reduceBEq])
    · (refine (iInRange _ _ _ _).mono ?_; rintro _ _ ⟨rfl, rfl⟩; simp only [go_sem, Nat.reduceBEq])
      exact ⟨by simp, Ext.refl _⟩
    · exact ⟨by simp, Ext.refl _⟩
  | true =>
    have e : keyOk k = (decide (k.num = 0) && (decide (k.str.size ≤ 400) && !canonB k.str)) := by unfold keyOk; rw [ht]; rfl
    rw [e]
    simp only [go_sem, Nat.reduceBEq]
    refine (iParseSigned k.str _ hE).mono ?_
    rintro _ h1 ⟨e1, n, rfl⟩
    simp only [go_sem, Nat.reduceBEq]
    refine Br.intro (fun h2 => ?_) (fun h2 => ?_) <;> (try simp only [h2, go_sem, Nat.reduceBEq])
    · refine Br.intro (fun h3 => ?_) (fun h3 => ?_) <;> (try simp only [h3, go_sem, Nat.reduceBEq])
      · have h3 := of_decide_eq_true h3
        exact ⟨by rw [decide_eq_true (show k.str.size ≤ 400 by omega)]; rfl, e1⟩
      · have h3 := of_decide_eq_false h3
        exact ⟨by rw [decide_eq_false (show ¬ k.str.size ≤ 400 by omega)]; rfl, e1⟩
    · exact ⟨rfl, e1⟩
theorem sIsKey (k : Ky) (h : Hp) (hs : k.str.size ≤ 1152921504606846976) : ACalls Tryz.prog 54 #[.agg #[.bool k.text, .int .i64 k.num, .string k.str]] h (Is (.bool (keyOk k)) h) := by
  (refine enter Tryz.func54 rfl rfl (by kernel_rfl) [] ?_; simp only [go_sem, Nat.reduceBEq])
  cases ht : k.text with
  | false =>
    have e : keyOk k = (decide (k.str = ⟨#[]⟩) && decide (-1000000000 ≤ k.num ∧ k.num ≤ 1000000000)) := by unfold keyOk; rw [ht]; rfl
    rw [e]
    simp only [go_sem, Nat.reduceBEq]
    (refine (l1In_c _ _ _ _).mono ?_; rintro _ _ ⟨rfl, rfl⟩; simp only [go_sem, Nat.reduceBEq])
    refine Br.intro (fun h1 => ?_) (fun h1 => ?_) <;> (try simp only [h1, go_sem, Nat.reduceBEq])
    · exact ⟨by simp, Ext.refl _⟩
    · exact ⟨by simp, Ext.refl _⟩
  | true =>
    have e : keyOk k = (decide (k.num = 0) && (decide (k.str.size ≤ 400) && !canonB k.str)) := by unfold keyOk; rw [ht]; rfl
    rw [e]
    simp only [go_sem, Nat.reduceBEq]
    refine (sParseSigned k.str _ hs).mono ?_
    rintro _ h1 ⟨e1, n, rfl⟩
    simp only [go_sem, Nat.reduceBEq]
    refine Br.intro (fun h2 => ?_) (fun h2 => ?_) <;> (try simp only [h2, go_sem, Nat.reduceBEq])
    · refine Br.intro (fun h3 => ?_) (fun h3 => ?_) <;> (try simp only [h3, go_sem, Nat.reduceBEq])
      · have h3 := of_decide_eq_true h3
        exact ⟨by rw [decide_eq_true (show k.str.size ≤ 400 by omega)]; rfl, e1⟩
      · have h3 := of_decide_eq_false h3
        exact ⟨by rw [decide_eq_false (show ¬ k.str.size ≤ 400 by omega)]; rfl, e1⟩
    · exact ⟨rfl, e1⟩
end Go.Proofs.YtedfplodobpgfaaGreatDoor
namespace Go.Proofs.YtedfplodobpgfaaGreatDoor
set_option maxRecDepth 8000
open Go Go.Sx
theorem iFindKey (v : V) (k : Ky) (hl : v.items.length ≤ 1099511627776) (sl : Value) (h : Hp) (rd : RdE h v.items sl) :
    ACalls Tryz.prog 165 #[.agg #[.int .i64 v.kind, .int .i64 v.num, .string v.str, .int .i64 v.next, sl], .agg #[.bool k.text, .int .i64 k.num, .string k.str]] h (Pu (.int .i64 (ixI (v.find k))) h) := by
  obtain ⟨a, c, xs, rfl, hc, hr, hat⟩ := rd.rows (by decide) v.items.length (fm_len edt_len _)
  (refine enter Tryz.func165 rfl rfl (by kernel_rfl) [] ?_; simp only [go_sem, Nat.reduceBEq])
  refine Br.intro (fun hk => ?_) (fun hk => ?_) <;> (try simp only [hk, go_sem, Nat.reduceBEq])
  · have hk : ¬ v.kind = 4 := by simpa using hk
    exact ⟨by unfold V.find; rw [if_neg hk]; rfl, rfl⟩
  have hk : v.kind = 4 := by simpa using hk
  have hf : v.find k = fk v.items k 0 := by unfold V.find; rw [if_pos hk]
  rw [hf]
  refine aloop (ι := Nat) (fun i => [(13, .val (.int .i64 (i : Nat))), (12, .val (.int .i64 (v.items.length : Nat))), (11, .val (.slice a v.items.length c)), (3, .box 3 0)]) (fun _ => [(3, [.bool k.text, .int .i64 k.num, .string k.str])])
    (fun i h' => i ≤ v.items.length ∧ fk (v.items.drop i) k i = fk v.items k 0 ∧ h' = h) (fun i => v.items.length - i) 0 ⟨Nat.zero_le _, rfl, rfl⟩ (by repeat (first | exact wkF_e | refine wkF_c rfl ?_)) (wkB_c rfl wkB_e) rfl ?_
  rintro i _ ⟨hi, hq, rfl⟩
  simp only [go_sem, Nat.reduceBEq]
  refine Br.intro (fun hb => ?_) (fun hb => ?_) <;> (try simp only [hb, go_sem, Nat.reduceBEq])
  · have hb : i < v.items.length := by simpa using hb
    obtain ⟨b, off, rfl, hat'⟩ := hat (by omega)
    obtain ⟨e, he, hm⟩ := get_lt hb
    have wsu := wrap_succ (i := i) (by omega)
    rw [drop_cons he] at hq
    simp only [ix_nat hb, go_sem, Nat.reduceBEq]
    refine hsem_entry tyS141 hat' hr he rfl fun s2 rd2 => ?_
    obtain ⟨a2, c2, _, rfl, _⟩ := rd2.rows (by decide) e.2.items.length (fm_len edt_len _)
    simp only [key_dec, keyT40, go_sem, Nat.reduceBEq, Nat.reduceAdd, Nat.reduceLeDiff]
    refine Br.intro (fun hkk => ?_) (fun hkk => ?_) <;> (try simp only [hkk, go_sem, Nat.reduceBEq])
    · have hkk := of_decide_eq_true hkk
      simp only [fk, hkk, if_true] at hq
      exact ⟨by rw [← hq]; rfl, rfl⟩
    · have hkk := of_decide_eq_false hkk
      simp only [fk, hkk, if_false] at hq
      rw [wsu]
      exact Again.intro (i + 1) (by first | omega | (simp only; omega)) ⟨hb, hq, rfl⟩ (by repeat (first | exact wkF_e | refine wkF_c rfl ?_)) (wkB_c rfl wkB_e) rfl
  · have hb : i = v.items.length := by simp at hb; omega
    rw [List.drop_eq_nil_of_le (by omega)] at hq
    exact ⟨by rw [← hq]; rfl, rfl⟩
theorem sFind (v : V) (k : Ky) (hl : v.items.length ≤ 1099511627776) (sl : Value) (h : Hp) (rd : RdE h v.items sl) :
    ACalls Tryz.prog 160 #[.agg #[.int .i64 v.kind, .int .i64 v.num, .string v.str, .int .i64 v.next, sl], .agg #[.bool k.text, .int .i64 k.num, .string k.str]] h (Pu (.int .i64 (ixI (v.find k))) h) := by
  obtain ⟨a, c, xs, rfl, hc, hr, hat⟩ := rd.rows (by decide) v.items.length (fm_len edt_len _)
  (refine enter Tryz.func160 rfl rfl (by kernel_rfl) [] ?_; simp only [go_sem, Nat.reduceBEq])
  refine aloop (ι := Nat) (fun i => [(5, .val (.int .i64 (i : Nat))), (2, .box 2 0), (3, .box 3 0)]) (fun _ => [(3, [.bool k.text, .int .i64 k.num, .string k.str]), (2, [.int .i64 v.kind, .int .i64 v.num, .string v.str, .int .i64 v.next, .slice a v.items.length c])])
    (fun i h' => i ≤ v.items.length ∧ (v.kind = 4 → fk (v.items.drop i) k i = fk v.items k 0) ∧ h' = h) (fun i => v.items.length - i) 0 ⟨Nat.zero_le _, fun _ => rfl, rfl⟩ (by repeat (first | exact wkF_e | refine wkF_c rfl ?_)) (wkB_c rfl (wkB_c rfl wkB_e)) rfl ?_
  rintro i _ ⟨hi, hq, rfl⟩
  simp only [go_sem, Nat.reduceBEq]
  refine Br.intro (fun hk => ?_) (fun hk => ?_) <;> (try simp only [hk, go_sem, Nat.reduceBEq])
  · have hk : v.kind = 4 := by simpa using hk
    have hf : v.find k = fk v.items k 0 := by unfold V.find; rw [if_pos hk]
    have hq := hq hk
    refine Br.intro (fun hb => ?_) (fun hb => ?_) <;> (try simp only [hb, go_sem, Nat.reduceBEq])
    · have hb : i < v.items.length := by simpa using hb
      obtain ⟨b, off, rfl, hat'⟩ := hat (by omega)
      obtain ⟨e, he, hm⟩ := get_lt hb
      have wsu := wrap_succ (i := i) (by omega)
      rw [drop_cons he] at hq
      refine regionD_intro (lb := [19, 24]) (by kernel_rfl) ?_
      simp only [ix_nat hb, go_sem, Nat.reduceBEq]
      refine hsem_ekey tyS40 hat' hr he rfl ?_
      simp only [key_dec, keyT40, go_sem, Nat.reduceBEq, Nat.reduceAdd, Nat.reduceLeDiff]
      refine Br.intro (fun hkk => ?_) (fun hkk => ?_) <;> (try simp only [hkk, go_sem, Nat.reduceBEq])
      · have hkk := of_decide_eq_true hkk
        simp only [fk, hkk, if_true] at hq
        exact ⟨by rw [hf, ← hq]; rfl, rfl⟩
      · have hkk := of_decide_eq_false hkk
        simp only [fk, hkk, if_false] at hq
        rw [wsu]
        exact Again.intro (i + 1) (by first | omega | (simp only; omega)) ⟨hb, fun _ => hq, rfl⟩ (by repeat (first | exact wkF_e | refine wkF_c rfl ?_)) (wkB_c rfl (wkB_c rfl wkB_e)) rfl
    · have hb : i = v.items.length := by simp at hb; omega
      rw [List.drop_eq_nil_of_le (by omega)] at hq
      exact ⟨by rw [hf, ← hq]; rfl, rfl⟩
  · have hk : ¬ v.kind = 4 := by simpa using hk
    exact ⟨by unfold V.find; rw [if_neg hk]; rfl, rfl⟩
/-- a value read, and whether there is one -/
def GotP (h : Hp) (o : Option V) (u : Value) (h' : Hp) : Prop := h = h' ∧ ∃ s, u = .tuple #[.agg #[.int .i64 (o.getD V.null).kind, .int .i64 (o.getD V.null).num, .string (o.getD V.null).str, .int .i64 (o.getD V.null).next, s], .bool o.isSome] ∧ RdE h (o.getD V.null).items s
theorem rd_null (h : Hp) : RdE h V.null.items (.slice none 0 0) := ((My.nil (Ext.refl h)).nilrow (z := 8)).rd
theorem sGet (v : V) (k : Ky) (hl : v.items.length ≤ 1099511627776) (sl : Value) (h : Hp) (rd : RdE h v.items sl) :
    ACalls Tryz.prog 163 #[.agg #[.int .i64 v.kind, .int .i64 v.num, .string v.str, .int .i64 v.next, sl], .agg #[.bool k.text, .int .i64 k.num, .string k.str]] h (GotP h (v.get k)) := by
  obtain ⟨a, c, xs, rfl, hc, hr, hat⟩ := rd.rows (by decide) v.items.length (fm_len edt_len _)
  (refine enter Tryz.func163 rfl rfl (by kernel_rfl) [] ?_; simp only [go_sem, Nat.reduceBEq, Nat.reduceAdd, Nat.reduceLeDiff])
  (refine (sFind v k hl _ _ rd).mono ?_; rintro _ _ ⟨rfl, rfl⟩; simp only [go_sem, Nat.reduceBEq])
  rw [ixI_neg]
  cases hf : v.find k with
  | none =>
    have hg := V.find_none hf
    simp only [Option.isNone_none, go_sem, Nat.reduceBEq, Nat.reduceAdd, Nat.reduceLeDiff]
    rw [hg]
    exact ⟨rfl, _, rfl, rd_null _⟩
  | some i =>
    obtain ⟨x, hx, hg, hlt⟩ := V.find_get hf
    obtain ⟨b, off, rfl, hat'⟩ := hat (by omega)
    simp only [Option.isNone_some, ixI_some, ix_nat hlt, go_sem, Nat.reduceBEq, Nat.reduceAdd]
    refine hsem_eval tyS44 hat' hr hx rfl fun s2 rd2 => ?_
    obtain ⟨a2, c2, _, rfl, _⟩ := rd2.rows (by decide) x.items.length (fm_len edt_len _)
    simp only [go_sem, Nat.reduceBEq, Nat.reduceAdd, Nat.reduceLeDiff]
    rw [hg]
    exact ⟨rfl, _, rfl, rd2⟩
theorem iNull (h : Hp) : ACalls Tryz.prog 84 #[] h (Pu (.agg #[.int .i64 0, .int .i64 0, .string ⟨#[]⟩, .int .i64 0, .slice none 0 0]) h) := by
  (refine enter Tryz.func84 rfl rfl (by kernel_rfl) [] ?_; simp only [go_sem, Nat.reduceBEq, Nat.reduceAdd, Nat.reduceLeDiff])
  exact ⟨rfl, rfl⟩
end Go.Proofs.YtedfplodobpgfaaGreatDoor
namespace Go.Proofs.YtedfplodobpgfaaGreatDoor
set_option maxRecDepth 8000
open Go Go.Sx
theorem bulk_in : ∀ {es : List (Ky × V)} {e : Ky × V}, e ∈ es → e.1.str.size + e.2.bulk + 1 ≤ V.bulks es
  | (k, v) :: r, e, he => by
    simp only [V.bulks]
    cases he with
    | head => simp only; omega
    | tail _ he => have := bulk_in he; omega
def WeiI (v : V) : Prop := v.bulk ≤ 1099511627776 → ∀ (sl : Value) (h : Hp), RdE h v.items sl → ACalls Tryz.prog 146 #[.agg #[.int .i64 v.kind, .int .i64 v.num, .string v.str, .int .i64 v.next, sl]] h (Pu (.int .i64 (v.weight : Nat)) h)
theorem iWeight : ∀ v, WeiI v := V.ind fun v ih hbk sl h rd => by
  have hB := V.bulk_eq v
  have hlen := V.bulks_len v.items
  have hwb := V.weights_bulk v.items
  obtain ⟨a, c, xs, rfl, hc, hr, hat⟩ := rd.rows (by decide) v.items.length (fm_len edt_len _)
  (refine enter Tryz.func146 rfl rfl (by kernel_rfl) [] ?_; simp only [go_sem, Nat.reduceBEq])
  refine Br.intro (fun hk => ?_) (fun hk => ?_) <;> (try simp only [hk, go_sem, Nat.reduceBEq])
  · have hk : v.kind = 4 := by simpa using hk
    have e0 : v.weight = 1 + V.weights v.items := by rw [V.weight_eq, if_pos hk]
    rw [e0]
    refine aloop (ι := Nat) (fun i => [(12, .val (.int .i64 (i : Nat))), (11, .val (.int .i64 (v.items.length : Nat))), (10, .val (.slice a v.items.length c)), (3, .val (.int .i64 ((1 + V.weights (v.items.take i) : Nat))))]) (fun _ => []) (fun i h' => i ≤ v.items.length ∧ h = h') (fun i => v.items.length - i) 0
      ⟨Nat.zero_le _, rfl⟩ (by simp only [List.take_zero, V.weights_nil]; exact (by repeat (first | exact wkF_e | refine wkF_c rfl ?_))) wkB_e rfl ?_
    rintro i _ ⟨hi, rfl⟩
    have hi : i ≤ v.items.length := hi
    have hwt := V.weights_take v.items i
    simp only [go_sem, Nat.reduceBEq]
    refine Br.intro (fun hb => ?_) (fun hb => ?_) <;> (try simp only [hb, go_sem, Nat.reduceBEq])
    · have hb : i < v.items.length := by simpa using hb
      obtain ⟨b, off, rfl, hat'⟩ := hat (by omega)
      obtain ⟨e, he, hm⟩ := get_lt hb
      have wsu := wrap_succ (i := i) (by omega)
      have hbe := bulk_in hm
      have hw2 := V.weight_bulk e.2
      have hsn := V.weights_snoc he
      simp only [ix_nat hb, go_sem, Nat.reduceBEq]
      refine hsem_entry tyS141 hat' hr he rfl fun s2 rd2 => ?_
      obtain ⟨a2, c2, _, rfl, _⟩ := rd2.rows (by decide) e.2.items.length (fm_len edt_len _)
      simp only [go_sem, Nat.reduceBEq, Nat.reduceAdd, Nat.reduceLeDiff]
      (refine (ih e hm (by omega) _ _ rd2).mono ?_; rintro _ _ ⟨rfl, rfl⟩; simp only [go_sem, Nat.reduceBEq])
      have hwr : IntKind.i64.wrap (((1 + V.weights (v.items.take i) : Nat) : Int) + (e.2.weight : Nat)) = ((1 + V.weights (v.items.take (i + 1)) : Nat) : Int) := by rw [hsn, IntWalk.i64_in _ (by omega)]; omega
      simp only [hwr, wsu, go_sem]
      exact Again.intro (i + 1) (by first | omega | (simp only; omega)) ⟨hb, rfl⟩ (by repeat (first | exact wkF_e | refine wkF_c rfl ?_)) wkB_e rfl
    · have hb : i = v.items.length := by simp at hb; omega
      subst hb
      rw [List.take_length]
      exact ⟨rfl, rfl⟩
  · have hk : ¬ v.kind = 4 := by simpa using hk
    exact ⟨by rw [V.weight_eq, if_neg hk]; rfl, rfl⟩
/-- the weight, or more than most -/
def Wei (v : V) (most : Nat) (h : Hp) (u : Value) (h' : Hp) : Prop := h = h' ∧ ∃ r : Nat, u = .int .i64 (r : Nat) ∧ r ≤ v.weight ∧ (r ≤ most → r = v.weight)
def WeiS (v : V) : Prop := v.bulk ≤ 1099511627776 → ∀ (most : Nat) (_ : most ≤ 1099511627776) (sl : Value) (h : Hp), RdE h v.items sl → ACalls Tryz.prog 144 #[.agg #[.int .i64 v.kind, .int .i64 v.num, .string v.str, .int .i64 v.next, sl], .int .i64 (most : Nat)] h (Wei v most h)
theorem sWeigh : ∀ v, WeiS v := V.ind fun v ih hbk most hmost sl h rd => by
  have hB := V.bulk_eq v
  have hlen := V.bulks_len v.items
  have hwb := V.weights_bulk v.items
  obtain ⟨a, c, xs, rfl, hc, hr, hat⟩ := rd.rows (by decide) v.items.length (fm_len edt_len _)
  (refine enter Tryz.func144 rfl rfl (by kernel_rfl) [] ?_; simp only [go_sem, Nat.reduceBEq])
  by_cases hk : v.kind = 4
  · have e0 : v.weight = 1 + V.weights v.items := by rw [V.weight_eq, if_pos hk]
    refine aloop (ι := Nat × Nat) (fun x => [(6, .val (.int .i64 (x.1 : Nat))), (5, .val (.int .i64 (x.2 : Nat))), (1, .val (.int .i64 (most : Nat))), (2, .box 2 0)]) (fun _ => [(2, [.int .i64 v.kind, .int .i64 v.num, .string v.str, .int .i64 v.next, .slice a v.items.length c])])
      (fun x h' => x.1 ≤ v.items.length ∧ x.2 ≤ 1 + V.weights (v.items.take x.1) ∧ (x.2 ≤ most → x.2 = 1 + V.weights (v.items.take x.1)) ∧ h = h') (fun x => v.items.length - x.1) (0, 1)
      ⟨Nat.zero_le _, by omega, fun _ => by simp [V.weights_nil], rfl⟩ (by repeat (first | exact wkF_e | refine wkF_c rfl ?_)) (wkB_c rfl wkB_e) rfl ?_
    rintro ⟨i, n⟩ _ ⟨hi, hn, hq, rfl⟩
    have hi : i ≤ v.items.length := hi
    have hn : n ≤ 1 + V.weights (v.items.take i) := hn
    have hq : n ≤ most → n = 1 + V.weights (v.items.take i) := hq
    have hwt := V.weights_take v.items i
    have dk : decide (v.kind = 4) = true := decide_eq_true hk
    simp only [dk, go_sem, Nat.reduceBEq]
    refine Br.intro (fun hb => ?_) (fun hb => ?_) <;> (try simp only [hb, go_sem, Nat.reduceBEq])
    · have hb : i < v.items.length := by simpa using hb
      refine Br.intro (fun hle => ?_) (fun hle => ?_) <;> (try simp only [hle, go_sem, Nat.reduceBEq])
      · have hle : n ≤ most := by have := of_decide_eq_true hle; omega
        obtain ⟨b, off, rfl, hat'⟩ := hat (by omega)
        obtain ⟨e, he, hm⟩ := get_lt hb
        have wsu := wrap_succ (i := i) (by omega)
        have hbe := bulk_in hm
        have hw2 := V.weight_bulk e.2
        have hsn := V.weights_snoc he
        have hn1 := hq hle
        have wsub : IntKind.i64.wrap ((most : Int) - (n : Int)) = ((most - n : Nat) : Int) := by rw [IntWalk.i64_in _ (by omega)]; omega
        simp only [ix_nat hb, go_sem, Nat.reduceBEq, Nat.reduceAdd]
        refine hsem_eval tyS44 hat' hr he rfl fun s2 rd2 => ?_
        obtain ⟨a2, c2, _, rfl, _⟩ := rd2.rows (by decide) e.2.items.length (fm_len edt_len _)
        simp only [wsub, go_sem, Nat.reduceBEq]
        refine (ih e hm (by omega) (most - n) (by omega) _ _ rd2).mono ?_
        rintro _ _ ⟨rfl, r, rfl, hr1, hr2⟩
        have hwr : IntKind.i64.wrap ((n : Int) + (r : Nat)) = ((n + r : Nat) : Int) := by rw [IntWalk.i64_in _ (by omega)]; rfl
        simp only [hwr, wsu, go_sem, Nat.reduceBEq]
        exact Again.intro (i + 1, n + r) (by first | omega | (simp only; omega)) ⟨hb, by simp only; omega, fun hx => by have hx : n + r ≤ most := hx; have := hr2 (by omega); simp only; omega, rfl⟩ (by repeat (first | exact wkF_e | refine wkF_c rfl ?_)) (wkB_c rfl wkB_e) rfl
      · have hle : ¬ n ≤ most := by have := of_decide_eq_false hle; omega
        exact ⟨rfl, n, rfl, by rw [e0]; omega, fun hx => absurd hx hle⟩
    · have hb : i = v.items.length := by simp at hb; omega
      subst hb
      rw [List.take_length] at hn hq
      exact ⟨rfl, n, rfl, by rw [e0]; omega, fun hx => by rw [e0]; exact hq hx⟩
  · have dk : decide (v.kind = 4) = false := decide_eq_false hk
    refine aloop (ι := Unit) (fun _ => [(6, .val (.int .i64 0)), (5, .val (.int .i64 1)), (1, .val (.int .i64 (most : Nat))), (2, .box 2 0)]) (fun _ => [(2, [.int .i64 v.kind, .int .i64 v.num, .string v.str, .int .i64 v.next, .slice a v.items.length c])]) (fun _ h' => h = h') (fun _ => 0) () rfl (by repeat (first | exact wkF_e | refine wkF_c rfl ?_)) (wkB_c rfl wkB_e) rfl ?_
    rintro _ _ rfl
    simp only [dk, go_sem, Nat.reduceBEq]
    have e0 : v.weight = 1 := by rw [V.weight_eq, if_neg hk]
    exact ⟨rfl, 1, rfl, by rw [e0]; exact Nat.le_refl _, fun _ => e0.symm⟩
theorem k9 (k : Int) : k = 0 ∨ k = 1 ∨ k = 2 ∨ k = 3 ∨ k = 4 ∨ k = 6 ∨ k = 7 ∨ k = 8 ∨ (¬ k = 0 ∧ ¬ k = 1 ∧ ¬ k = 2 ∧ ¬ k = 3 ∧ ¬ k = 4 ∧ ¬ k = 6 ∧ ¬ k = 7 ∧ ¬ k = 8) := by omega
def WfI (v : V) : Prop := v.bulk ≤ 1099511627776 → ∀ (sl : Value) (h : Hp), RdE h v.items sl → Env h → ACalls Tryz.prog 147 #[.agg #[.int .i64 v.kind, .int .i64 v.num, .string v.str, .int .i64 v.next, sl]] h (Is (.bool v.wf) h)
theorem iWell_0 (v : V) (sl : Value) (h : Hp) (rd : RdE h v.items sl) (ha : v.kind = 0) : ACalls Tryz.prog 147 #[.agg #[.int .i64 v.kind, .int .i64 v.num, .string v.str, .int .i64 v.next, sl]] h (Is (.bool v.wf) h) := by
  obtain ⟨a, c, xs, rfl, hc, hr, hat⟩ := rd.rows (by decide) v.items.length (fm_len edt_len _)
  have d0 : decide (v.kind = 0) = true := decide_eq_true (by omega)
  have d1 : decide (v.kind = 1) = false := decide_eq_false (by omega)
  have d2 : decide (v.kind = 2) = false := decide_eq_false (by omega)
  have d3 : decide (v.kind = 3) = false := decide_eq_false (by omega)
  have d4 : decide (v.kind = 4) = false := decide_eq_false (by omega)
  have d6 : decide (v.kind = 6) = false := decide_eq_false (by omega)
  have d7 : decide (v.kind = 7) = false := decide_eq_false (by omega)
  have d8 : decide (v.kind = 8) = false := decide_eq_false (by omega)
  rw [V.wf_eq]
  generalize wfEs v.next v.items [] = arr
  (refine enter Tryz.func147 rfl rfl (by kernel_rfl) [] ?_; simp only [go_sem, Nat.reduceBEq])
  simp only [d3, go_sem, Nat.reduceBEq]
  refine Br.intro (fun hs => ?_) (fun hs => ?_)
  · simp only [hs, go_sem, Nat.reduceBEq]
    have hs : ¬ v.str = ⟨#[]⟩ := by simpa using hs
    exact ⟨by simp [wf0, ha, hs], Ext.refl _⟩
  have hsr := hs
  have hs : v.str = ⟨#[]⟩ := by simpa using hs
  simp only [d4, hsr, go_sem, Nat.reduceBEq]
  refine Br.intro (fun hn => ?_) (fun hn => ?_)
  · simp only [hn, go_sem, Nat.reduceBEq]
    have hn : ¬ v.next = 0 := by simpa using hn
    exact ⟨by simp [wf0, ha, hs, hn], Ext.refl _⟩
  have hnr := hn
  have hn : v.next = 0 := by simpa using hn
  simp only [hnr, go_sem, Nat.reduceBEq]
  refine Br.intro (fun hl => ?_) (fun hl => ?_)
  · simp only [hl, go_sem, Nat.reduceBEq]
    have hl : 0 < v.items.length := by simpa using hl
    exact ⟨by simp [wf0, ha, hs, hn, hl], Ext.refl _⟩
  have hlr := hl
  have hl : ¬ 0 < v.items.length := by simpa using hl
  simp only [d0, hlr, go_sem, Nat.reduceBEq]
  have hl : v.items.length = 0 := by omega
  exact ⟨by simp [wf0, ha, hs, hn, hl], (Ext.refl _)⟩
theorem iWell_1 (v : V) (sl : Value) (h : Hp) (rd : RdE h v.items sl) (ha : v.kind = 1) : ACalls Tryz.prog 147 #[.agg #[.int .i64 v.kind, .int .i64 v.num, .string v.str, .int .i64 v.next, sl]] h (Is (.bool v.wf) h) := by
  obtain ⟨a, c, xs, rfl, hc, hr, hat⟩ := rd.rows (by decide) v.items.length (fm_len edt_len _)
  have d0 : decide (v.kind = 0) = false := decide_eq_false (by omega)
  have d1 : decide (v.kind = 1) = true := decide_eq_true (by omega)
  have d2 : decide (v.kind = 2) = false := decide_eq_false (by omega)
  have d3 : decide (v.kind = 3) = false := decide_eq_false (by omega)
  have d4 : decide (v.kind = 4) = false := decide_eq_false (by omega)
  have d6 : decide (v.kind = 6) = false := decide_eq_false (by omega)
  have d7 : decide (v.kind = 7) = false := decide_eq_false (by omega)
  have d8 : decide (v.kind = 8) = false := decide_eq_false (by omega)
  rw [V.wf_eq]
  generalize wfEs v.next v.items [] = arr
  (refine enter Tryz.func147 rfl rfl (by kernel_rfl) [] ?_; simp only [go_sem, Nat.reduceBEq])
  simp only [d3, go_sem, Nat.reduceBEq]
  refine Br.intro (fun hs => ?_) (fun hs => ?_)
  · simp only [hs, go_sem, Nat.reduceBEq]
    have hs : ¬ v.str = ⟨#[]⟩ := by simpa using hs
    exact ⟨by simp [wf0, ha, hs], Ext.refl _⟩
  have hsr := hs
  have hs : v.str = ⟨#[]⟩ := by simpa using hs
  simp only [d4, hsr, go_sem, Nat.reduceBEq]
  refine Br.intro (fun hn => ?_) (fun hn => ?_)
  · simp only [hn, go_sem, Nat.reduceBEq]
    have hn : ¬ v.next = 0 := by simpa using hn
    exact ⟨by simp [wf0, ha, hs, hn], Ext.refl _⟩
  have hnr := hn
  have hn : v.next = 0 := by simpa using hn
  simp only [hnr, go_sem, Nat.reduceBEq]
  refine Br.intro (fun hl => ?_) (fun hl => ?_)
  · simp only [hl, go_sem, Nat.reduceBEq]
    have hl : 0 < v.items.length := by simpa using hl
    exact ⟨by simp [wf0, ha, hs, hn, hl], Ext.refl _⟩
  have hlr := hl
  have hl : ¬ 0 < v.items.length := by simpa using hl
  simp only [d0, d1, hlr, go_sem, Nat.reduceBEq]
  have hl : v.items.length = 0 := by omega
  refine Br.intro (fun hq => ?_) (fun hq => ?_)
  · simp only [hq, go_sem, Nat.reduceBEq]
    have hq : v.num = 0 := by simpa using hq
    exact ⟨by simp [wf0, ha, hs, hn, hl, hq], Ext.refl _⟩
  · simp only [hq, go_sem, Nat.reduceBEq]
    have hq : ¬ v.num = 0 := by simpa using hq
    have hq2 : decide (0 ≤ v.num ∧ v.num ≤ 1) = decide (v.num = 1) := decide_eq_decide.2 (by omega)
    have hq3 : wf0 v arr = decide (v.num = 1) := by rw [← hq2]; simp [wf0, ha, hs, hn, hl]
    exact ⟨by rw [hq3], Ext.refl _⟩
theorem iWell_2 (v : V) (sl : Value) (h : Hp) (rd : RdE h v.items sl) (ha : v.kind = 2) : ACalls Tryz.prog 147 #[.agg #[.int .i64 v.kind, .int .i64 v.num, .string v.str, .int .i64 v.next, sl]] h (Is (.bool v.wf) h) := by
  obtain ⟨a, c, xs, rfl, hc, hr, hat⟩ := rd.rows (by decide) v.items.length (fm_len edt_len _)
  have d0 : decide (v.kind = 0) = false := decide_eq_false (by omega)
  have d1 : decide (v.kind = 1) = false := decide_eq_false (by omega)
  have d2 : decide (v.kind = 2) = true := decide_eq_true (by omega)
  have d3 : decide (v.kind = 3) = false := decide_eq_false (by omega)
  have d4 : decide (v.kind = 4) = false := decide_eq_false (by omega)
  have d6 : decide (v.kind = 6) = false := decide_eq_false (by omega)
  have d7 : decide (v.kind = 7) = false := decide_eq_false (by omega)
  have d8 : decide (v.kind = 8) = false := decide_eq_false (by omega)
  rw [V.wf_eq]
  generalize wfEs v.next v.items [] = arr
  (refine enter Tryz.func147 rfl rfl (by kernel_rfl) [] ?_; simp only [go_sem, Nat.reduceBEq])
  simp only [d3, go_sem, Nat.reduceBEq]
  refine Br.intro (fun hs => ?_) (fun hs => ?_)
  · simp only [hs, go_sem, Nat.reduceBEq]
    have hs : ¬ v.str = ⟨#[]⟩ := by simpa using hs
    exact ⟨by simp [wf0, ha, hs], Ext.refl _⟩
  have hsr := hs
  have hs : v.str = ⟨#[]⟩ := by simpa using hs
  simp only [d4, hsr, go_sem, Nat.reduceBEq]
  refine Br.intro (fun hn => ?_) (fun hn => ?_)
  · simp only [hn, go_sem, Nat.reduceBEq]
    have hn : ¬ v.next = 0 := by simpa using hn
    exact ⟨by simp [wf0, ha, hs, hn], Ext.refl _⟩
  have hnr := hn
  have hn : v.next = 0 := by simpa using hn
  simp only [hnr, go_sem, Nat.reduceBEq]
  refine Br.intro (fun hl => ?_) (fun hl => ?_)
  · simp only [hl, go_sem, Nat.reduceBEq]
    have hl : 0 < v.items.length := by simpa using hl
    exact ⟨by simp [wf0, ha, hs, hn, hl], Ext.refl _⟩
  have hlr := hl
  have hl : ¬ 0 < v.items.length := by simpa using hl
  simp only [d0, d1, d2, hlr, go_sem, Nat.reduceBEq]
  have hl : v.items.length = 0 := by omega
  (refine (iInRange _ _ _ _).mono ?_; rintro _ _ ⟨rfl, rfl⟩; simp only [go_sem, Nat.reduceBEq])
  exact ⟨by simp [wf0, ha, hs, hn, hl], (Ext.refl _)⟩
theorem iWell_3 (v : V) (sl : Value) (h : Hp) (rd : RdE h v.items sl) (ha : v.kind = 3) : ACalls Tryz.prog 147 #[.agg #[.int .i64 v.kind, .int .i64 v.num, .string v.str, .int .i64 v.next, sl]] h (Is (.bool v.wf) h) := by
  obtain ⟨a, c, xs, rfl, hc, hr, hat⟩ := rd.rows (by decide) v.items.length (fm_len edt_len _)
  have d0 : decide (v.kind = 0) = false := decide_eq_false (by omega)
  have d1 : decide (v.kind = 1) = false := decide_eq_false (by omega)
  have d2 : decide (v.kind = 2) = false := decide_eq_false (by omega)
  have d3 : decide (v.kind = 3) = true := decide_eq_true (by omega)
  have d4 : decide (v.kind = 4) = false := decide_eq_false (by omega)
  have d6 : decide (v.kind = 6) = false := decide_eq_false (by omega)
  have d7 : decide (v.kind = 7) = false := decide_eq_false (by omega)
  have d8 : decide (v.kind = 8) = false := decide_eq_false (by omega)
  rw [V.wf_eq]
  generalize wfEs v.next v.items [] = arr
  (refine enter Tryz.func147 rfl rfl (by kernel_rfl) [] ?_; simp only [go_sem, Nat.reduceBEq])
  simp only [d3, d4, go_sem, Nat.reduceBEq]
  refine Br.intro (fun hn => ?_) (fun hn => ?_)
  · simp only [hn, go_sem, Nat.reduceBEq]
    have hn : ¬ v.next = 0 := by simpa using hn
    exact ⟨by simp [wf0, ha, hn], Ext.refl _⟩
  have hnr := hn
  have hn : v.next = 0 := by simpa using hn
  simp only [hnr, go_sem, Nat.reduceBEq]
  refine Br.intro (fun hl => ?_) (fun hl => ?_)
  · simp only [hl, go_sem, Nat.reduceBEq]
    have hl : 0 < v.items.length := by simpa using hl
    exact ⟨by simp [wf0, ha, hn, hl], Ext.refl _⟩
  have hlr := hl
  have hl : ¬ 0 < v.items.length := by simpa using hl
  simp only [d0, d1, d2, d3, hlr, go_sem, Nat.reduceBEq]
  have hl : v.items.length = 0 := by omega
  refine Br.intro (fun hq => ?_) (fun hq => ?_)
  · simp only [hq, go_sem, Nat.reduceBEq]
    have hq : v.num = 0 := by simpa using hq
    have hq3 : wf0 v arr = decide ((v.str.size : Int) ≤ 400) := by rw [show decide ((v.str.size : Int) ≤ 400) = decide (v.str.size ≤ 400) from decide_eq_decide.2 (by omega)]; simp [wf0, ha, hn, hl, hq]
    exact ⟨by rw [hq3], Ext.refl _⟩
  · simp only [hq, go_sem, Nat.reduceBEq]
    have hq : ¬ v.num = 0 := by simpa using hq
    exact ⟨by simp [wf0, ha, hn, hl, hq], Ext.refl _⟩
set_option maxHeartbeats 800000 in
theorem iWell_4 (v : V) (ih : ∀ e ∈ v.items, WfI e.2) (hbk : v.bulk ≤ 1099511627776) (sl : Value) (h : Hp) (rd : RdE h v.items sl) (hE : Env h) (ha : v.kind = 4) : ACalls Tryz.prog 147 #[.agg #[.int .i64 v.kind, .int .i64 v.num, .string v.str, .int .i64 v.next, sl]] h (Is (.bool v.wf) h) := by
  obtain ⟨a, c, xs, rfl, hc, hr, hat⟩ := rd.rows (by decide) v.items.length (fm_len edt_len _)
  have d0 : decide (v.kind = 0) = false := decide_eq_false (by omega)
  have d1 : decide (v.kind = 1) = false := decide_eq_false (by omega)
  have d2 : decide (v.kind = 2) = false := decide_eq_false (by omega)
  have d3 : decide (v.kind = 3) = false := decide_eq_false (by omega)
  have d4 : decide (v.kind = 4) = true := decide_eq_true (by omega)
  have d6 : decide (v.kind = 6) = false := decide_eq_false (by omega)
  have d7 : decide (v.kind = 7) = false := decide_eq_false (by omega)
  have d8 : decide (v.kind = 8) = false := decide_eq_false (by omega)
  rw [V.wf_eq]
  (refine enter Tryz.func147 rfl rfl (by kernel_rfl) [] ?_; simp only [go_sem, Nat.reduceBEq])
  simp only [d3, go_sem, Nat.reduceBEq]
  refine Br.intro (fun hs => ?_) (fun hs => ?_)
  · simp only [hs, go_sem, Nat.reduceBEq]
    have hs : ¬ v.str = ⟨#[]⟩ := by simpa using hs
    exact ⟨by simp [wf0, ha, hs], Ext.refl _⟩
  have hsr := hs
  have hs : v.str = ⟨#[]⟩ := by simpa using hs
  simp only [d0, d1, d2, d3, d4, d6, d7, d8, hsr, go_sem, Nat.reduceBEq]
  have hB := V.bulk_eq v
  have hlen := V.bulks_len v.items
  refine Br.intro (fun hz => ?_) (fun hz => ?_)
  · simp only [hz, go_sem, Nat.reduceBEq]
    have hz : ¬ v.num = 0 := by simpa using hz
    exact ⟨by simp [wf0, ha, hs, hz], Ext.refl _⟩
  have hzr := hz
  have hz : v.num = 0 := by simpa using hz
  simp only [hzr, go_sem, Nat.reduceBEq]
  (refine (iInRange _ _ _ _).mono ?_; rintro _ _ ⟨rfl, rfl⟩; simp only [go_sem, Nat.reduceBEq])
  refine Br.intro (fun hx => ?_) (fun hx => ?_)
  · simp only [hx, go_sem, Nat.reduceBEq]
    have hx : decide (0 ≤ v.next ∧ v.next ≤ 1000000001) = false := by simpa only [Bool.not_eq_true'] using hx
    have e0 : wf0 v (wfEs v.next v.items []) = false := by simp only [wf0, hx, ha, hs, hz]; simp
    exact ⟨by rw [e0], Ext.refl _⟩
  simp only [hx, go_sem]
  have hx : decide (0 ≤ v.next ∧ v.next ≤ 1000000001) = true := by simpa only [Bool.not_eq_false'] using hx
  have e0 : wf0 v (wfEs v.next v.items []) = wfEs v.next v.items [] := by simp only [wf0, hx, ha, hs, hz]; simp
  rw [e0]
  refine hsem_mk_map fun bm hbn om em => ?_
  generalize hset h bm (.map #[] 0) = h0 at om em ⊢
  simp only [go_sem, Nat.reduceBEq]
  refine aloop (ι := Nat) (fun i => [(85, .val (.int .i64 (i : Nat))), (84, .val (.int .i64 (v.items.length : Nat))), (83, .val (.slice a v.items.length c)), (3, .val (.map (some bm))), (1, .box 1 0)]) (fun _ => [(1, [.int .i64 v.kind, .int .i64 v.num, .string v.str, .int .i64 v.next, .slice a v.items.length c])])
    (fun i h' => i ≤ v.items.length ∧ OwM h' bm ((v.items.take i).map (·.1)) ∧ Ext h h' ∧ wfEs v.next (v.items.drop i) ((v.items.take i).map (·.1)) = wfEs v.next v.items []) (fun i => v.items.length - i) 0 ⟨Nat.zero_le _, om, em, rfl⟩ (by repeat (first | exact wkF_e | refine wkF_c rfl ?_)) (wkB_c rfl wkB_e) rfl ?_
  rintro i h1 ⟨hi, o1, e1, hq⟩
  have hi : i ≤ v.items.length := hi
  simp only [go_sem, Nat.reduceBEq]
  refine Br.intro (fun hb => ?_) (fun hb => ?_) <;> (try simp only [hb, go_sem, Nat.reduceBEq, Nat.reduceEqDiff])
  case refine_2 =>
    have hb : i = v.items.length := by simp at hb; omega
    rw [List.drop_eq_nil_of_le (by omega), wfEs_nil] at hq
    exact ⟨by rw [← hq], e1⟩
  have hb : i < v.items.length := by simpa using hb
  obtain ⟨b, off, rfl, hat'⟩ := hat (by omega)
  obtain ⟨e, he, hm⟩ := get_lt hb
  have wsu := wrap_succ (i := i) (by omega)
  have hbe := bulk_in hm
  rw [drop_cons he, wfEs_cons] at hq
  simp only [ix_nat hb, go_sem, Nat.reduceBEq]
  refine hsem_entry tyS141 (hat'.mono e1) (hr.mono e1) he rfl fun s2 rd2 => ?_
  obtain ⟨a2, c2, _, rfl, _⟩ := rd2.rows (by decide) e.2.items.length (fm_len edt_len _)
  simp only [go_sem, Nat.reduceBEq, Nat.reduceAdd, Nat.reduceLeDiff]
  refine (iIsKey e.1 _ (hE.ext e1)).mono ?_
  rintro _ h2 ⟨rfl, e2⟩
  have e12 := e1.trans e2
  cases hk : keyOk e.1 with
  | false =>
    simp only [go_sem, Nat.reduceBEq]
    exact ⟨by rw [← hq, hk]; simp, e12⟩
  | true =>
    simp only [go_sem, Nat.reduceBEq, Nat.reduceAdd, Nat.reduceLeDiff]
    have o2 := o1.ext e2
    refine hsem_map_has (by kernel_rfl) o2 e.1 ?_
    by_cases hm1 : e.1 ∈ (v.items.take i).map (·.1)
    · have hmd := decide_eq_true hm1
      simp only [hmd, go_sem, Nat.reduceBEq]
      exact ⟨by rw [← hq, hmd]; simp, e12⟩
    have hmd := decide_eq_false hm1
    simp only [hmd, go_sem, Nat.reduceBEq]
    by_cases ht : e.1.text = true
    case pos =>
      have hnx : (!e.1.text && decide (v.next ≤ e.1.num)) = false := by rw [ht]; rfl
      have nt : (!e.1.text) = false := by rw [ht]; rfl
      simp only [nt, go_sem, Nat.reduceBEq, Nat.reduceAdd, Nat.reduceLeDiff]
      refine (ih e hm (by omega) _ _ (rd2.mono e2) (hE.ext e12)).mono ?_
      rintro _ h3 ⟨rfl, e3⟩
      have e13 := e12.trans e3
      cases hw : e.2.wf with
      | false =>
        simp only [go_sem, Nat.reduceBEq]
        exact ⟨by rw [← hq, hw]; simp, e13⟩
      | true =>
        simp only [go_sem, Nat.reduceBEq, Nat.reduceAdd, Nat.reduceLeDiff]
        have hts : (v.items.take (i + 1)).map (·.1) = (v.items.take i).map (·.1) ++ [e.1] := by rw [take_snoc he, List.map_append]; rfl
        refine hsem_map_add (by kernel_rfl) (o2.ext e3) e.1 hm1 fun h4 o4 b4 => ?_
        have e4 : Ext h h4 := b4.ext e13 (by simpa using hbn)
        simp only [wsu, go_sem, Nat.reduceBEq]
        refine Again.intro (i + 1) (by first | omega | (simp only; omega)) ⟨hb, by rw [hts]; exact o4, e4, ?_⟩ (by repeat (first | exact wkF_e | refine wkF_c rfl ?_)) (wkB_c rfl wkB_e) rfl
        rw [hts, ← hq, hk, hmd, hnx, hw]
        simp
    case neg =>
      have ht : e.1.text = false := by simpa using ht
      have nt : (!e.1.text) = true := by rw [ht]; rfl
      simp only [nt, go_sem, Nat.reduceBEq]
      by_cases hg : v.next ≤ e.1.num
      · have dg := decide_eq_true hg
        simp only [dg, go_sem, Nat.reduceBEq]
        exact ⟨by rw [← hq, ht, dg]; simp, e12⟩
      have dg := decide_eq_false hg
      have hnx : (!e.1.text && decide (v.next ≤ e.1.num)) = false := by rw [ht, dg]; rfl
      simp only [dg, go_sem, Nat.reduceBEq, Nat.reduceAdd, Nat.reduceLeDiff]
      refine (ih e hm (by omega) _ _ (rd2.mono e2) (hE.ext e12)).mono ?_
      rintro _ h3 ⟨rfl, e3⟩
      have e13 := e12.trans e3
      cases hw : e.2.wf with
      | false =>
        simp only [go_sem, Nat.reduceBEq]
        exact ⟨by rw [← hq, hw]; simp, e13⟩
      | true =>
        simp only [go_sem, Nat.reduceBEq, Nat.reduceAdd, Nat.reduceLeDiff]
        have hts : (v.items.take (i + 1)).map (·.1) = (v.items.take i).map (·.1) ++ [e.1] := by rw [take_snoc he, List.map_append]; rfl
        refine hsem_map_add (by kernel_rfl) (o2.ext e3) e.1 hm1 fun h4 o4 b4 => ?_
        have e4 : Ext h h4 := b4.ext e13 (by simpa using hbn)
        simp only [wsu, go_sem, Nat.reduceBEq]
        refine Again.intro (i + 1) (by first | omega | (simp only; omega)) ⟨hb, by rw [hts]; exact o4, e4, ?_⟩ (by repeat (first | exact wkF_e | refine wkF_c rfl ?_)) (wkB_c rfl wkB_e) rfl
        rw [hts, ← hq, hk, hmd, hnx, hw]
        simp
theorem iWell_6 (v : V) (sl : Value) (h : Hp) (rd : RdE h v.items sl) (ha : v.kind = 6) : ACalls Tryz.prog 147 #[.agg #[.int .i64 v.kind, .int .i64 v.num, .string v.str, .int .i64 v.next, sl]] h (Is (.bool v.wf) h) := by
  obtain ⟨a, c, xs, rfl, hc, hr, hat⟩ := rd.rows (by decide) v.items.length (fm_len edt_len _)
  have d0 : decide (v.kind = 0) = false := decide_eq_false (by omega)
  have d1 : decide (v.kind = 1) = false := decide_eq_false (by omega)
  have d2 : decide (v.kind = 2) = false := decide_eq_false (by omega)
  have d3 : decide (v.kind = 3) = false := decide_eq_false (by omega)
  have d4 : decide (v.kind = 4) = false := decide_eq_false (by omega)
  have d6 : decide (v.kind = 6) = true := decide_eq_true (by omega)
  have d7 : decide (v.kind = 7) = false := decide_eq_false (by omega)
  have d8 : decide (v.kind = 8) = false := decide_eq_false (by omega)
  rw [V.wf_eq]
  generalize wfEs v.next v.items [] = arr
  (refine enter Tryz.func147 rfl rfl (by kernel_rfl) [] ?_; simp only [go_sem, Nat.reduceBEq])
  simp only [d3, go_sem, Nat.reduceBEq]
  refine Br.intro (fun hs => ?_) (fun hs => ?_)
  · simp only [hs, go_sem, Nat.reduceBEq]
    have hs : ¬ v.str = ⟨#[]⟩ := by simpa using hs
    exact ⟨by simp [wf0, ha, hs], Ext.refl _⟩
  have hsr := hs
  have hs : v.str = ⟨#[]⟩ := by simpa using hs
  simp only [d4, hsr, go_sem, Nat.reduceBEq]
  refine Br.intro (fun hn => ?_) (fun hn => ?_)
  · simp only [hn, go_sem, Nat.reduceBEq]
    have hn : ¬ v.next = 0 := by simpa using hn
    exact ⟨by simp [wf0, ha, hs, hn], Ext.refl _⟩
  have hnr := hn
  have hn : v.next = 0 := by simpa using hn
  simp only [hnr, go_sem, Nat.reduceBEq]
  refine Br.intro (fun hl => ?_) (fun hl => ?_)
  · simp only [hl, go_sem, Nat.reduceBEq]
    have hl : 0 < v.items.length := by simpa using hl
    exact ⟨by simp [wf0, ha, hs, hn, hl], Ext.refl _⟩
  have hlr := hl
  have hl : ¬ 0 < v.items.length := by simpa using hl
  simp only [d0, d1, d2, d3, d6, hlr, go_sem, Nat.reduceBEq]
  have hl : v.items.length = 0 := by omega
  (refine (iInRange _ _ _ _).mono ?_; rintro _ _ ⟨rfl, rfl⟩; simp only [go_sem, Nat.reduceBEq])
  exact ⟨by simp [wf0, ha, hs, hn, hl], (Ext.refl _)⟩
theorem iWell_7 (v : V) (sl : Value) (h : Hp) (rd : RdE h v.items sl) (ha : v.kind = 7) : ACalls Tryz.prog 147 #[.agg #[.int .i64 v.kind, .int .i64 v.num, .string v.str, .int .i64 v.next, sl]] h (Is (.bool v.wf) h) := by
  obtain ⟨a, c, xs, rfl, hc, hr, hat⟩ := rd.rows (by decide) v.items.length (fm_len edt_len _)
  have d0 : decide (v.kind = 0) = false := decide_eq_false (by omega)
  have d1 : decide (v.kind = 1) = false := decide_eq_false (by omega)
  have d2 : decide (v.kind = 2) = false := decide_eq_false (by omega)
  have d3 : decide (v.kind = 3) = false := decide_eq_false (by omega)
  have d4 : decide (v.kind = 4) = false := decide_eq_false (by omega)
  have d6 : decide (v.kind = 6) = false := decide_eq_false (by omega)
  have d7 : decide (v.kind = 7) = true := decide_eq_true (by omega)
  have d8 : decide (v.kind = 8) = false := decide_eq_false (by omega)
  rw [V.wf_eq]
  generalize wfEs v.next v.items [] = arr
  (refine enter Tryz.func147 rfl rfl (by kernel_rfl) [] ?_; simp only [go_sem, Nat.reduceBEq])
  simp only [d3, go_sem, Nat.reduceBEq]
  refine Br.intro (fun hs => ?_) (fun hs => ?_)
  · simp only [hs, go_sem, Nat.reduceBEq]
    have hs : ¬ v.str = ⟨#[]⟩ := by simpa using hs
    exact ⟨by simp [wf0, ha, hs], Ext.refl _⟩
  have hsr := hs
  have hs : v.str = ⟨#[]⟩ := by simpa using hs
  simp only [d4, hsr, go_sem, Nat.reduceBEq]
  refine Br.intro (fun hn => ?_) (fun hn => ?_)
  · simp only [hn, go_sem, Nat.reduceBEq]
    have hn : ¬ v.next = 0 := by simpa using hn
    exact ⟨by simp [wf0, ha, hs, hn], Ext.refl _⟩
  have hnr := hn
  have hn : v.next = 0 := by simpa using hn
  simp only [hnr, go_sem, Nat.reduceBEq]
  refine Br.intro (fun hl => ?_) (fun hl => ?_)
  · simp only [hl, go_sem, Nat.reduceBEq]
    have hl : 0 < v.items.length := by simpa using hl
    exact ⟨by simp [wf0, ha, hs, hn, hl], Ext.refl _⟩
  have hlr := hl
  have hl : ¬ 0 < v.items.length := by simpa using hl
  simp only [d0, d1, d2, d3, d6, d7, hlr, go_sem, Nat.reduceBEq]
  have hl : v.items.length = 0 := by omega
  (refine (iInRange _ _ _ _).mono ?_; rintro _ _ ⟨rfl, rfl⟩; simp only [go_sem, Nat.reduceBEq])
  exact ⟨by simp [wf0, ha, hs, hn, hl], (Ext.refl _)⟩
theorem iWell_8 (v : V) (sl : Value) (h : Hp) (rd : RdE h v.items sl) (ha : v.kind = 8) : ACalls Tryz.prog 147 #[.agg #[.int .i64 v.kind, .int .i64 v.num, .string v.str, .int .i64 v.next, sl]] h (Is (.bool v.wf) h) := by
  obtain ⟨a, c, xs, rfl, hc, hr, hat⟩ := rd.rows (by decide) v.items.length (fm_len edt_len _)
  have d0 : decide (v.kind = 0) = false := decide_eq_false (by omega)
  have d1 : decide (v.kind = 1) = false := decide_eq_false (by omega)
  have d2 : decide (v.kind = 2) = false := decide_eq_false (by omega)
  have d3 : decide (v.kind = 3) = false := decide_eq_false (by omega)
  have d4 : decide (v.kind = 4) = false := decide_eq_false (by omega)
  have d6 : decide (v.kind = 6) = false := decide_eq_false (by omega)
  have d7 : decide (v.kind = 7) = false := decide_eq_false (by omega)
  have d8 : decide (v.kind = 8) = true := decide_eq_true (by omega)
  rw [V.wf_eq]
  generalize wfEs v.next v.items [] = arr
  (refine enter Tryz.func147 rfl rfl (by kernel_rfl) [] ?_; simp only [go_sem, Nat.reduceBEq])
  simp only [d3, go_sem, Nat.reduceBEq]
  refine Br.intro (fun hs => ?_) (fun hs => ?_)
  · simp only [hs, go_sem, Nat.reduceBEq]
    have hs : ¬ v.str = ⟨#[]⟩ := by simpa using hs
    exact ⟨by simp [wf0, ha, hs], Ext.refl _⟩
  have hsr := hs
  have hs : v.str = ⟨#[]⟩ := by simpa using hs
  simp only [d4, hsr, go_sem, Nat.reduceBEq]
  refine Br.intro (fun hn => ?_) (fun hn => ?_)
  · simp only [hn, go_sem, Nat.reduceBEq]
    have hn : ¬ v.next = 0 := by simpa using hn
    exact ⟨by simp [wf0, ha, hs, hn], Ext.refl _⟩
  have hnr := hn
  have hn : v.next = 0 := by simpa using hn
  simp only [hnr, go_sem, Nat.reduceBEq]
  refine Br.intro (fun hl => ?_) (fun hl => ?_)
  · simp only [hl, go_sem, Nat.reduceBEq]
    have hl : 0 < v.items.length := by simpa using hl
    exact ⟨by simp [wf0, ha, hs, hn, hl], Ext.refl _⟩
  have hlr := hl
  have hl : ¬ 0 < v.items.length := by simpa using hl
  simp only [d0, d1, d2, d3, d6, d7, d8, hlr, go_sem, Nat.reduceBEq]
  have hl : v.items.length = 0 := by omega
  (refine (iInRange _ _ _ _).mono ?_; rintro _ _ ⟨rfl, rfl⟩; simp only [go_sem, Nat.reduceBEq])
  exact ⟨by simp [wf0, ha, hs, hn, hl], (Ext.refl _)⟩
theorem iWell_o (v : V) (sl : Value) (h : Hp) (rd : RdE h v.items sl) (ha : ¬ v.kind = 0 ∧ ¬ v.kind = 1 ∧ ¬ v.kind = 2 ∧ ¬ v.kind = 3 ∧ ¬ v.kind = 4 ∧ ¬ v.kind = 6 ∧ ¬ v.kind = 7 ∧ ¬ v.kind = 8) : ACalls Tryz.prog 147 #[.agg #[.int .i64 v.kind, .int .i64 v.num, .string v.str, .int .i64 v.next, sl]] h (Is (.bool v.wf) h) := by
  obtain ⟨a, c, xs, rfl, hc, hr, hat⟩ := rd.rows (by decide) v.items.length (fm_len edt_len _)
  have d0 : decide (v.kind = 0) = false := decide_eq_false (by omega)
  have d1 : decide (v.kind = 1) = false := decide_eq_false (by omega)
  have d2 : decide (v.kind = 2) = false := decide_eq_false (by omega)
  have d3 : decide (v.kind = 3) = false := decide_eq_false (by omega)
  have d4 : decide (v.kind = 4) = false := decide_eq_false (by omega)
  have d6 : decide (v.kind = 6) = false := decide_eq_false (by omega)
  have d7 : decide (v.kind = 7) = false := decide_eq_false (by omega)
  have d8 : decide (v.kind = 8) = false := decide_eq_false (by omega)
  obtain ⟨a0, a1, a2, a3, a4, a6, a7, a8⟩ := ha
  rw [V.wf_eq]
  generalize wfEs v.next v.items [] = arr
  (refine enter Tryz.func147 rfl rfl (by kernel_rfl) [] ?_; simp only [go_sem, Nat.reduceBEq])
  simp only [d3, go_sem, Nat.reduceBEq]
  refine Br.intro (fun hs => ?_) (fun hs => ?_)
  · simp only [hs, go_sem, Nat.reduceBEq]
    have hs : ¬ v.str = ⟨#[]⟩ := by simpa using hs
    exact ⟨by simp [wf0, a0, a1, a2, a3, a4, a6, a7, a8, hs], Ext.refl _⟩
  have hsr := hs
  have hs : v.str = ⟨#[]⟩ := by simpa using hs
  simp only [d4, hsr, go_sem, Nat.reduceBEq]
  refine Br.intro (fun hn => ?_) (fun hn => ?_)
  · simp only [hn, go_sem, Nat.reduceBEq]
    have hn : ¬ v.next = 0 := by simpa using hn
    exact ⟨by simp [wf0, a0, a1, a2, a3, a4, a6, a7, a8, hs, hn], Ext.refl _⟩
  have hnr := hn
  have hn : v.next = 0 := by simpa using hn
  simp only [hnr, go_sem, Nat.reduceBEq]
  refine Br.intro (fun hl => ?_) (fun hl => ?_)
  · simp only [hl, go_sem, Nat.reduceBEq]
    have hl : 0 < v.items.length := by simpa using hl
    exact ⟨by simp [wf0, a0, a1, a2, a3, a4, a6, a7, a8, hs, hn, hl], Ext.refl _⟩
  have hlr := hl
  have hl : ¬ 0 < v.items.length := by simpa using hl
  simp only [d0, d1, d2, d3, d4, d6, d7, d8, hlr, go_sem, Nat.reduceBEq]
  have hl : v.items.length = 0 := by omega
  exact ⟨by simp [wf0, a0, a1, a2, a3, a4, a6, a7, a8, hs, hn, hl], (Ext.refl _)⟩
theorem iWell : ∀ v, WfI v := V.ind fun v ih hbk sl h rd hE => by
  rcases k9 v.kind with ha | ha | ha | ha | ha | ha | ha | ha | ha
  · exact iWell_0 v sl h rd ha
  · exact iWell_1 v sl h rd ha
  · exact iWell_2 v sl h rd ha
  · exact iWell_3 v sl h rd ha
  · exact iWell_4 v ih hbk sl h rd hE ha
  · exact iWell_6 v sl h rd ha
  · exact iWell_7 v sl h rd ha
  · exact iWell_8 v sl h rd ha
  · exact iWell_o v sl h rd ha
def WfS (v : V) : Prop := v.bulk ≤ 1099511627776 → ∀ (sl : Value) (h : Hp), RdE h v.items sl → ACalls Tryz.prog 135 #[.agg #[.int .i64 v.kind, .int .i64 v.num, .string v.str, .int .i64 v.next, sl]] h (Is (.bool v.wf) h)
theorem sWell_0 (v : V) (sl : Value) (h : Hp) (rd : RdE h v.items sl) (ha : v.kind = 0) : ACalls Tryz.prog 135 #[.agg #[.int .i64 v.kind, .int .i64 v.num, .string v.str, .int .i64 v.next, sl]] h (Is (.bool v.wf) h) := by
  obtain ⟨a, c, xs, rfl, hc, hr, hat⟩ := rd.rows (by decide) v.items.length (fm_len edt_len _)
  have d0 : decide (v.kind = 0) = true := decide_eq_true (by omega)
  have d1 : decide (v.kind = 1) = false := decide_eq_false (by omega)
  have d2 : decide (v.kind = 2) = false := decide_eq_false (by omega)
  have d3 : decide (v.kind = 3) = false := decide_eq_false (by omega)
  have d4 : decide (v.kind = 4) = false := decide_eq_false (by omega)
  have d6 : decide (v.kind = 6) = false := decide_eq_false (by omega)
  have d7 : decide (v.kind = 7) = false := decide_eq_false (by omega)
  have d8 : decide (v.kind = 8) = false := decide_eq_false (by omega)
  rw [V.wf_eq]
  generalize wfEs v.next v.items [] = arr
  (refine enter Tryz.func135 rfl rfl (by kernel_rfl) [] ?_; simp only [go_sem, Nat.reduceBEq])
  simp only [d3, go_sem, Nat.reduceBEq]
  refine Br.intro (fun hs => ?_) (fun hs => ?_)
  · simp only [hs, go_sem, Nat.reduceBEq]
    have hs : ¬ v.str = ⟨#[]⟩ := by simpa using hs
    exact ⟨by simp [wf0, ha, hs], Ext.refl _⟩
  have hsr := hs
  have hs : v.str = ⟨#[]⟩ := by simpa using hs
  simp only [d4, hsr, go_sem, Nat.reduceBEq]
  refine Br.intro (fun hn => ?_) (fun hn => ?_)
  · simp only [hn, go_sem, Nat.reduceBEq]
    have hn : ¬ v.next = 0 := by simpa using hn
    exact ⟨by simp [wf0, ha, hs, hn], Ext.refl _⟩
  have hnr := hn
  have hn : v.next = 0 := by simpa using hn
  simp only [hnr, go_sem, Nat.reduceBEq]
  refine Br.intro (fun hl => ?_) (fun hl => ?_)
  · simp only [hl, go_sem, Nat.reduceBEq]
    have hl : 0 < v.items.length := by simpa using hl
    exact ⟨by simp [wf0, ha, hs, hn, hl], Ext.refl _⟩
  have hlr := hl
  have hl : ¬ 0 < v.items.length := by simpa using hl
  simp only [d0, hlr, go_sem, Nat.reduceBEq]
  have hl : v.items.length = 0 := by omega
  exact ⟨by simp [wf0, ha, hs, hn, hl], (Ext.refl _)⟩
theorem sWell_1 (v : V) (sl : Value) (h : Hp) (rd : RdE h v.items sl) (ha : v.kind = 1) : ACalls Tryz.prog 135 #[.agg #[.int .i64 v.kind, .int .i64 v.num, .string v.str, .int .i64 v.next, sl]] h (Is (.bool v.wf) h) := by
  obtain ⟨a, c, xs, rfl, hc, hr, hat⟩ := rd.rows (by decide) v.items.length (fm_len edt_len _)
  have d0 : decide (v.kind = 0) = false := decide_eq_false (by omega)
  have d1 : decide (v.kind = 1) = true := decide_eq_true (by omega)
  have d2 : decide (v.kind = 2) = false := decide_eq_false (by omega)
  have d3 : decide (v.kind = 3) = false := decide_eq_false (by omega)
  have d4 : decide (v.kind = 4) = false := decide_eq_false (by omega)
  have d6 : decide (v.kind = 6) = false := decide_eq_false (by omega)
  have d7 : decide (v.kind = 7) = false := decide_eq_false (by omega)
  have d8 : decide (v.kind = 8) = false := decide_eq_false (by omega)
  rw [V.wf_eq]
  generalize wfEs v.next v.items [] = arr
  (refine enter Tryz.func135 rfl rfl (by kernel_rfl) [] ?_; simp only [go_sem, Nat.reduceBEq])
  simp only [d3, go_sem, Nat.reduceBEq]
  refine Br.intro (fun hs => ?_) (fun hs => ?_)
  · simp only [hs, go_sem, Nat.reduceBEq]
    have hs : ¬ v.str = ⟨#[]⟩ := by simpa using hs
    exact ⟨by simp [wf0, ha, hs], Ext.refl _⟩
  have hsr := hs
  have hs : v.str = ⟨#[]⟩ := by simpa using hs
  simp only [d4, hsr, go_sem, Nat.reduceBEq]
  refine Br.intro (fun hn => ?_) (fun hn => ?_)
  · simp only [hn, go_sem, Nat.reduceBEq]
    have hn : ¬ v.next = 0 := by simpa using hn
    exact ⟨by simp [wf0, ha, hs, hn], Ext.refl _⟩
  have hnr := hn
  have hn : v.next = 0 := by simpa using hn
  simp only [hnr, go_sem, Nat.reduceBEq]
  refine Br.intro (fun hl => ?_) (fun hl => ?_)
  · simp only [hl, go_sem, Nat.reduceBEq]
    have hl : 0 < v.items.length := by simpa using hl
    exact ⟨by simp [wf0, ha, hs, hn, hl], Ext.refl _⟩
  have hlr := hl
  have hl : ¬ 0 < v.items.length := by simpa using hl
  simp only [d0, d1, hlr, go_sem, Nat.reduceBEq]
  have hl : v.items.length = 0 := by omega
  (refine (l1In_c _ _ _ _).mono ?_; rintro _ _ ⟨rfl, rfl⟩; simp only [go_sem, Nat.reduceBEq])
  exact ⟨by simp [wf0, ha, hs, hn, hl], (Ext.refl _)⟩
theorem sWell_2 (v : V) (sl : Value) (h : Hp) (rd : RdE h v.items sl) (ha : v.kind = 2) : ACalls Tryz.prog 135 #[.agg #[.int .i64 v.kind, .int .i64 v.num, .string v.str, .int .i64 v.next, sl]] h (Is (.bool v.wf) h) := by
  obtain ⟨a, c, xs, rfl, hc, hr, hat⟩ := rd.rows (by decide) v.items.length (fm_len edt_len _)
  have d0 : decide (v.kind = 0) = false := decide_eq_false (by omega)
  have d1 : decide (v.kind = 1) = false := decide_eq_false (by omega)
  have d2 : decide (v.kind = 2) = true := decide_eq_true (by omega)
  have d3 : decide (v.kind = 3) = false := decide_eq_false (by omega)
  have d4 : decide (v.kind = 4) = false := decide_eq_false (by omega)
  have d6 : decide (v.kind = 6) = false := decide_eq_false (by omega)
  have d7 : decide (v.kind = 7) = false := decide_eq_false (by omega)
  have d8 : decide (v.kind = 8) = false := decide_eq_false (by omega)
  rw [V.wf_eq]
  generalize wfEs v.next v.items [] = arr
  (refine enter Tryz.func135 rfl rfl (by kernel_rfl) [] ?_; simp only [go_sem, Nat.reduceBEq])
  simp only [d3, go_sem, Nat.reduceBEq]
  refine Br.intro (fun hs => ?_) (fun hs => ?_)
  · simp only [hs, go_sem, Nat.reduceBEq]
    have hs : ¬ v.str = ⟨#[]⟩ := by simpa using hs
    exact ⟨by simp [wf0, ha, hs], Ext.refl _⟩
  have hsr := hs
  have hs : v.str = ⟨#[]⟩ := by simpa using hs
  simp only [d4, hsr, go_sem, Nat.reduceBEq]
  refine Br.intro (fun hn => ?_) (fun hn => ?_)
  · simp only [hn, go_sem, Nat.reduceBEq]
    have hn : ¬ v.next = 0 := by simpa using hn
    exact ⟨by simp [wf0, ha, hs, hn], Ext.refl _⟩
  have hnr := hn
  have hn : v.next = 0 := by simpa using hn
  simp only [hnr, go_sem, Nat.reduceBEq]
  refine Br.intro (fun hl => ?_) (fun hl => ?_)
  · simp only [hl, go_sem, Nat.reduceBEq]
    have hl : 0 < v.items.length := by simpa using hl
    exact ⟨by simp [wf0, ha, hs, hn, hl], Ext.refl _⟩
  have hlr := hl
  have hl : ¬ 0 < v.items.length := by simpa using hl
  simp only [d0, d1, d2, hlr, go_sem, Nat.reduceBEq]
  have hl : v.items.length = 0 := by omega
  (refine (l1In_c _ _ _ _).mono ?_; rintro _ _ ⟨rfl, rfl⟩; simp only [go_sem, Nat.reduceBEq])
  exact ⟨by simp [wf0, ha, hs, hn, hl], (Ext.refl _)⟩
theorem sWell_3 (v : V) (sl : Value) (h : Hp) (rd : RdE h v.items sl) (ha : v.kind = 3) : ACalls Tryz.prog 135 #[.agg #[.int .i64 v.kind, .int .i64 v.num, .string v.str, .int .i64 v.next, sl]] h (Is (.bool v.wf) h) := by
  obtain ⟨a, c, xs, rfl, hc, hr, hat⟩ := rd.rows (by decide) v.items.length (fm_len edt_len _)
  have d0 : decide (v.kind = 0) = false := decide_eq_false (by omega)
  have d1 : decide (v.kind = 1) = false := decide_eq_false (by omega)
  have d2 : decide (v.kind = 2) = false := decide_eq_false (by omega)
  have d3 : decide (v.kind = 3) = true := decide_eq_true (by omega)
  have d4 : decide (v.kind = 4) = false := decide_eq_false (by omega)
  have d6 : decide (v.kind = 6) = false := decide_eq_false (by omega)
  have d7 : decide (v.kind = 7) = false := decide_eq_false (by omega)
  have d8 : decide (v.kind = 8) = false := decide_eq_false (by omega)
  rw [V.wf_eq]
  generalize wfEs v.next v.items [] = arr
  (refine enter Tryz.func135 rfl rfl (by kernel_rfl) [] ?_; simp only [go_sem, Nat.reduceBEq])
  simp only [d3, d4, go_sem, Nat.reduceBEq]
  refine Br.intro (fun hn => ?_) (fun hn => ?_)
  · simp only [hn, go_sem, Nat.reduceBEq]
    have hn : ¬ v.next = 0 := by simpa using hn
    exact ⟨by simp [wf0, ha, hn], Ext.refl _⟩
  have hnr := hn
  have hn : v.next = 0 := by simpa using hn
  simp only [hnr, go_sem, Nat.reduceBEq]
  refine Br.intro (fun hl => ?_) (fun hl => ?_)
  · simp only [hl, go_sem, Nat.reduceBEq]
    have hl : 0 < v.items.length := by simpa using hl
    exact ⟨by simp [wf0, ha, hn, hl], Ext.refl _⟩
  have hlr := hl
  have hl : ¬ 0 < v.items.length := by simpa using hl
  simp only [d0, d1, d2, d3, hlr, go_sem, Nat.reduceBEq]
  have hl : v.items.length = 0 := by omega
  refine Br.intro (fun hq => ?_) (fun hq => ?_)
  · simp only [hq, go_sem, Nat.reduceBEq]
    have hq : v.num = 0 := by simpa using hq
    have hq3 : wf0 v arr = decide ((v.str.size : Int) ≤ 400) := by rw [show decide ((v.str.size : Int) ≤ 400) = decide (v.str.size ≤ 400) from decide_eq_decide.2 (by omega)]; simp [wf0, ha, hn, hl, hq]
    exact ⟨by rw [hq3], Ext.refl _⟩
  · simp only [hq, go_sem, Nat.reduceBEq]
    have hq : ¬ v.num = 0 := by simpa using hq
    exact ⟨by simp [wf0, ha, hn, hl, hq], Ext.refl _⟩
set_option maxHeartbeats 800000 in
theorem sWell_4 (v : V) (ih : ∀ e ∈ v.items, WfS e.2) (hbk : v.bulk ≤ 1099511627776) (sl : Value) (h : Hp) (rd : RdE h v.items sl) (ha : v.kind = 4) : ACalls Tryz.prog 135 #[.agg #[.int .i64 v.kind, .int .i64 v.num, .string v.str, .int .i64 v.next, sl]] h (Is (.bool v.wf) h) := by
  obtain ⟨a, c, xs, rfl, hc, hr, hat⟩ := rd.rows (by decide) v.items.length (fm_len edt_len _)
  have d0 : decide (v.kind = 0) = false := decide_eq_false (by omega)
  have d1 : decide (v.kind = 1) = false := decide_eq_false (by omega)
  have d2 : decide (v.kind = 2) = false := decide_eq_false (by omega)
  have d3 : decide (v.kind = 3) = false := decide_eq_false (by omega)
  have d4 : decide (v.kind = 4) = true := decide_eq_true (by omega)
  have d6 : decide (v.kind = 6) = false := decide_eq_false (by omega)
  have d7 : decide (v.kind = 7) = false := decide_eq_false (by omega)
  have d8 : decide (v.kind = 8) = false := decide_eq_false (by omega)
  rw [V.wf_eq]
  (refine enter Tryz.func135 rfl rfl (by kernel_rfl) [] ?_; simp only [go_sem, Nat.reduceBEq])
  simp only [d3, go_sem, Nat.reduceBEq]
  refine Br.intro (fun hs => ?_) (fun hs => ?_)
  · simp only [hs, go_sem, Nat.reduceBEq]
    have hs : ¬ v.str = ⟨#[]⟩ := by simpa using hs
    exact ⟨by simp [wf0, ha, hs], Ext.refl _⟩
  have hsr := hs
  have hs : v.str = ⟨#[]⟩ := by simpa using hs
  simp only [d0, d1, d2, d3, d4, d6, d7, d8, hsr, go_sem, Nat.reduceBEq]
  have hB := V.bulk_eq v
  have hlen := V.bulks_len v.items
  refine Br.intro (fun hz => ?_) (fun hz => ?_)
  · simp only [hz, go_sem, Nat.reduceBEq]
    have hz : ¬ v.num = 0 := by simpa using hz
    exact ⟨by simp [wf0, ha, hs, hz], Ext.refl _⟩
  have hzr := hz
  have hz : v.num = 0 := by simpa using hz
  simp only [hzr, go_sem, Nat.reduceBEq]
  (refine (l1In_c _ _ _ _).mono ?_; rintro _ _ ⟨rfl, rfl⟩; simp only [go_sem, Nat.reduceBEq])
  refine Br.intro (fun hx => ?_) (fun hx => ?_)
  · simp only [hx, go_sem, Nat.reduceBEq]
    have hx : decide (0 ≤ v.next ∧ v.next ≤ 1000000001) = false := by simpa only [Bool.not_eq_true'] using hx
    have e0 : wf0 v (wfEs v.next v.items []) = false := by simp only [wf0, hx, ha, hs, hz]; simp
    exact ⟨by rw [e0], Ext.refl _⟩
  simp only [hx, go_sem]
  have hx : decide (0 ≤ v.next ∧ v.next ≤ 1000000001) = true := by simpa only [Bool.not_eq_false'] using hx
  have e0 : wf0 v (wfEs v.next v.items []) = wfEs v.next v.items [] := by simp only [wf0, hx, ha, hs, hz]; simp
  rw [e0]
  refine aloop (ι := Nat) (fun i => [(3, .val (.int .i64 (i : Nat))), (1, .box 1 0)]) (fun _ => [(1, [.int .i64 v.kind, .int .i64 v.num, .string v.str, .int .i64 v.next, .slice a v.items.length c])])
    (fun i h' => i ≤ v.items.length ∧ Ext h h' ∧ wfEs v.next (v.items.drop i) ((v.items.take i).map (·.1)) = wfEs v.next v.items []) (fun i => v.items.length - i) 0 ⟨Nat.zero_le _, Ext.refl _, rfl⟩ (by repeat (first | exact wkF_e | refine wkF_c rfl ?_)) (wkB_c rfl wkB_e) rfl ?_
  rintro i h1 ⟨hi, e1, hq⟩
  have hi : i ≤ v.items.length := hi
  simp only [go_sem, Nat.reduceBEq]
  refine Br.intro (fun hb => ?_) (fun hb => ?_) <;> (try simp only [hb, go_sem, Nat.reduceBEq, Nat.reduceEqDiff])
  case refine_2 =>
    have hb : i = v.items.length := by simp at hb; omega
    rw [List.drop_eq_nil_of_le (by omega), wfEs_nil] at hq
    exact ⟨by rw [← hq], e1⟩
  have hb : i < v.items.length := by simpa using hb
  obtain ⟨b, off, rfl, hat'⟩ := hat (by omega)
  obtain ⟨e, he, hm⟩ := get_lt hb
  have wsu := wrap_succ (i := i) (by omega)
  have hbe := bulk_in hm
  rw [drop_cons he, wfEs_cons] at hq
  simp only [ix_nat hb, go_sem, Nat.reduceBEq]
  refine hsem_ekey tyS40 (hat'.mono e1) (hr.mono e1) he rfl ?_
  simp only [go_sem, Nat.reduceBEq, Nat.reduceAdd, Nat.reduceLeDiff]
  refine (sIsKey e.1 _ (by omega)).mono ?_
  rintro _ h2 ⟨rfl, e2⟩
  have e12 := e1.trans e2
  cases hk : keyOk e.1 with
  | false =>
    simp only [go_sem, Nat.reduceBEq]
    exact ⟨by rw [← hq, hk]; simp, e12⟩
  | true =>
    simp only [go_sem, Nat.reduceBEq]
    by_cases ht : e.1.text = true
    case pos =>
      have hnx : (!e.1.text && decide (v.next ≤ e.1.num)) = false := by rw [ht]; rfl
      have nt : (!e.1.text) = false := by rw [ht]; rfl
      simp only [nt, go_sem, Nat.reduceBEq, Nat.reduceAdd, Nat.reduceLeDiff]
      have hlf : v.find e.1 = fk v.items e.1 0 := by unfold V.find; rw [if_pos ha]
      obtain ⟨j, hj1, hj2⟩ := fk_at he
      rw [hj1] at hlf
      refine (sFind v e.1 (by omega) _ _ (rd.mono e12)).mono ?_
      rintro _ _ ⟨rfl, rfl⟩
      rw [hlf, ixI_some]
      simp only [go_sem, Nat.reduceBEq]
      by_cases hm1 : e.1 ∈ (v.items.take i).map (·.1)
      · have dm : decide ((j : Int) = (i : Int)) = false := decide_eq_false fun k => hj2.1 (by omega) hm1
        have hmd := decide_eq_true hm1
        simp only [dm, go_sem, Nat.reduceBEq]
        exact ⟨by rw [← hq, hmd]; simp, e12⟩
      have dm : decide ((j : Int) = (i : Int)) = true := decide_eq_true (by have := hj2.2 hm1; omega)
      have hmd := decide_eq_false hm1
      simp only [dm, go_sem, Nat.reduceBEq]
      simp only [ix_nat hb, go_sem, Nat.reduceBEq, Nat.reduceAdd]
      refine hsem_eval tyS44 (hat'.mono e12) (hr.mono e12) he rfl fun s2 rd2 => ?_
      obtain ⟨a2, c2, _, rfl, _⟩ := rd2.rows (by decide) e.2.items.length (fm_len edt_len _)
      simp only [go_sem, Nat.reduceBEq]
      refine (ih e hm (by omega) _ _ rd2).mono ?_
      rintro _ h3 ⟨rfl, e3⟩
      have e13 := e12.trans e3
      cases hw : e.2.wf with
      | false =>
        simp only [go_sem, Nat.reduceBEq]
        exact ⟨by rw [← hq, hw]; simp, e13⟩
      | true =>
        simp only [go_sem, Nat.reduceBEq]
        have hts : (v.items.take (i + 1)).map (·.1) = (v.items.take i).map (·.1) ++ [e.1] := by rw [take_snoc he, List.map_append]; rfl
        try simp only [wsu, go_sem]
        refine Again.intro (i + 1) (by first | omega | (simp only; omega)) ⟨hb, e13, ?_⟩ (by repeat (first | exact wkF_e | refine wkF_c rfl ?_)) (wkB_c rfl wkB_e) rfl
        rw [hts, ← hq, hk, hmd, hnx, hw]
        simp
    case neg =>
      have ht : e.1.text = false := by simpa using ht
      have nt : (!e.1.text) = true := by rw [ht]; rfl
      simp only [nt, go_sem, Nat.reduceBEq]
      by_cases hg : v.next ≤ e.1.num
      · have dg := decide_eq_true hg
        simp only [dg, go_sem, Nat.reduceBEq]
        exact ⟨by rw [← hq, ht, dg]; simp, e12⟩
      have dg := decide_eq_false hg
      have hnx : (!e.1.text && decide (v.next ≤ e.1.num)) = false := by rw [ht, dg]; rfl
      simp only [dg, go_sem, Nat.reduceBEq, Nat.reduceAdd, Nat.reduceLeDiff]
      have hlf : v.find e.1 = fk v.items e.1 0 := by unfold V.find; rw [if_pos ha]
      obtain ⟨j, hj1, hj2⟩ := fk_at he
      rw [hj1] at hlf
      refine (sFind v e.1 (by omega) _ _ (rd.mono e12)).mono ?_
      rintro _ _ ⟨rfl, rfl⟩
      rw [hlf, ixI_some]
      simp only [go_sem, Nat.reduceBEq]
      by_cases hm1 : e.1 ∈ (v.items.take i).map (·.1)
      · have dm : decide ((j : Int) = (i : Int)) = false := decide_eq_false fun k => hj2.1 (by omega) hm1
        have hmd := decide_eq_true hm1
        simp only [dm, go_sem, Nat.reduceBEq]
        exact ⟨by rw [← hq, hmd]; simp, e12⟩
      have dm : decide ((j : Int) = (i : Int)) = true := decide_eq_true (by have := hj2.2 hm1; omega)
      have hmd := decide_eq_false hm1
      simp only [dm, go_sem, Nat.reduceBEq]
      simp only [ix_nat hb, go_sem, Nat.reduceBEq, Nat.reduceAdd]
      refine hsem_eval tyS44 (hat'.mono e12) (hr.mono e12) he rfl fun s2 rd2 => ?_
      obtain ⟨a2, c2, _, rfl, _⟩ := rd2.rows (by decide) e.2.items.length (fm_len edt_len _)
      simp only [go_sem, Nat.reduceBEq]
      refine (ih e hm (by omega) _ _ rd2).mono ?_
      rintro _ h3 ⟨rfl, e3⟩
      have e13 := e12.trans e3
      cases hw : e.2.wf with
      | false =>
        simp only [go_sem, Nat.reduceBEq]
        exact ⟨by rw [← hq, hw]; simp, e13⟩
      | true =>
        simp only [go_sem, Nat.reduceBEq]
        have hts : (v.items.take (i + 1)).map (·.1) = (v.items.take i).map (·.1) ++ [e.1] := by rw [take_snoc he, List.map_append]; rfl
        try simp only [wsu, go_sem]
        refine Again.intro (i + 1) (by first | omega | (simp only; omega)) ⟨hb, e13, ?_⟩ (by repeat (first | exact wkF_e | refine wkF_c rfl ?_)) (wkB_c rfl wkB_e) rfl
        rw [hts, ← hq, hk, hmd, hnx, hw]
        simp
theorem sWell_6 (v : V) (sl : Value) (h : Hp) (rd : RdE h v.items sl) (ha : v.kind = 6) : ACalls Tryz.prog 135 #[.agg #[.int .i64 v.kind, .int .i64 v.num, .string v.str, .int .i64 v.next, sl]] h (Is (.bool v.wf) h) := by
  obtain ⟨a, c, xs, rfl, hc, hr, hat⟩ := rd.rows (by decide) v.items.length (fm_len edt_len _)
  have d0 : decide (v.kind = 0) = false := decide_eq_false (by omega)
  have d1 : decide (v.kind = 1) = false := decide_eq_false (by omega)
  have d2 : decide (v.kind = 2) = false := decide_eq_false (by omega)
  have d3 : decide (v.kind = 3) = false := decide_eq_false (by omega)
  have d4 : decide (v.kind = 4) = false := decide_eq_false (by omega)
  have d6 : decide (v.kind = 6) = true := decide_eq_true (by omega)
  have d7 : decide (v.kind = 7) = false := decide_eq_false (by omega)
  have d8 : decide (v.kind = 8) = false := decide_eq_false (by omega)
  rw [V.wf_eq]
  generalize wfEs v.next v.items [] = arr
  (refine enter Tryz.func135 rfl rfl (by kernel_rfl) [] ?_; simp only [go_sem, Nat.reduceBEq])
  simp only [d3, go_sem, Nat.reduceBEq]
  refine Br.intro (fun hs => ?_) (fun hs => ?_)
  · simp only [hs, go_sem, Nat.reduceBEq]
    have hs : ¬ v.str = ⟨#[]⟩ := by simpa using hs
    exact ⟨by simp [wf0, ha, hs], Ext.refl _⟩
  have hsr := hs
  have hs : v.str = ⟨#[]⟩ := by simpa using hs
  simp only [d4, hsr, go_sem, Nat.reduceBEq]
  refine Br.intro (fun hn => ?_) (fun hn => ?_)
  · simp only [hn, go_sem, Nat.reduceBEq]
    have hn : ¬ v.next = 0 := by simpa using hn
    exact ⟨by simp [wf0, ha, hs, hn], Ext.refl _⟩
  have hnr := hn
  have hn : v.next = 0 := by simpa using hn
  simp only [hnr, go_sem, Nat.reduceBEq]
  refine Br.intro (fun hl => ?_) (fun hl => ?_)
  · simp only [hl, go_sem, Nat.reduceBEq]
    have hl : 0 < v.items.length := by simpa using hl
    exact ⟨by simp [wf0, ha, hs, hn, hl], Ext.refl _⟩
  have hlr := hl
  have hl : ¬ 0 < v.items.length := by simpa using hl
  simp only [d0, d1, d2, d3, d6, hlr, go_sem, Nat.reduceBEq]
  have hl : v.items.length = 0 := by omega
  (refine (l1In_c _ _ _ _).mono ?_; rintro _ _ ⟨rfl, rfl⟩; simp only [go_sem, Nat.reduceBEq])
  exact ⟨by simp [wf0, ha, hs, hn, hl], (Ext.refl _)⟩
theorem sWell_7 (v : V) (sl : Value) (h : Hp) (rd : RdE h v.items sl) (ha : v.kind = 7) : ACalls Tryz.prog 135 #[.agg #[.int .i64 v.kind, .int .i64 v.num, .string v.str, .int .i64 v.next, sl]] h (Is (.bool v.wf) h) := by
  obtain ⟨a, c, xs, rfl, hc, hr, hat⟩ := rd.rows (by decide) v.items.length (fm_len edt_len _)
  have d0 : decide (v.kind = 0) = false := decide_eq_false (by omega)
  have d1 : decide (v.kind = 1) = false := decide_eq_false (by omega)
  have d2 : decide (v.kind = 2) = false := decide_eq_false (by omega)
  have d3 : decide (v.kind = 3) = false := decide_eq_false (by omega)
  have d4 : decide (v.kind = 4) = false := decide_eq_false (by omega)
  have d6 : decide (v.kind = 6) = false := decide_eq_false (by omega)
  have d7 : decide (v.kind = 7) = true := decide_eq_true (by omega)
  have d8 : decide (v.kind = 8) = false := decide_eq_false (by omega)
  rw [V.wf_eq]
  generalize wfEs v.next v.items [] = arr
  (refine enter Tryz.func135 rfl rfl (by kernel_rfl) [] ?_; simp only [go_sem, Nat.reduceBEq])
  simp only [d3, go_sem, Nat.reduceBEq]
  refine Br.intro (fun hs => ?_) (fun hs => ?_)
  · simp only [hs, go_sem, Nat.reduceBEq]
    have hs : ¬ v.str = ⟨#[]⟩ := by simpa using hs
    exact ⟨by simp [wf0, ha, hs], Ext.refl _⟩
  have hsr := hs
  have hs : v.str = ⟨#[]⟩ := by simpa using hs
  simp only [d4, hsr, go_sem, Nat.reduceBEq]
  refine Br.intro (fun hn => ?_) (fun hn => ?_)
  · simp only [hn, go_sem, Nat.reduceBEq]
    have hn : ¬ v.next = 0 := by simpa using hn
    exact ⟨by simp [wf0, ha, hs, hn], Ext.refl _⟩
  have hnr := hn
  have hn : v.next = 0 := by simpa using hn
  simp only [hnr, go_sem, Nat.reduceBEq]
  refine Br.intro (fun hl => ?_) (fun hl => ?_)
  · simp only [hl, go_sem, Nat.reduceBEq]
    have hl : 0 < v.items.length := by simpa using hl
    exact ⟨by simp [wf0, ha, hs, hn, hl], Ext.refl _⟩
  have hlr := hl
  have hl : ¬ 0 < v.items.length := by simpa using hl
  simp only [d0, d1, d2, d3, d6, d7, hlr, go_sem, Nat.reduceBEq]
  have hl : v.items.length = 0 := by omega
  (refine (l1In_c _ _ _ _).mono ?_; rintro _ _ ⟨rfl, rfl⟩; simp only [go_sem, Nat.reduceBEq])
  exact ⟨by simp [wf0, ha, hs, hn, hl], (Ext.refl _)⟩
theorem sWell_8 (v : V) (sl : Value) (h : Hp) (rd : RdE h v.items sl) (ha : v.kind = 8) : ACalls Tryz.prog 135 #[.agg #[.int .i64 v.kind, .int .i64 v.num, .string v.str, .int .i64 v.next, sl]] h (Is (.bool v.wf) h) := by
  obtain ⟨a, c, xs, rfl, hc, hr, hat⟩ := rd.rows (by decide) v.items.length (fm_len edt_len _)
  have d0 : decide (v.kind = 0) = false := decide_eq_false (by omega)
  have d1 : decide (v.kind = 1) = false := decide_eq_false (by omega)
  have d2 : decide (v.kind = 2) = false := decide_eq_false (by omega)
  have d3 : decide (v.kind = 3) = false := decide_eq_false (by omega)
  have d4 : decide (v.kind = 4) = false := decide_eq_false (by omega)
  have d6 : decide (v.kind = 6) = false := decide_eq_false (by omega)
  have d7 : decide (v.kind = 7) = false := decide_eq_false (by omega)
  have d8 : decide (v.kind = 8) = true := decide_eq_true (by omega)
  rw [V.wf_eq]
  generalize wfEs v.next v.items [] = arr
  (refine enter Tryz.func135 rfl rfl (by kernel_rfl) [] ?_; simp only [go_sem, Nat.reduceBEq])
  simp only [d3, go_sem, Nat.reduceBEq]
  refine Br.intro (fun hs => ?_) (fun hs => ?_)
  · simp only [hs, go_sem, Nat.reduceBEq]
    have hs : ¬ v.str = ⟨#[]⟩ := by simpa using hs
    exact ⟨by simp [wf0, ha, hs], Ext.refl _⟩
  have hsr := hs
  have hs : v.str = ⟨#[]⟩ := by simpa using hs
  simp only [d4, hsr, go_sem, Nat.reduceBEq]
  refine Br.intro (fun hn => ?_) (fun hn => ?_)
  · simp only [hn, go_sem, Nat.reduceBEq]
    have hn : ¬ v.next = 0 := by simpa using hn
    exact ⟨by simp [wf0, ha, hs, hn], Ext.refl _⟩
  have hnr := hn
  have hn : v.next = 0 := by simpa using hn
  simp only [hnr, go_sem, Nat.reduceBEq]
  refine Br.intro (fun hl => ?_) (fun hl => ?_)
  · simp only [hl, go_sem, Nat.reduceBEq]
    have hl : 0 < v.items.length := by simpa using hl
    exact ⟨by simp [wf0, ha, hs, hn, hl], Ext.refl _⟩
  have hlr := hl
  have hl : ¬ 0 < v.items.length := by simpa using hl
  simp only [d0, d1, d2, d3, d6, d7, d8, hlr, go_sem, Nat.reduceBEq]
  have hl : v.items.length = 0 := by omega
  (refine (l1In_c _ _ _ _).mono ?_; rintro _ _ ⟨rfl, rfl⟩; simp only [go_sem, Nat.reduceBEq])
  exact ⟨by simp [wf0, ha, hs, hn, hl], (Ext.refl _)⟩
theorem sWell_o (v : V) (sl : Value) (h : Hp) (rd : RdE h v.items sl) (ha : ¬ v.kind = 0 ∧ ¬ v.kind = 1 ∧ ¬ v.kind = 2 ∧ ¬ v.kind = 3 ∧ ¬ v.kind = 4 ∧ ¬ v.kind = 6 ∧ ¬ v.kind = 7 ∧ ¬ v.kind = 8) : ACalls Tryz.prog 135 #[.agg #[.int .i64 v.kind, .int .i64 v.num, .string v.str, .int .i64 v.next, sl]] h (Is (.bool v.wf) h) := by
  obtain ⟨a, c, xs, rfl, hc, hr, hat⟩ := rd.rows (by decide) v.items.length (fm_len edt_len _)
  have d0 : decide (v.kind = 0) = false := decide_eq_false (by omega)
  have d1 : decide (v.kind = 1) = false := decide_eq_false (by omega)
  have d2 : decide (v.kind = 2) = false := decide_eq_false (by omega)
  have d3 : decide (v.kind = 3) = false := decide_eq_false (by omega)
  have d4 : decide (v.kind = 4) = false := decide_eq_false (by omega)
  have d6 : decide (v.kind = 6) = false := decide_eq_false (by omega)
  have d7 : decide (v.kind = 7) = false := decide_eq_false (by omega)
  have d8 : decide (v.kind = 8) = false := decide_eq_false (by omega)
  obtain ⟨a0, a1, a2, a3, a4, a6, a7, a8⟩ := ha
  rw [V.wf_eq]
  generalize wfEs v.next v.items [] = arr
  (refine enter Tryz.func135 rfl rfl (by kernel_rfl) [] ?_; simp only [go_sem, Nat.reduceBEq])
  simp only [d3, go_sem, Nat.reduceBEq]
  refine Br.intro (fun hs => ?_) (fun hs => ?_)
  · simp only [hs, go_sem, Nat.reduceBEq]
    have hs : ¬ v.str = ⟨#[]⟩ := by simpa using hs
    exact ⟨by simp [wf0, a0, a1, a2, a3, a4, a6, a7, a8, hs], Ext.refl _⟩
  have hsr := hs
  have hs : v.str = ⟨#[]⟩ := by simpa using hs
  simp only [d4, hsr, go_sem, Nat.reduceBEq]
  refine Br.intro (fun hn => ?_) (fun hn => ?_)
  · simp only [hn, go_sem, Nat.reduceBEq]
    have hn : ¬ v.next = 0 := by simpa using hn
    exact ⟨by simp [wf0, a0, a1, a2, a3, a4, a6, a7, a8, hs, hn], Ext.refl _⟩
  have hnr := hn
  have hn : v.next = 0 := by simpa using hn
  simp only [hnr, go_sem, Nat.reduceBEq]
  refine Br.intro (fun hl => ?_) (fun hl => ?_)
  · simp only [hl, go_sem, Nat.reduceBEq]
    have hl : 0 < v.items.length := by simpa using hl
    exact ⟨by simp [wf0, a0, a1, a2, a3, a4, a6, a7, a8, hs, hn, hl], Ext.refl _⟩
  have hlr := hl
  have hl : ¬ 0 < v.items.length := by simpa using hl
  simp only [d0, d1, d2, d3, d4, d6, d7, d8, hlr, go_sem, Nat.reduceBEq]
  have hl : v.items.length = 0 := by omega
  exact ⟨by simp [wf0, a0, a1, a2, a3, a4, a6, a7, a8, hs, hn, hl], (Ext.refl _)⟩
theorem sWell : ∀ v, WfS v := V.ind fun v ih hbk sl h rd => by
  rcases k9 v.kind with ha | ha | ha | ha | ha | ha | ha | ha | ha
  · exact sWell_0 v sl h rd ha
  · exact sWell_1 v sl h rd ha
  · exact sWell_2 v sl h rd ha
  · exact sWell_3 v sl h rd ha
  · exact sWell_4 v ih hbk sl h rd ha
  · exact sWell_6 v sl h rd ha
  · exact sWell_7 v sl h rd ha
  · exact sWell_8 v sl h rd ha
  · exact sWell_o v sl h rd ha
theorem iIsValue (v : V) (hb : v.bulk ≤ 1099511627776) (sl : Value) (h : Hp) (rd : RdE h v.items sl) (hE : Env h) : ACalls Tryz.prog 100 #[.agg #[.int .i64 v.kind, .int .i64 v.num, .string v.str, .int .i64 v.next, sl]] h (Is (.bool v.valid) h) := by
  (refine enter Tryz.func100 rfl rfl (by kernel_rfl) [] ?_; simp only [go_sem, Nat.reduceBEq, Nat.reduceAdd, Nat.reduceLeDiff])
  (refine (iWeight v hb _ _ rd).mono ?_; rintro _ _ ⟨rfl, rfl⟩; simp only [go_sem, Nat.reduceBEq])
  have hd : decide (((v.weight : Nat) : Int) ≤ 200) = decide (v.weight ≤ 200) := decide_eq_decide.2 (by omega)
  unfold V.valid
  simp only [hd, go_sem]
  refine Br.intro (fun h1 => ?_) (fun h1 => ?_) <;> (try simp only [h1, go_sem, Nat.reduceBEq, Nat.reduceAdd, Nat.reduceLeDiff])
  · refine (iWell v hb _ _ rd hE).mono ?_
    rintro _ h2 ⟨rfl, e2⟩
    simp only [go_sem, Nat.reduceBEq]
    exact ⟨by simp, e2⟩
  · exact ⟨by simp, Ext.refl _⟩
end Go.Proofs.YtedfplodobpgfaaGreatDoor
/-! Hash tables in plain Lean: hashes, chains, what a table must be like, how a key is found, set, taken out; sizes of slots, tables, blocks. -/
namespace Go.Sx
open Go
def Sl.bulk (s : Sl) : Nat := s.key.str.size + s.val.bulk
def Tb.bulk (t : Tb) : Nat := t.heads.length + szG Sl.bulk t.slots
def Bk.bulk (b : Bk) : Nat := b.tab.bulk
/-- Numbers, slots, blocks in memory. -/
abbrev RdI (h : Hp) (l : List Int) (sl : Value) : Prop := Rd h (.row 1 (l.flatMap idt)) sl
abbrev RdT (h : Hp) (l : List Sl) (sl : Value) : Prop := Rd h (.row 10 (l.flatMap Sl.dt)) sl
abbrev RdB (h : Hp) (l : List Bk) (sl : Value) : Prop := Rd h (.row 6 (l.flatMap Bk.dt)) sl
theorem RdL_slot {h : Hp} {e : Sl} {ys : List Value} (r : RdL h e.dt ys) :
    ∃ sl, ys = [.bool e.key.text, .int .i64 e.key.num, .string e.key.str, .int .i64 e.val.kind, .int .i64 e.val.num, .string e.val.str, .int .i64 e.val.next, sl, .bool e.live, .int .i64 e.link] ∧ RdE h e.val.items sl := by
  unfold Sl.dt at r
  obtain ⟨ks, zs, rfl, r1, r2⟩ := r.split
  obtain ⟨vs, ws, rfl, r3, r4⟩ := r2.split
  obtain ⟨sl, rfl, hs⟩ := RdL_val r3
  simp only [RdL_cons, RdL_nil, Rd_raw] at r4
  obtain ⟨_, _, rfl, ⟨rfl, _⟩, _, _, rfl, ⟨rfl, _⟩, rfl⟩ := r4
  rw [RdL_key r1]
  exact ⟨sl, rfl, hs⟩
theorem RdL_tab {h : Hp} {e : Tb} {ys : List Value} (r : RdL h e.dt ys) : ∃ s u, ys = [.bool e.hashed, s, u, .int .i64 e.next, .int .i64 e.count] ∧ RdI h e.heads s ∧ RdT h e.slots u := by
  simp only [Tb.dt, RdL_cons, RdL_nil, Rd_raw] at r
  obtain ⟨_, _, rfl, ⟨rfl, _⟩, s, _, rfl, hs, u, _, rfl, hu, _, _, rfl, ⟨rfl, _⟩, _, _, rfl, ⟨rfl, _⟩, rfl⟩ := r
  exact ⟨s, u, rfl, hs, hu⟩
theorem RdL_blk {h : Hp} {e : Bk} {ys : List Value} (r : RdL h e.dt ys) : ∃ s u, ys = [.int .i64 e.count, .bool e.tab.hashed, s, u, .int .i64 e.tab.next, .int .i64 e.tab.count] ∧ RdI h e.tab.heads s ∧ RdT h e.tab.slots u := by
  simp only [Bk.dt, RdL_cons, Rd_raw] at r
  obtain ⟨_, _, rfl, ⟨rfl, _⟩, r⟩ := r
  obtain ⟨s, u, rfl, hs, hu⟩ := RdL_tab r
  exact ⟨s, u, rfl, hs, hu⟩
theorem Tb.dt_len (t : Tb) : t.dt.length = 5 := rfl
section
variable {P : Program} {h : Hp} {K : Value → Hp → Prop}
/-- The load of a slot. -/
theorem hsem_slot {t b off i j : Nat} {es : List Sl} {e : Sl} {xs : List Value} (ht : tyS P t = some (true, 10)) (hat : At h ⟨b, off, none⟩ xs) (hr : RdL h (es.flatMap Sl.dt) xs) (hi : es[i]? = some e) (hj : j = off + i * 10)
    (k : ∀ sl, RdE h e.val.items sl → K (.agg #[.bool e.key.text, .int .i64 e.key.num, .string e.key.str, .int .i64 e.val.kind, .int .i64 e.val.num, .string e.val.str, .int .i64 e.val.next, sl, .bool e.live, .int .i64 e.link]) h) : HPure P (ldI t (.pointer (some ⟨b, j, none⟩))) h K :=
  hsem_row (f := Sl.dt) (o := 0) Sl.dt_len ht hat hr hi (Nat.le_refl _) (by rw [List.drop_zero, List.take_of_length_le (by rw [Sl.dt_len]; exact Nat.le_refl _)]) (by simpa using hj) fun ys r => by
    obtain ⟨sl, rfl, hs⟩ := RdL_slot r
    exact k sl hs
/-- The load of a slot's key. -/
theorem hsem_skey {t b off i j : Nat} {es : List Sl} {e : Sl} {xs : List Value} (ht : tyS P t = some (true, 3)) (hat : At h ⟨b, off, none⟩ xs) (hr : RdL h (es.flatMap Sl.dt) xs) (hi : es[i]? = some e) (hj : j = off + i * 10)
    (k : K (.agg #[.bool e.key.text, .int .i64 e.key.num, .string e.key.str]) h) : HPure P (ldI t (.pointer (some ⟨b, j, none⟩))) h K :=
  hsem_row (f := Sl.dt) (o := 0) (ds := e.key.dt) Sl.dt_len ht hat hr hi (by omega) (by simp [Sl.dt, Ky.dt]) (by simpa using hj) fun ys r => by
    rw [RdL_key r]
    exact k
/-- The load of a slot's value. -/
theorem hsem_sval {t b off i j : Nat} {es : List Sl} {e : Sl} {xs : List Value} (ht : tyS P t = some (true, 5)) (hat : At h ⟨b, off, none⟩ xs) (hr : RdL h (es.flatMap Sl.dt) xs) (hi : es[i]? = some e) (hj : j = off + i * 10 + 3)
    (k : ∀ sl, RdE h e.val.items sl → K (.agg #[.int .i64 e.val.kind, .int .i64 e.val.num, .string e.val.str, .int .i64 e.val.next, sl]) h) : HPure P (ldI t (.pointer (some ⟨b, j, none⟩))) h K :=
  hsem_row (f := Sl.dt) (o := 3) (ds := e.val.dt) Sl.dt_len ht hat hr hi (by omega) (by simp [Sl.dt, Ky.dt, V.dt_eq]) (by omega) fun ys r => by
    obtain ⟨sl, rfl, hs⟩ := RdL_val r
    exact k sl hs
/-- The load of whether a slot lives. -/
theorem hsem_slive {t n b off i j : Nat} {es : List Sl} {e : Sl} {xs : List Value} (ht : tyS P t = some (false, n)) (hat : At h ⟨b, off, none⟩ xs) (hr : RdL h (es.flatMap Sl.dt) xs) (hi : es[i]? = some e) (hj : j = off + i * 10 + 8)
    (k : K (.bool e.live) h) : HPure P (ldI t (.pointer (some ⟨b, j, none⟩))) h K :=
  hsem_cell (f := Sl.dt) (o := 8) (d := .raw (.bool e.live)) Sl.dt_len ht hat hr hi (by omega) (by rw [Sl.dt_eq]; rfl) (by omega) fun u hu => by
    obtain ⟨rfl, _⟩ := Rd_raw.1 hu
    exact k
/-- The load of a slot's link. -/
theorem hsem_slink {t n b off i j : Nat} {es : List Sl} {e : Sl} {xs : List Value} (ht : tyS P t = some (false, n)) (hat : At h ⟨b, off, none⟩ xs) (hr : RdL h (es.flatMap Sl.dt) xs) (hi : es[i]? = some e) (hj : j = off + i * 10 + 9)
    (k : K (.int .i64 e.link) h) : HPure P (ldI t (.pointer (some ⟨b, j, none⟩))) h K :=
  hsem_cell (f := Sl.dt) (o := 9) (d := .raw (.int .i64 e.link)) Sl.dt_len ht hat hr hi (by omega) (by rw [Sl.dt_eq]; rfl) (by omega) fun u hu => by
    obtain ⟨rfl, _⟩ := Rd_raw.1 hu
    exact k
/-- The load of a number. -/
theorem hsem_num {t n b off i j : Nat} {es : List Int} {e : Int} {xs : List Value} (ht : tyS P t = some (false, n)) (hat : At h ⟨b, off, none⟩ xs) (hr : RdL h (es.flatMap idt) xs) (hi : es[i]? = some e) (hj : j = off + i * 1)
    (k : K (.int .i64 e) h) : HPure P (ldI t (.pointer (some ⟨b, j, none⟩))) h K :=
  hsem_cell (f := idt) (o := 0) (d := .raw (.int .i64 e)) idt_len ht hat hr hi (by omega) rfl (by omega) fun u hu => by
    obtain ⟨rfl, _⟩ := Rd_raw.1 hu
    exact k
end
/-! hashes -/
def hstep (d : Nat) (c : UInt8) : Nat := (d * 1000003 + c.toNat + 13) % 2147483647
def hashT (s : ByteArray) : Nat := s.data.toList.foldl hstep 11
theorem hstep_lt (d : Nat) (c : UInt8) : hstep d c < 2147483647 := by unfold hstep; omega
theorem hfold_lt : ∀ (l : List UInt8) (d : Nat), d < 2147483647 → l.foldl hstep d < 2147483647
  | [], _, h => h
  | c :: r, d, _ => hfold_lt r (hstep d c) (hstep_lt d c)
theorem hfold_snoc {l : List UInt8} {i : Nat} {c : UInt8} (h : l[i]? = some c) : (l.take (i + 1)).foldl hstep 11 = hstep ((l.take i).foldl hstep 11) c := by
  rw [take_snoc h, List.foldl_append, List.foldl_cons, List.foldl_nil]
def Ky.hash (k : Ky) : Nat := if k.text then hashT k.str else (k.num % 2147483647).toNat
theorem Ky.hash_lt (k : Ky) : k.hash < 2147483647 := by
  unfold Ky.hash
  split
  · exact hfold_lt _ _ (by omega)
  · omega
/-! what a table must be like -/
def V.isZero (v : V) : Bool := decide (v.kind = 0) && (decide (v.num = 0) && (decide (v.str = ⟨#[]⟩) && (decide (v.next = 0) && decide (v.items.length = 0))))
/-- the heads of the first n slots -/
def hdsN (size : Nat) (ss : List Sl) : Nat → List Int
  | 0 => List.replicate size (-1)
  | n + 1 => match ss[n]? with
    | some s => (hdsN size ss n).set (s.key.hash % size) (n : Nat)
    | none => hdsN size ss n
theorem hdsN_len (size : Nat) (ss : List Sl) : ∀ n, (hdsN size ss n).length = size
  | 0 => by simp [hdsN]
  | n + 1 => by
    rw [hdsN]
    split
    · rw [List.length_set, hdsN_len size ss n]
    · exact hdsN_len size ss n
theorem hdsN_mem (size : Nat) (ss : List Sl) : ∀ n x, x ∈ hdsN size ss n → -1 ≤ x ∧ x < n
  | 0, x, h => by
    rw [hdsN, List.mem_replicate] at h
    omega
  | n + 1, x, h => by
    rw [hdsN] at h
    split at h
    · rcases List.mem_or_eq_of_mem_set h with h | h
      · have := hdsN_mem size ss n x h
        omega
      · omega
    · have := hdsN_mem size ss n x h
      omega
theorem hdsN_succ {size : Nat} {ss : List Sl} {n : Nat} {s : Sl} (h : ss[n]? = some s) : hdsN size ss (n + 1) = (hdsN size ss n).set (s.key.hash % size) (n : Nat) := by
  rw [hdsN, h]
/-- how many slots live -/
def liveN (ss : List Sl) : Nat := (ss.filter (·.live)).length
theorem liveN_le (ss : List Sl) : liveN ss ≤ ss.length := List.length_filter_le _ _
theorem liveN_append (p q : List Sl) : liveN (p ++ q) = liveN p + liveN q := by unfold liveN; rw [List.filter_append, List.length_append]
theorem liveN_snoc {ss : List Sl} {i : Nat} {s : Sl} (h : ss[i]? = some s) : liveN (ss.take (i + 1)) = liveN (ss.take i) + if s.live then 1 else 0 := by
  rw [take_snoc h, liveN_append]
  congr 1
  unfold liveN
  cases hl : s.live <;> simp [hl]
theorem liveN_one (s : Sl) : liveN [s] = if s.live then 1 else 0 := by
  unfold liveN
  cases hl : s.live <;> simp [hl]
/-- 'and' of two numbers -/
def bandI (a b : Int) : Int := IntKind.i64.wrap ((BitVec.ofInt IntKind.i64.bits a &&& BitVec.ofInt IntKind.i64.bits b).toNat : Int)
theorem vbin_bandI {P : Program} {nc : Bool} {t : Nat} {a b : Int} : vbin P .and t nc (.int .i64 a) (.int .i64 b) = some (.int .i64 (bandI a b)) := vbin_and
/-- a power of two, as the program asks it -/
def p2 (n : Nat) : Bool := decide (bandI (n : Int) (IntKind.i64.wrap ((n : Int) - 1)) = 0)
structure Tb.wf (t : Tb) : Prop where
  next : 0 ≤ t.next ∧ t.next ≤ 1000000001
  keys : ∀ (i : Nat) (s : Sl), t.slots[i]? = some s → keyOk s.key = true ∧ (s.key.text = true ∨ s.key.num < t.next) ∧ (s.live = true ∨ s.val.isZero = true)
  dist : ∀ (i j : Nat) (s u : Sl), j < i → t.slots[i]? = some s → t.slots[j]? = some u → s.live = true → u.live = true → ¬ u.key = s.key
  cnt : t.count = liveN t.slots
  packed : t.hashed = false → t.heads.length = 0 ∧ (t.slots.length : Int) ≤ t.next ∧ t.slots.length ≤ 1024 ∧ ∀ (i : Nat) (s : Sl), t.slots[i]? = some s → s.key = ⟨false, (i : Nat), ⟨#[]⟩⟩ ∧ s.link = -1
  hash : t.hashed = true → (8 ≤ t.heads.length ∧ t.heads.length ≤ 1024) ∧ p2 t.heads.length = true ∧ t.slots.length ≤ t.heads.length ∧
    (∀ (i : Nat) (s : Sl), t.slots[i]? = some s → (hdsN t.heads.length t.slots i)[s.key.hash % t.heads.length]? = some s.link) ∧ t.heads = hdsN t.heads.length t.slots t.slots.length
/-! how a key is found -/
def chn (ss : List Sl) (k : Ky) : Nat → Int → Option Nat
  | 0, _ => none
  | f + 1, i => if i < 0 then none else match ss[i.toNat]? with
    | some s => if s.live = true ∧ s.key = k then some i.toNat else chn ss k f s.link
    | none => none
/-- each link of a chain goes back -/
def Back (ss : List Sl) : Prop := ∀ (i : Nat) (s : Sl), ss[i]? = some s → -1 ≤ s.link ∧ s.link < i
theorem chn_fuel {ss : List Sl} {k : Ky} (hb : Back ss) : ∀ (f g : Nat) (i : Int), i < f → i < g → chn ss k f i = chn ss k g i
  | 0, g, i, h, _ => by
    cases g with
    | zero => rfl
    | succ g => rw [chn, chn, if_pos (by omega)]
  | f + 1, 0, i, _, h => by rw [chn, chn, if_pos (by omega)]
  | f + 1, g + 1, i, hf, hg => by
    rw [chn, chn]
    split
    · rfl
    · split
      · rename_i hs
        have := hb _ _ hs
        rw [chn_fuel hb f g _ (by omega) (by omega)]
      · rfl
/-- the chain from a place on -/
def chain (ss : List Sl) (k : Ky) (i : Int) : Option Nat := chn ss k (i + 1).toNat i
theorem chain_neg {ss : List Sl} {k : Ky} {i : Int} (h : i < 0) : chain ss k i = none := by
  unfold chain
  cases (i + 1).toNat with
  | zero => rfl
  | succ f => rw [chn, if_pos h]
theorem chain_hit {ss : List Sl} {k : Ky} {i : Int} {s : Sl} (h0 : 0 ≤ i) (hs : ss[i.toNat]? = some s) (h : s.live = true ∧ s.key = k) : chain ss k i = some i.toNat := by
  unfold chain
  rw [show (i + 1).toNat = i.toNat + 1 by omega, chn, if_neg (by omega), hs]
  simp only
  rw [if_pos h]
theorem chain_miss {ss : List Sl} {k : Ky} {i : Int} {s : Sl} (hb : Back ss) (h0 : 0 ≤ i) (hs : ss[i.toNat]? = some s) (h : ¬ (s.live = true ∧ s.key = k)) : chain ss k i = chain ss k s.link := by
  unfold chain
  rw [show (i + 1).toNat = i.toNat + 1 by omega, chn, if_neg (by omega), hs]
  simp only
  rw [if_neg h]
  have := hb _ _ hs
  exact chn_fuel hb _ _ _ (by omega) (by omega)
theorem chain_some {ss : List Sl} {k : Ky} : ∀ (f : Nat) (i : Int) (j : Nat), chn ss k f i = some j → ∃ s, ss[j]? = some s ∧ s.live = true ∧ s.key = k
  | 0, _, _, h => by cases h
  | f + 1, i, j, h => by
    rw [chn] at h
    split at h
    · cases h
    · split at h
      · rename_i s hs
        split at h
        · rename_i hk
          cases h
          exact ⟨s, hs, hk⟩
        · exact chain_some f _ _ h
      · cases h
/-- the live slot of a key -/
def Tb.find (t : Tb) (k : Ky) : Option Nat :=
  if t.hashed then chain t.slots k (t.heads.getD (k.hash % t.heads.length) (-1))
  else if k.text = false ∧ k.str = ⟨#[]⟩ ∧ 0 ≤ k.num ∧ ((t.slots[k.num.toNat]?).map (·.live)).getD false = true then some k.num.toNat else none
theorem Tb.find_live {t : Tb} {k : Ky} {i : Nat} (h : t.find k = some i) : ∃ s, t.slots[i]? = some s ∧ s.live = true := by
  unfold Tb.find at h
  split at h
  · obtain ⟨s, h1, h2, _⟩ := chain_some _ _ _ h
    exact ⟨s, h1, h2⟩
  · split at h
    · rename_i hc
      cases h
      cases hs : t.slots[k.num.toNat]? with
      | none => rw [hs] at hc; simp at hc
      | some s => rw [hs] at hc; exact ⟨s, rfl, by simpa using hc.2.2.2⟩
    · cases h
/-- what the walks along a table lean on -/
structure Tb.ch (t : Tb) : Prop where
  back : t.hashed = true → Back t.slots
  heads : t.hashed = true → ∀ x ∈ t.heads, -1 ≤ x ∧ x < t.slots.length
  size : t.hashed = true → 8 ≤ t.heads.length ∧ t.heads.length ≤ 1024
  room : t.hashed = true → t.slots.length ≤ t.heads.length
  packed : t.hashed = false → t.slots.length ≤ 1024 ∧ ∀ (i : Nat) (s : Sl), t.slots[i]? = some s → s.key = ⟨false, (i : Nat), ⟨#[]⟩⟩
  next : 0 ≤ t.next ∧ t.next ≤ 1000000001
  keys : ∀ (i : Nat) (s : Sl), t.slots[i]? = some s → keyOk s.key = true ∧ (s.key.text = true ∨ s.key.num < t.next)
  cnt : t.count = liveN t.slots
theorem Tb.wf.ch {t : Tb} (w : t.wf) : t.ch where
  back h i s hs := by
    have h1 := (w.hash h).2.2.2.1 i s hs
    have h2 := hdsN_mem _ _ _ _ (List.mem_of_getElem? h1)
    omega
  heads h x hx := by
    rw [(w.hash h).2.2.2.2] at hx
    exact hdsN_mem _ _ _ _ hx
  size h := (w.hash h).1
  room h := (w.hash h).2.2.1
  packed h := ⟨(w.packed h).2.2.1, fun i s hs => ((w.packed h).2.2.2 i s hs).1⟩
  next := w.next
  keys i s hs := ⟨(w.keys i s hs).1, (w.keys i s hs).2.1⟩
  cnt := w.cnt
theorem Tb.ch.len {t : Tb} (c : t.ch) : t.slots.length ≤ 1024 := by
  cases h : t.hashed with
  | true => have := c.room h; have := c.size h; omega
  | false => exact (c.packed h).1
end Go.Sx
namespace Go.Sx
open Go
/-! how a table is changed -/
def Tb.link (t : Tb) (k : Ky) : Int := if t.hashed then t.heads.getD (k.hash % t.heads.length) (-1) else -1
/-- a live slot at the end -/
def Tb.push (t : Tb) (k : Ky) (v : V) : Tb := ⟨t.hashed, if t.hashed then t.heads.set (k.hash % t.heads.length) (t.slots.length : Nat) else t.heads, t.slots ++ [⟨k, v, true, t.link k⟩], t.next, t.count + 1⟩
/-- the next free number goes behind a key -/
def Tb.bump (t : Tb) (k : Ky) : Tb := ⟨t.hashed, t.heads, t.slots, if k.text then t.next else max t.next (k.num + 1), t.count⟩
/-- a power of two above a number -/
def dbl (c : Nat) : Nat → Nat → Nat
  | 0, s => s
  | f + 1, s => if s ≤ c then dbl c f (s * 2) else s
def roomN (c : Nat) : Nat := dbl c 12 8
theorem dbl_up {c f s : Nat} (h : s ≤ c) : dbl c (f + 1) s = dbl c f (s * 2) := by rw [dbl, if_pos h]
theorem dbl_stop {c f s : Nat} (h : ¬ s ≤ c) : dbl c (f + 1) s = s := by rw [dbl, if_neg h]
theorem roomN_spec {c : Nat} (h : c < 1024) : 8 ≤ roomN c ∧ roomN c ≤ 1024 ∧ c < roomN c := by
  unfold roomN
  by_cases h0 : 8 ≤ c
  case neg => rw [dbl_stop (by omega)]; omega
  rw [dbl_up (by omega)]
  by_cases h1 : 16 ≤ c
  case neg => rw [dbl_stop (by omega)]; omega
  rw [dbl_up (by omega)]
  by_cases h2 : 32 ≤ c
  case neg => rw [dbl_stop (by omega)]; omega
  rw [dbl_up (by omega)]
  by_cases h3 : 64 ≤ c
  case neg => rw [dbl_stop (by omega)]; omega
  rw [dbl_up (by omega)]
  by_cases h4 : 128 ≤ c
  case neg => rw [dbl_stop (by omega)]; omega
  rw [dbl_up (by omega)]
  by_cases h5 : 256 ≤ c
  case neg => rw [dbl_stop (by omega)]; omega
  rw [dbl_up (by omega)]
  by_cases h6 : 512 ≤ c
  case neg => rw [dbl_stop (by omega)]; omega
  rw [dbl_up (by omega)]
  rw [dbl_stop (by omega)]
  omega
def Tb.fresh (t : Tb) : Tb := ⟨true, List.replicate (roomN (liveN t.slots)) (-1), [], t.next, 0⟩
/-- live slots are added -/
def Tb.pushAll (o : Tb) : List Sl → Tb
  | [] => o
  | s :: r => Tb.pushAll (if s.live then o.push s.key s.val else o) r
theorem Tb.pushAll_append (p q : List Sl) : ∀ o : Tb, o.pushAll (p ++ q) = (o.pushAll p).pushAll q := by
  induction p with
  | nil => intro o; rfl
  | cons s r ih => intro o; rw [List.cons_append, Tb.pushAll, Tb.pushAll, ih]
theorem Tb.pushAll_snoc {o : Tb} {l : List Sl} {i : Nat} {s : Sl} (h : l[i]? = some s) : o.pushAll (l.take (i + 1)) = if s.live then (o.pushAll (l.take i)).push s.key s.val else o.pushAll (l.take i) := by
  rw [take_snoc h, Tb.pushAll_append]
  rfl
/-- the hashed table of the live slots -/
def Tb.build (t : Tb) : Tb := t.fresh.pushAll t.slots
def Tb.setVal (t : Tb) (i : Nat) (v : V) : Tb :=
  match t.slots[i]? with
  | some s => ⟨t.hashed, t.heads, t.slots.take i ++ ⟨s.key, v, s.live, s.link⟩ :: t.slots.drop (i + 1), t.next, t.count⟩
  | none => t
def V.zero : V := ⟨0, 0, ⟨#[]⟩, 0, []⟩
/-- a slot is emptied -/
def Tb.kill (t : Tb) (i : Nat) : Tb :=
  match t.slots[i]? with
  | some s => ⟨t.hashed, t.heads, t.slots.take i ++ ⟨s.key, V.zero, false, s.link⟩ :: t.slots.drop (i + 1), t.next, t.count - 1⟩
  | none => t
def Tb.drop (t : Tb) (k : Ky) : Tb := match t.find k with
  | some i => t.kill i
  | none => t
/-- a packed table that a key does not fit into is hashed -/
def Tb.hashIf (t : Tb) (k : Ky) : Tb := if t.hashed = false ∧ (¬ k = ⟨false, (t.slots.length : Nat), ⟨#[]⟩⟩ ∨ t.slots.length = 1024) then t.build else t
/-- a full hashed table is built anew -/
def Tb.growIf (t : Tb) : Tb := if t.hashed = true ∧ t.slots.length = t.heads.length then t.build else t
def Tb.put (t : Tb) (k : Ky) (v : V) : Tb := match t.find k with
  | some i => t.setVal i v
  | none => (((t.hashIf k).growIf).push k v).bump k
/-! what stays -/
theorem getD_mem {l : List Int} {i : Nat} {d : Int} (h : i < l.length) : l.getD i d ∈ l := by
  rw [List.getD_eq_getElem?_getD, List.getElem?_eq_getElem h]
  exact List.getElem_mem h
theorem getD_at {l : List Int} {i : Nat} {d : Int} (h : i < l.length) : l[i]? = some (l.getD i d) := by
  rw [List.getD_eq_getElem?_getD, List.getElem?_eq_getElem h]
  rfl
theorem Tb.ch.link {t : Tb} (c : t.ch) (k : Ky) : -1 ≤ t.link k ∧ t.link k < t.slots.length := by
  unfold Tb.link
  split
  · rename_i h
    have := c.size h
    exact c.heads h _ (getD_mem (Nat.mod_lt _ (by omega)))
  · omega
theorem snoc_get {α : Type} {l : List α} {x : α} {i : Nat} {s : α} (h : (l ++ [x])[i]? = some s) : (i < l.length ∧ l[i]? = some s) ∨ (i = l.length ∧ s = x) := by
  by_cases hi : i < l.length
  · rw [List.getElem?_append_left hi] at h
    exact .inl ⟨hi, h⟩
  · rw [List.getElem?_append_right (by omega)] at h
    have := (List.getElem?_eq_some_iff.1 h).1
    simp only [List.length_singleton] at this
    have e : i - l.length = 0 := by omega
    rw [e] at h
    simp at h
    exact .inr ⟨by omega, h.symm⟩
/-- what a push asks: room, and a key that goes on where the table is packed -/
def Tb.fits (t : Tb) (k : Ky) : Prop := (t.hashed = true → t.slots.length < t.heads.length) ∧ (t.hashed = false → t.slots.length < 1024 ∧ k = ⟨false, (t.slots.length : Nat), ⟨#[]⟩⟩)
theorem Tb.ch.push {t : Tb} (c : t.ch) {k : Ky} (v : V) (hf : t.fits k) (hk : keyOk k = true) (hn : k.text = true ∨ k.num < t.next) : (t.push k v).ch where
  back h i s hs := by
    have h : t.hashed = true := h
    rcases snoc_get (show (t.slots ++ [_])[i]? = some s from hs) with ⟨_, hs⟩ | ⟨rfl, rfl⟩
    · exact c.back h i s hs
    · exact c.link k
  heads h x hx := by
    have h : t.hashed = true := h
    have hx : x ∈ (if t.hashed then t.heads.set (k.hash % t.heads.length) (t.slots.length : Nat) else t.heads) := hx
    rw [if_pos h] at hx
    have hl : (t.push k v).slots.length = t.slots.length + 1 := by simp [Tb.push]
    rw [hl]
    rcases List.mem_or_eq_of_mem_set hx with hx | hx
    · have := c.heads h x hx
      omega
    · omega
  size h := by
    have h : t.hashed = true := h
    have := c.size h
    have e : (t.push k v).heads.length = t.heads.length := by simp [Tb.push, h]
    omega
  room h := by
    have h : t.hashed = true := h
    have := hf.1 h
    have e : (t.push k v).heads.length = t.heads.length := by simp [Tb.push, h]
    have hl : (t.push k v).slots.length = t.slots.length + 1 := by simp [Tb.push]
    omega
  packed h := by
    have h : t.hashed = false := h
    have h1 := hf.2 h
    have hl : (t.push k v).slots.length = t.slots.length + 1 := by simp [Tb.push]
    refine ⟨by omega, fun i s hs => ?_⟩
    rcases snoc_get (show (t.slots ++ [_])[i]? = some s from hs) with ⟨_, hs⟩ | ⟨rfl, rfl⟩
    · exact (c.packed h).2 i s hs
    · exact h1.2
  next := c.next
  keys i s hs := by
    rcases snoc_get (show (t.slots ++ [_])[i]? = some s from hs) with ⟨_, hs⟩ | ⟨rfl, rfl⟩
    · exact c.keys i s hs
    · exact ⟨hk, hn⟩
  cnt := by
    show t.count + 1 = ((liveN (t.slots ++ [⟨k, v, true, t.link k⟩]) : Nat) : Int)
    rw [liveN_append, liveN_one, c.cnt]
    simp
theorem keyOk_num {k : Ky} (h : keyOk k = true) : k.text = true ∨ (-1000000000 ≤ k.num ∧ k.num ≤ 1000000000) := by
  unfold keyOk at h
  cases ht : k.text with
  | true => exact .inl rfl
  | false => rw [ht] at h; simp at h; exact .inr h.2
/-- with a greater next number -/
theorem Tb.ch.withNext {t : Tb} (c : t.ch) {n : Int} (h1 : t.next ≤ n) (h2 : n ≤ 1000000001) : (Tb.mk t.hashed t.heads t.slots n t.count).ch where
  back := c.back
  heads := c.heads
  size := c.size
  room := c.room
  packed := c.packed
  next := ⟨by have := c.next; show 0 ≤ n; omega, h2⟩
  keys i s hs := by
    have := c.keys i s hs
    refine ⟨this.1, this.2.imp id fun h => ?_⟩
    show s.key.num < n
    omega
  cnt := c.cnt
theorem Tb.bumpNext {t : Tb} (c : t.ch) {k : Ky} (hk : keyOk k = true) : t.next ≤ (t.bump k).next ∧ (t.bump k).next ≤ 1000000001 ∧ (k.text = true ∨ k.num < (t.bump k).next) := by
  have h1 := c.next
  have h2 := keyOk_num hk
  unfold Tb.bump
  show t.next ≤ (if k.text then t.next else max t.next (k.num + 1)) ∧ _
  cases ht : k.text with
  | true => simp; omega
  | false =>
    rw [ht] at h2
    simp at h2
    simp
    omega
/-- a push whose key may lie behind the next number -/
theorem Tb.ch.pushBump {t : Tb} (c : t.ch) {k : Ky} (v : V) (hf : t.fits k) (hk : keyOk k = true) : ((t.push k v).bump k).ch := by
  have h1 := Tb.bumpNext c hk
  have c1 := c.withNext (n := (t.bump k).next) h1.1 h1.2.1
  exact c1.push v hf hk h1.2.2
theorem Tb.fresh_ch {t : Tb} (c : t.ch) (hl : liveN t.slots < 1024) : t.fresh.ch := by
  have hr := roomN_spec hl
  refine ⟨fun _ i s hs => (by simp [Tb.fresh] at hs), fun _ x hx => ?_, fun _ => ?_, fun _ => Nat.zero_le _, fun h => (by cases h), c.next, fun i s hs => (by simp [Tb.fresh] at hs), rfl⟩
  · have hx : x ∈ List.replicate (roomN (liveN t.slots)) (-1) := hx
    rw [List.mem_replicate] at hx
    show -1 ≤ x ∧ x < 0
    omega
  · show 8 ≤ (List.replicate (roomN (liveN t.slots)) (-1 : Int)).length ∧ (List.replicate (roomN (liveN t.slots)) (-1 : Int)).length ≤ 1024
    rw [List.length_replicate]
    omega
/-- the table that grows: what is right of it on the way -/
structure Tb.onWay (t o : Tb) (i : Nat) : Prop where
  ch : o.ch
  hashed : o.hashed = true
  size : o.heads.length = roomN (liveN t.slots)
  next : o.next = t.next
  len : o.slots.length = liveN (t.slots.take i)
theorem Tb.onWay.start {t : Tb} (c : t.ch) (hl : liveN t.slots < 1024) : t.onWay (t.fresh.pushAll (t.slots.take 0)) 0 := by
  refine ⟨Tb.fresh_ch c hl, rfl, ?_, rfl, rfl⟩
  show (List.replicate (roomN (liveN t.slots)) (-1 : Int)).length = _
  rw [List.length_replicate]
theorem liveN_take (ss : List Sl) (i : Nat) : liveN (ss.take i) ≤ liveN ss := by
  conv => rhs; rw [← List.take_append_drop i ss, liveN_append]
  omega
theorem Tb.onWay.fits {t o : Tb} {i : Nat} {s : Sl} (w : t.onWay o i) (hl : liveN t.slots < 1024) (hs : t.slots[i]? = some s) (hv : s.live = true) (k : Ky) : o.fits k := by
  have h1 := liveN_take t.slots (i + 1)
  rw [liveN_snoc hs, if_pos hv] at h1
  have hr := roomN_spec hl
  have h2 := w.len
  have h3 := w.size
  refine ⟨fun _ => by omega, fun h => ?_⟩
  rw [w.hashed] at h
  cases h
theorem Tb.onWay.step {t o : Tb} {i : Nat} {s : Sl} (w : t.onWay o i) (c : t.ch) (hl : liveN t.slots < 1024) (hs : t.slots[i]? = some s) (hv : s.live = true) : t.onWay (o.push s.key s.val) (i + 1) := by
  have hk := c.keys i s hs
  refine ⟨w.ch.push s.val (w.fits hl hs hv _) hk.1 (by rw [w.next]; exact hk.2), w.hashed, ?_, w.next, ?_⟩
  · rw [← w.size]
    simp [Tb.push, w.hashed]
  · rw [liveN_snoc hs, if_pos hv, ← w.len]
    simp [Tb.push]
theorem Tb.onWay.skip {t o : Tb} {i : Nat} {s : Sl} (w : t.onWay o i) (hs : t.slots[i]? = some s) (hv : s.live = false) : t.onWay o (i + 1) := by
  refine ⟨w.ch, w.hashed, w.size, w.next, ?_⟩
  rw [liveN_snoc hs, w.len, hv]
  simp
theorem Tb.onWay.all {t : Tb} (c : t.ch) (hl : liveN t.slots < 1024) : ∀ i, i ≤ t.slots.length → t.onWay (t.fresh.pushAll (t.slots.take i)) i
  | 0, _ => Tb.onWay.start c hl
  | i + 1, h => by
    obtain ⟨s, hs, _⟩ := get_lt (l := t.slots) (i := i) (by omega)
    have w := Tb.onWay.all c hl i (by omega)
    rw [Tb.pushAll_snoc hs]
    cases hv : s.live with
    | true => exact w.step c hl hs hv
    | false => exact w.skip hs hv
theorem Tb.ch.build {t : Tb} (c : t.ch) (hl : liveN t.slots < 1024) : t.onWay t.build t.slots.length := by
  have := Tb.onWay.all c hl t.slots.length (Nat.le_refl _)
  rw [List.take_length] at this
  exact this
theorem liveN_set {ss : List Sl} {i : Nat} {s : Sl} (hs : ss[i]? = some s) (u : Sl) : liveN (ss.take i ++ u :: ss.drop (i + 1)) + (if s.live then 1 else 0) = liveN ss + (if u.live then 1 else 0) := by
  have h1 : liveN ss = liveN (ss.take i) + ((if s.live then 1 else 0) + liveN (ss.drop (i + 1))) := by
    conv => lhs; rw [← List.take_append_drop i ss, drop_cons hs, show s :: ss.drop (i + 1) = [s] ++ ss.drop (i + 1) from rfl, liveN_append, liveN_append, liveN_one]
  rw [show u :: ss.drop (i + 1) = [u] ++ ss.drop (i + 1) from rfl, liveN_append, liveN_append, liveN_one]
  omega
theorem set_get {α : Type} {l : List α} {i j : Nat} {s u x : α} (hs : l[i]? = some s) (h : (l.take i ++ u :: l.drop (i + 1))[j]? = some x) : (j = i ∧ x = u) ∨ (j ≠ i ∧ l[j]? = some x) := by
  have hi := (List.getElem?_eq_some_iff.1 hs).1
  have e : l.take i ++ u :: l.drop (i + 1) = l.set i u := (set_split u hi).symm
  rw [e, List.getElem?_set] at h
  by_cases hj : i = j
  · subst hj
    rw [if_pos rfl, if_pos hi] at h
    cases h
    exact .inl ⟨rfl, rfl⟩
  · rw [if_neg hj] at h
    exact .inr ⟨fun k => hj k.symm, h⟩
theorem set_len {α : Type} {l : List α} {i : Nat} {s u : α} (hs : l[i]? = some s) : (l.take i ++ u :: l.drop (i + 1)).length = l.length := by
  have hi := (List.getElem?_eq_some_iff.1 hs).1
  rw [← set_split u hi, List.length_set]
/-- a slot whose key and link stay -/
theorem Tb.ch.setSlot {t : Tb} (c : t.ch) {i : Nat} {s u : Sl} (hs : t.slots[i]? = some s) (hk : u.key = s.key) (hl : u.link = s.link) {n : Int} (hn : n + (if s.live then 1 else 0) = t.count + (if u.live then 1 else 0)) :
    (Tb.mk t.hashed t.heads (t.slots.take i ++ u :: t.slots.drop (i + 1)) t.next n).ch := by
  have len := set_len (u := u) hs
  refine ⟨fun h j x hx => ?_, fun h x hx => ?_, c.size, fun h => ?_, fun h => ⟨?_, fun j x hx => ?_⟩, c.next, fun j x hx => ?_, ?_⟩
  · rcases set_get hs hx with ⟨rfl, rfl⟩ | ⟨_, hx⟩
    · rw [hl]; exact c.back h _ _ hs
    · exact c.back h _ _ hx
  · have := c.heads h x hx
    show -1 ≤ x ∧ x < ((t.slots.take i ++ u :: t.slots.drop (i + 1)).length : Nat)
    rw [len]; exact this
  · show (t.slots.take i ++ u :: t.slots.drop (i + 1)).length ≤ _
    rw [len]; exact c.room h
  · show (t.slots.take i ++ u :: t.slots.drop (i + 1)).length ≤ _
    rw [len]; exact (c.packed h).1
  · rcases set_get hs hx with ⟨rfl, rfl⟩ | ⟨_, hx⟩
    · rw [hk]; exact (c.packed h).2 _ _ hs
    · exact (c.packed h).2 _ _ hx
  · rcases set_get hs hx with ⟨rfl, rfl⟩ | ⟨_, hx⟩
    · rw [hk]; exact c.keys _ _ hs
    · exact c.keys _ _ hx
  · have h1 := liveN_set hs u
    have h2 := c.cnt
    show n = ((liveN (t.slots.take i ++ u :: t.slots.drop (i + 1)) : Nat) : Int)
    cases h3 : s.live <;> cases h4 : u.live <;> rw [h3, h4] at h1 hn <;> simp at h1 hn <;> omega
theorem Tb.ch.setVal {t : Tb} (c : t.ch) (i : Nat) (v : V) : (t.setVal i v).ch := by
  unfold Tb.setVal
  split
  · rename_i s hs
    exact c.setSlot (u := ⟨s.key, v, s.live, s.link⟩) hs rfl rfl rfl
  · exact c
theorem Tb.ch.kill {t : Tb} (c : t.ch) {i : Nat} {s : Sl} (hs : t.slots[i]? = some s) (hv : s.live = true) : (t.kill i).ch := by
  unfold Tb.kill
  rw [hs]
  refine c.setSlot (u := ⟨s.key, V.zero, false, s.link⟩) hs rfl rfl ?_
  simp [hv]
theorem Tb.ch.hashIf {t : Tb} (c : t.ch) (hl : liveN t.slots < 1024) (k : Ky) : (t.hashIf k).ch ∧ liveN (t.hashIf k).slots < 1024 ∧ ((t.hashIf k).hashed = false → t.slots.length < 1024 ∧ k = ⟨false, ((t.hashIf k).slots.length : Nat), ⟨#[]⟩⟩ ∧ t.hashIf k = t) := by
  unfold Tb.hashIf
  split
  · have w := c.build hl
    refine ⟨w.ch, ?_, fun h => ?_⟩
    · have h1 := liveN_le t.build.slots
      have h2 := w.len
      rw [List.take_length] at h2
      omega
    · rw [w.hashed] at h; cases h
  · rename_i hc
    refine ⟨c, hl, fun h => ?_⟩
    have h1 := (c.packed h).1
    simp only [h, true_and, not_or, Classical.not_not] at hc
    exact ⟨by omega, hc.1, rfl⟩
theorem Tb.ch.growIf {t : Tb} (c : t.ch) (hl : liveN t.slots < 1024) : t.growIf.ch ∧ (t.growIf.hashed = true → t.growIf.slots.length < t.growIf.heads.length) ∧ (t.growIf.hashed = false → t.growIf = t) := by
  unfold Tb.growIf
  split
  · have w := c.build hl
    have hr := roomN_spec hl
    have h2 := w.len
    rw [List.take_length] at h2
    have h3 := w.size
    refine ⟨w.ch, fun _ => by omega, fun h => ?_⟩
    rw [w.hashed] at h; cases h
  · rename_i hc
    refine ⟨c, fun h => ?_, fun _ => rfl⟩
    have := c.room h
    simp only [h, true_and] at hc
    omega
theorem Tb.put_fits {t : Tb} (c : t.ch) (hl : liveN t.slots < 1024) (k : Ky) : ((t.hashIf k).growIf).ch ∧ ((t.hashIf k).growIf).fits k := by
  obtain ⟨c1, l1, p1⟩ := c.hashIf hl k
  obtain ⟨c2, g1, g2⟩ := c1.growIf l1
  refine ⟨c2, g1, fun h => ?_⟩
  have e := g2 h
  rw [e] at h ⊢
  obtain ⟨q1, q2, q3⟩ := p1 h
  rw [q3] at q2 ⊢
  exact ⟨q1, q2⟩
theorem Tb.ch.put {t : Tb} (c : t.ch) {k : Ky} (v : V) (hk : keyOk k = true) (hl : t.find k = none → liveN t.slots < 1024) : (t.put k v).ch := by
  unfold Tb.put
  split
  · exact c.setVal _ v
  · rename_i hf
    obtain ⟨c1, f1⟩ := Tb.put_fits c (hl hf) k
    exact c1.pushBump v f1 hk
end Go.Sx
namespace Go.Sx
open Go
/-! how much a table holds -/
theorem szG_append {α : Type} {w : α → Nat} (p q : List α) : szG w (p ++ q) = szG w p + szG w q := by
  unfold szG gsum
  rw [List.length_append, List.map_append, List.sum_append]
  omega
theorem szG_one {α : Type} {w : α → Nat} (a : α) : szG w [a] = 1 + w a := by simp [szG, gsum]
theorem szG_cons {α : Type} {w : α → Nat} (a : α) (r : List α) : szG w (a :: r) = 1 + w a + szG w r := by
  rw [show a :: r = [a] ++ r from rfl, szG_append, szG_one]
theorem szG_split {α : Type} {w : α → Nat} {l : List α} {i : Nat} {a : α} (h : l[i]? = some a) (u : α) : szG w (l.take i ++ u :: l.drop (i + 1)) + w a = szG w l + w u := by
  conv => rhs; rw [← List.take_append_drop i l, drop_cons h, szG_append, szG_cons]
  rw [szG_append, szG_cons]
  omega
theorem szG_take {α : Type} {w : α → Nat} (l : List α) (i : Nat) : szG w (l.take i) ≤ szG w l := by
  conv => rhs; rw [← List.take_append_drop i l, szG_append]
  omega
theorem szG_len {α : Type} {w : α → Nat} (l : List α) : l.length ≤ szG w l := by unfold szG; omega
theorem szG_mem {α : Type} {w : α → Nat} {l : List α} {a : α} (h : a ∈ l) : w a + 1 ≤ szG w l := by
  have h1 := gsum_mem (w := w) h
  have h2 := List.length_pos_of_mem h
  unfold szG
  omega
theorem Tb.setVal_bulk (t : Tb) (i : Nat) (v : V) : (t.setVal i v).bulk ≤ t.bulk + v.bulk := by
  unfold Tb.setVal
  split
  · rename_i s hs
    have := szG_split (w := Sl.bulk) hs ⟨s.key, v, s.live, s.link⟩
    have e : Sl.bulk ⟨s.key, v, s.live, s.link⟩ = s.key.str.size + v.bulk := rfl
    have e2 : Sl.bulk s = s.key.str.size + s.val.bulk := rfl
    unfold Tb.bulk
    show t.heads.length + szG Sl.bulk (t.slots.take i ++ _ :: t.slots.drop (i + 1)) ≤ _
    omega
  · omega
theorem Tb.push_slots (t : Tb) (k : Ky) (v : V) : szG Sl.bulk (t.push k v).slots = szG Sl.bulk t.slots + (1 + (k.str.size + v.bulk)) ∧ (t.push k v).heads.length = t.heads.length := by
  refine ⟨?_, ?_⟩
  · show szG Sl.bulk (t.slots ++ [_]) = _
    rw [szG_append, szG_one]
    rfl
  · unfold Tb.push
    show (if t.hashed then _ else _ : List Int).length = _
    split
    · rw [List.length_set]
    · rfl
theorem Tb.pushAll_slots : ∀ (l : List Sl) (o : Tb), szG Sl.bulk (o.pushAll l).slots ≤ szG Sl.bulk o.slots + szG Sl.bulk l ∧ (o.pushAll l).heads.length = o.heads.length
  | [], o => by simp [Tb.pushAll]
  | s :: r, o => by
    rw [Tb.pushAll, szG_cons]
    have h := Tb.pushAll_slots r (if s.live then o.push s.key s.val else o)
    have h2 := o.push_slots s.key s.val
    have e2 : Sl.bulk s = s.key.str.size + s.val.bulk := rfl
    split at h
    · rename_i hl
      rw [if_pos hl]
      omega
    · rename_i hl
      rw [if_neg hl]
      omega
theorem dbl_le (c : Nat) : ∀ f s, dbl c f s ≤ s * 2 ^ f
  | 0, s => by simp [dbl]
  | f + 1, s => by
    rw [dbl]
    have := dbl_le c f (s * 2)
    have e : s * 2 * 2 ^ f = s * 2 ^ (f + 1) := by rw [Nat.pow_succ, Nat.mul_assoc, Nat.mul_comm 2]
    have h1 : s * 1 ≤ s * 2 ^ (f + 1) := Nat.mul_le_mul_left s (Nat.one_le_two_pow)
    split <;> omega
theorem roomN_le (c : Nat) : roomN c ≤ 32768 := by
  have := dbl_le c 12 8
  unfold roomN
  omega
theorem Tb.build_slots (t : Tb) : szG Sl.bulk t.build.slots ≤ szG Sl.bulk t.slots ∧ t.build.heads.length ≤ 32768 := by
  have h := Tb.pushAll_slots t.slots t.fresh
  have e : szG Sl.bulk t.fresh.slots = 0 := rfl
  have e2 : t.fresh.heads.length = roomN (liveN t.slots) := by
    show (List.replicate (roomN (liveN t.slots)) (-1 : Int)).length = _
    rw [List.length_replicate]
  have := roomN_le (liveN t.slots)
  unfold Tb.build
  omega
theorem Tb.build_bulk (t : Tb) : t.build.bulk ≤ t.bulk + 32768 := by
  have := t.build_slots
  unfold Tb.bulk
  omega
theorem Tb.bump_bulk (t : Tb) (k : Ky) : (t.bump k).bulk = t.bulk := rfl
theorem Tb.hashIf_bulk (t : Tb) (k : Ky) : (t.hashIf k).bulk ≤ t.bulk + 32768 := by
  unfold Tb.hashIf
  split
  · exact t.build_bulk
  · omega
theorem Tb.growIf_bulk (t : Tb) : t.growIf.bulk ≤ t.bulk + 32768 := by
  unfold Tb.growIf
  split
  · exact t.build_bulk
  · omega
theorem Tb.put_bulk (t : Tb) (k : Ky) (v : V) : (t.put k v).bulk ≤ t.bulk + k.str.size + v.bulk + 65537 := by
  unfold Tb.put
  split
  · have := t.setVal_bulk (i := ‹Nat›) v
    omega
  · rw [Tb.bump_bulk]
    have h1 := t.hashIf_bulk k
    have h2 := (t.hashIf k).growIf_bulk
    have h3 := (t.hashIf k).growIf.push_slots k v
    generalize (t.hashIf k).growIf = g at *
    unfold Tb.bulk at *
    omega
theorem cntS_bulk : ∀ l : List Sl, cntG cS l ≤ 9 * szG Sl.bulk l
  | [] => by simp [cntG]
  | s :: r => by
    have h1 := cntS_bulk r
    have h2 := cntEs_bulk s.val.items
    have h3 := V.bulk_eq s.val
    have e2 : Sl.bulk s = s.key.str.size + s.val.bulk := rfl
    have e : cS s = (7 + cntEs s.val.items) + 2 := rfl
    rw [szG_cons, cntG]
    omega
theorem cntI_len : ∀ l : List Int, cntG cI l = l.length
  | [] => rfl
  | a :: r => by
    rw [cntG, cntI_len r, List.length_cons]
    unfold cI
    omega
theorem cntT_bulk (t : Tb) : cntG cI t.heads + cntG cS t.slots ≤ 9 * t.bulk := by
  have h1 := cntS_bulk t.slots
  have h2 := cntI_len t.heads
  unfold Tb.bulk
  omega
theorem cntB_bulk : ∀ l : List Bk, cntG cB l ≤ 9 * szG Bk.bulk l
  | [] => by simp [cntG]
  | s :: r => by
    have h1 := cntB_bulk r
    have h2 := cntT_bulk s.tab
    have e2 : Bk.bulk s = s.tab.bulk := rfl
    have e : cB s = 2 + cntG cI s.tab.heads + cntG cS s.tab.slots + 2 := rfl
    rw [szG_cons, cntG]
    omega
/-! whether a table is right, as a Bool -/
def allIx (n : Nat) (p : Nat → Bool) : Bool := (List.range n).all p
theorem allIx_iff {n : Nat} {p : Nat → Bool} : allIx n p = true ↔ ∀ i, i < n → p i = true := by
  unfold allIx
  rw [List.all_eq_true]
  exact ⟨fun h i hi => h i (List.mem_range.2 hi), fun h i hi => h i (List.mem_range.1 hi)⟩
def at_ {α : Type} (l : List α) (i : Nat) (p : α → Bool) : Bool := match l[i]? with
  | some a => p a
  | none => true
theorem at_iff {α : Type} {l : List α} {i : Nat} {p : α → Bool} : at_ l i p = true ↔ ∀ a, l[i]? = some a → p a = true := by
  unfold at_
  cases l[i]? with
  | none => simp
  | some a => simp
theorem allAt_iff {α : Type} {l : List α} {p : Nat → α → Bool} : allIx l.length (fun i => at_ l i (p i)) = true ↔ ∀ i a, l[i]? = some a → p i a = true := by
  rw [allIx_iff]
  constructor
  · intro h i a ha
    exact at_iff.1 (h i (List.getElem?_eq_some_iff.1 ha).1) a ha
  · intro h i _
    exact at_iff.2 fun a ha => h i a ha
def Tb.isTab (t : Tb) : Bool :=
  decide (0 ≤ t.next ∧ t.next ≤ 1000000001) &&
  (allIx t.slots.length (fun i => at_ t.slots i fun (s : Sl) => keyOk s.key && ((s.key.text || decide (s.key.num < t.next)) && (s.live || s.val.isZero))) &&
  (allIx t.slots.length (fun i => at_ t.slots i fun (s : Sl) => allIx t.slots.length fun j => at_ t.slots j fun (u : Sl) => !(decide (j < i) && (s.live && (u.live && decide (u.key = s.key))))) &&
  (decide (t.count = liveN t.slots) &&
  (if t.hashed then decide (8 ≤ t.heads.length ∧ t.heads.length ≤ 1024) && (p2 t.heads.length && (decide (t.slots.length ≤ t.heads.length) &&
      (allIx t.slots.length (fun i => at_ t.slots i fun (s : Sl) => decide ((hdsN t.heads.length t.slots i)[s.key.hash % t.heads.length]? = some s.link)) && decide (t.heads = hdsN t.heads.length t.slots t.slots.length))))
   else decide (t.heads.length = 0) && (decide ((t.slots.length : Int) ≤ t.next) && (decide (t.slots.length ≤ 1024) && allIx t.slots.length fun i => at_ t.slots i fun (s : Sl) => decide (s.key = ⟨false, (i : Nat), ⟨#[]⟩⟩) && decide (s.link = -1)))))))
theorem Tb.isTab_iff (t : Tb) : t.isTab = true ↔ t.wf := by
  unfold Tb.isTab
  constructor
  · intro h
    cases hh : t.hashed with
    | true =>
      simp only [hh, if_true, Bool.and_eq_true, decide_eq_true_eq, allAt_iff] at h
      obtain ⟨h1, h2, h3, h4, h5, h6, h7, h8, h9⟩ := h
      refine ⟨h1, fun i s hs => ?_, fun i j s u hj hs hu ls lu => ?_, h4, fun k => (by rw [hh] at k; cases k), fun _ => ⟨h5, h6, h7, h8, h9⟩⟩
      · have := h2 i s hs
        simpa using this
      · have := h3 i s hs j u hu
        simpa [hj, ls, lu] using this
    | false =>
      simp only [hh, Bool.false_eq_true, if_false, Bool.and_eq_true, decide_eq_true_eq, allAt_iff] at h
      obtain ⟨h1, h2, h3, h4, h5, h6, h7, h8⟩ := h
      refine ⟨h1, fun i s hs => ?_, fun i j s u hj hs hu ls lu => ?_, h4, fun _ => ⟨h5, h6, h7, h8⟩, fun k => by rw [hh] at k; cases k⟩
      · have := h2 i s hs
        simpa using this
      · have := h3 i s hs j u hu
        simpa [hj, ls, lu] using this
  · intro w
    have k2 : ∀ (i : Nat) (s : Sl), t.slots[i]? = some s → (keyOk s.key && ((s.key.text || decide (s.key.num < t.next)) && (s.live || s.val.isZero))) = true := fun i s hs => by simpa using w.keys i s hs
    have k3 : ∀ (i : Nat) (s : Sl), t.slots[i]? = some s → ∀ (j : Nat) (u : Sl), t.slots[j]? = some u → (!(decide (j < i) && (s.live && (u.live && decide (u.key = s.key))))) = true := fun i s hs j u hu => by
      by_cases hj : j < i
      · cases ls : s.live with
        | false => simp
        | true =>
          cases lu : u.live with
          | false => simp
          | true =>
            have := w.dist i j s u hj hs hu ls lu
            simp [this]
      · simp [hj]
    cases hh : t.hashed with
    | true =>
      simp only [if_true, Bool.and_eq_true, decide_eq_true_eq, allAt_iff]
      obtain ⟨q1, q2, q3, q4, q5⟩ := w.hash hh
      exact ⟨w.next, fun i s hs => by simpa using k2 i s hs, k3, w.cnt, q1, q2, q3, q4, q5⟩
    | false =>
      simp only [Bool.false_eq_true, if_false, Bool.and_eq_true, decide_eq_true_eq, allAt_iff]
      obtain ⟨q1, q2, q3, q4⟩ := w.packed hh
      exact ⟨w.next, fun i s hs => by simpa using k2 i s hs, k3, w.cnt, q1, q2, q3, q4⟩
end Go.Sx
/-! What stands still in one block while others are written; numbers in slices; slots of slices of the walk's own. -/
namespace Go.Sx
open Go
/-- the heap, of which one block alone is looked at -/
def only (h : Hp) (b : Nat) : Hp := fun i => if i = b then h i else none
theorem only_ext {h h' : Hp} {b : Nat} (e : h' b = h b) : Ext (only h b) h' := by
  intro i o hi
  unfold only at hi
  split at hi
  · rename_i he
    subst he
    rw [e]
    exact hi
  · cases hi
theorem only_refl {h : Hp} {b : Nat} : Ext (only h b) h := only_ext rfl
theorem only_of {h h' : Hp} {b : Nat} {o : Obj} (hb : h b = some o) (e : Ext h h') : Ext (only h b) h' := only_ext (by rw [hb]; exact e _ _ hb)
section
variable {P : Program} {h0 h : Hp} {K : Value → Hp → Prop} {bag : Bag} {c : List Dt → Dt} {val : Value} {b off : Nat}
theorem Hold.there (hd : Hold c val b off) {x : List Dt} (m : My h0 h ((c x, val) :: bag)) : ∃ o, h b = some o := by
  obtain ⟨xs, _, cur, e, f, hb, _⟩ := hd.rd m
  exact ⟨_, hb⟩
/-- a raw cell is read where its block stands still -/
theorem Hold.still1 (hd : Hold c val b off) {t n i j : Nat} {x : List Dt} {u : Value} (ht : tyS P t = some (false, n)) (m : My h0 h ((c x, val) :: bag)) (hi : x[i]? = some (.raw u)) (hj : j = off + i) (k : K u (only h b)) : HPure P (ldI t (.pointer (some ⟨b, j, none⟩))) (only h b) K := by
  obtain ⟨xs, hr, cur, e, f, hb, hs, hg⟩ := hd.rd m
  obtain ⟨v, hv, rv⟩ := hr.get hi
  obtain ⟨rfl, _⟩ := Rd_raw.1 rv
  exact hsem_at1 ht ⟨cur, e, f, by unfold only; rw [if_pos rfl]; exact hb, rfl, hg⟩ hv hj k
/-- 'append' that leaves a block of another thing of the bag alone -/
theorem hsem_my_appendK {t ty : Nat} {s : SlT} (hs : slT P t = some s) (hz0 : 0 < s.z) (hzl : s.zero.length = s.z) {v x : Value} (n m : Nat) {cs news : List Dt} (my : My h0 h ((.row s.z cs, v) :: (.row s.z news, x) :: bag)) (b : Nat)
    (hbk : ∀ B, OwL h (bag.map (·.1)) (bag.map (·.2)) B → b ∈ B)
    (hn : cs.length = n * s.z) (hm : news.length = m * s.z) (hb : (n + m) * s.by_ ≤ 140737488355328) (hb2 : n + m ≤ 140737488355328) (k : ∀ v' h', My h0 h' ((.row s.z (cs ++ news), v') :: bag) → h' b = h b → K v' h') : HSem P (apI #[t, t] ty #[v, x]) h K := by
  obtain ⟨B1, B2, l1, l2, k2, k3, k4⟩ := My.cons_iff.1 my
  simp only [Ow] at l1
  obtain ⟨xs, C1, C2, o1, o2, rfl⟩ := l1
  simp only [List.map_cons, OwL_cc, Ow] at l2
  obtain ⟨_, B3, ⟨ys, D1, D2, o3, o4, rfl⟩, l3, rfl⟩ := l2
  have hC1 : ∀ b ∈ C2 ++ (D1 ++ D2) ++ B3, b ∉ C1 := by
    intro b hb hb'
    have : (C1 ++ (C2 ++ (D1 ++ D2) ++ B3)).Nodup := by simpa using k2
    exact (List.nodup_append.1 this).2.2 b hb' b hb rfl
  refine hsem_append hs hz0 hzl o1 o3.rd (by rw [o2.len, hn]) (by rw [o4.len, hm]) hb hb2 fun v' h' B' ho hbut hB => k v' h' ?_ ?_
  · have fr : ∀ {ds : List Dt} {ys : List Value} {B : List Nat}, OwL h ds ys B → (∀ b ∈ B, b ∈ C2 ++ (D1 ++ D2) ++ B3) → OwL h' ds ys B := fun k hB => k.frame fun b' hb' => by
      obtain ⟨o, ho⟩ := k.there b' hb'
      rw [hbut b' o ho (hC1 b' (hB b' hb')), ho]
    have hB'n : B'.Nodup := ho.nodup
    have hB'd : ∀ b ∈ B', b ∉ C2 ++ (D1 ++ D2) ++ B3 := by
      intro b hb hb'
      rcases hB b hb with h1 | h1
      · exact hC1 b hb' h1
      · have : ∃ o, h b = some o := by
          simp only [List.mem_append] at hb'
          rcases hb' with (h2 | h2 | h2) | h2
          · exact o2.there b h2
          · exact o3.there b h2
          · exact o4.there b h2
          · exact l3.there b h2
        obtain ⟨o, ho⟩ := this
        rw [h1] at ho
        cases ho
    rw [My.cons_iff]
    refine ⟨B' ++ (C2 ++ D2), B3, ?_, fr l3 (by simp +contextual), ?_, ?_, ?_⟩
    · simp only [Ow]
      exact ⟨_, B', _, ho, (fr o2 (by simp +contextual)).append (fr o4 (by simp +contextual)), rfl⟩
    · rw [List.append_assoc]
      refine List.nodup_append.2 ⟨hB'n, ?_, ?_⟩
      · have h1 : (C2 ++ (D1 ++ D2) ++ B3).Nodup := by
          have : (C1 ++ (C2 ++ (D1 ++ D2) ++ B3)).Nodup := by simpa using k2
          exact (List.nodup_append.1 this).2.1
        have hp : (C2 ++ (D1 ++ D2) ++ B3).Perm (D1 ++ (C2 ++ D2 ++ B3)) := by
          simp only [← List.append_assoc]
          refine List.Perm.append_right B3 (List.Perm.append_right D2 ?_)
          exact List.perm_append_comm
        exact (List.nodup_append.1 (hp.nodup_iff.1 h1)).2.1
      · intro a ha b hb hab
        subst hab
        refine hB'd a ha ?_
        simp only [List.mem_append] at hb ⊢
        rcases hb with (h | h) | h <;> simp [h]
    · intro b hb
      simp only [List.mem_append] at hb
      rcases hb with (h1 | h1 | h1) | h1
      · rcases hB b h1 with h2 | h2
        · exact k3 b (by simp [h2])
        · exact none_of_ext k4 h2
      · exact k3 b (by simp [h1])
      · exact k3 b (by simp [h1])
      · exact k3 b (by simp [h1])
    · exact hbut.ext k4 fun b hb => k3 b (by simp [hb])
  · have hm := hbk B3 l3
    obtain ⟨o, ho⟩ := l3.there b hm
    rw [hbut b o ho (hC1 b (by simp [hm])), ho]
/-- the block of a thing with a hole is among the bag's -/
theorem Hold.mem (hd : Hold c val b off) {x : List Dt} {B : List Nat} (k : OwL h (((c x, val) :: bag).map (·.1)) (((c x, val) :: bag).map (·.2)) B) : b ∈ B := by
  simp only [List.map_cons, OwL_cc] at k
  obtain ⟨B1, B2, k1, k2, rfl⟩ := k
  obtain ⟨e, xp, xs, xq, Bp, Bx, Bq, hb, hp, ox, rfl, _⟩ := hd h x B1 k1
  simp
theorem idt_raws : ∀ l : List Int, l.flatMap idt = (l.map (Value.int .i64)).map .raw
  | [] => rfl
  | a :: r => by rw [List.flatMap_cons, List.map_cons, List.map_cons, idt_raws r]; rfl
theorem RdL_ints {l : List Int} {xs : List Value} (r : RdL h (l.flatMap idt) xs) : xs = l.map (Value.int .i64) := by
  rw [idt_raws] at r
  exact r.of_raws
/-- numbers are appended to an empty slice -/
theorem hsem_copyI {t ty e : Nat} {l : List Int} {v sl : Value} (hs : slT P t = some ⟨e, 1, 8, [.int .i64 0]⟩) (m : My h0 h ((.row 1 [], v) :: bag)) (rd : RdI h l sl) (hl : l.length ≤ 1099511627776) (k : ∀ v' h', My h0 h' ((.row 1 (l.flatMap idt), v') :: bag) → K v' h') : HSem P (apI #[t, t] ty #[v, sl]) h K := by
  simp only [Rd] at rd
  obtain ⟨xs, r1, r2⟩ := rd
  have hx := RdL_ints r2
  refine hsem_my_appendR hs (Nat.zero_lt_one) rfl 0 l.length m r1 rfl (by rw [hx, List.length_map]; simp) (by show (0 + l.length) * 8 ≤ _; omega) (by omega) fun v' h' m' => k v' h' ?_
  rw [List.nil_append, hx, ← idt_raws] at m'
  exact m'
/-- the cells of a slot -/
def slC (e : Sl) (sl : Value) : List Value := [.bool e.key.text, .int .i64 e.key.num, .string e.key.str, .int .i64 e.val.kind, .int .i64 e.val.num, .string e.val.str, .int .i64 e.val.next, sl, .bool e.live, .int .i64 e.link]
theorem slot_zip (e : Sl) {sl : Value} (m : My h0 h ((.row 8 (e.val.items.flatMap edt), sl) :: bag)) : My h0 h ((Sl.dt e).zip (slC e sl) ++ bag) := by
  simp only [Sl.dt_eq, slC, List.zip_cons_cons, List.zip_nil_right, List.cons_append, List.nil_append, My.raw_iff, one_bool, one_int, one_str, and_self, true_and]
  exact ((m.raw (u := .int .i64 e.link) rfl).raw (u := .bool e.live) rfl).third
/-- a slot whose items are taken out -/
def srw (e : Sl) (u : Value) : List Dt := [.raw (.bool e.key.text), .raw (.int .i64 e.key.num), .raw (.string e.key.str), .raw (.int .i64 e.val.kind), .raw (.int .i64 e.val.num), .raw (.string e.val.str), .raw (.int .i64 e.val.next), .raw u, .raw (.bool e.live), .raw (.int .i64 e.link)]
theorem srw_len (e : Sl) (u : Value) : (srw e u).length = 10 := rfl
theorem slot_open {A R : List Dt} {e : Sl} {v : Value} (m : My h0 h ((.row 10 (A ++ (Sl.dt e ++ R)), v) :: bag)) : ∃ a n, My h0 h ((.row 8 (e.val.items.flatMap edt), .slice a e.val.items.length n) :: (.row 10 (A ++ (srw e (.slice a e.val.items.length n) ++ R)), v) :: bag) := by
  rw [Sl.dt_eq] at m
  obtain ⟨u, m1⟩ := m.openAt (A := A) (R := R) (j := 7) rfl
  obtain ⟨a, n, rfl, _⟩ := m1.row_shape (by decide) e.val.items.length (fm_len edt_len _)
  exact ⟨a, n, m1⟩
/-- the load of such a slot -/
theorem hsem_srw {t bb j : Nat} {A R : List Dt} {e : Sl} {u : Value} {len cap : Nat} (ht : tyS P t = some (true, 10)) (m : My h0 h ((.row 10 (A ++ (srw e u ++ R)), .slice (some ⟨bb, 0, none⟩) len cap) :: bag)) (h0l : 0 < len) (hj : j = A.length)
    (k : K (.agg (slC e u).toArray) h) : HPure P (ldI t (.pointer (some ⟨bb, j, none⟩))) h K := by
  obtain ⟨xs, hr, hat⟩ := m.at_
  refine hsem_getN ht (hat h0l) hr (i := j) (ds := srw e u) ?_ rfl (by omega) fun ys r => ?_
  · rw [hj, List.drop_left, List.take_left' (srw_len e u)]
  · have : srw e u = (slC e u).map .raw := rfl
    rw [this] at r
    rw [r.of_raws]
    exact k
/-- a slot's value within the slots -/
theorem hold_sval {es : List Sl} {i : Nat} {e : Sl} {b cap : Nat} (he : es[i]? = some e) : ∃ c, Hold c (.slice (some ⟨b, 0, none⟩) es.length cap) b (i * 10 + 3) ∧ ∀ w : V, c w.dt = .row 10 ((es.take i ++ ⟨e.key, w, e.live, e.link⟩ :: es.drop (i + 1)).flatMap Sl.dt) := by
  obtain ⟨h1, h2⟩ := fm_split Sl.dt_len he
  have hlt := (List.getElem?_eq_some_iff.1 he).1
  refine ⟨_, (Hold.row (z := 10) (p := (es.take i).flatMap Sl.dt ++ e.key.dt) (q := [.raw (.bool e.live), .raw (.int .i64 e.link)] ++ (es.drop (i + 1)).flatMap Sl.dt) (by omega)).at_ ?_, fun w => ?_⟩
  · rw [List.length_append, h2]
    rfl
  · simp only [List.flatMap_append, List.flatMap_cons, Sl.dt, List.append_assoc, List.cons_append, List.nil_append]
/-- a number within numbers -/
theorem hold_num {es : List Int} {i : Nat} {b cap : Nat} (hi : i < es.length) : ∃ c, Hold c (.slice (some ⟨b, 0, none⟩) es.length cap) b (i * 1) ∧ ∀ w : Int, c [.raw (.int .i64 w)] = .row 1 ((es.set i w).flatMap idt) := by
  obtain ⟨e, he, _⟩ := get_lt hi
  obtain ⟨h1, h2⟩ := fm_split idt_len he
  refine ⟨_, (Hold.row (z := 1) (p := (es.take i).flatMap idt) (q := (es.drop (i + 1)).flatMap idt) (by omega)).at_ h2.symm, fun w => ?_⟩
  rw [set_split w hi, List.flatMap_append, List.flatMap_cons]
  rfl
/-- a raw cell is written -/
theorem Hold.put1 (hd : Hold c val b off) {t j : Nat} {d : Dt} {u : Value} (ht : tyS P t = some (false, 1)) (hu : oneCell u = true) (hc : u.cells.toList = [u]) (m : My h0 h ((c [d], val) :: bag)) (hj : j = off) (k : ∀ h', My h0 h' ((c [.raw u], val) :: bag) → K undef h') : HSem P (stI t (.pointer (some ⟨b, j, none⟩)) u) h K :=
  hd.store (x := [d]) (es := [.raw u]) ht (by rw [hc]; exact m.raw hu) rfl rfl (by rw [hc]; rfl) hj k
theorem hold_self {es : List Int} {i : Nat} (hi : i < es.length) : ∃ w, es.set i w = es := by
  refine ⟨es[i], ?_⟩
  exact List.set_getElem_self hi
theorem slot_self {es : List Sl} {i : Nat} {e : Sl} (he : es[i]? = some e) : es.take i ++ (⟨e.key, e.val, e.live, e.link⟩ : Sl) :: es.drop (i + 1) = es := by
  rw [show (⟨e.key, e.val, e.live, e.link⟩ : Sl) = e from rfl, ← drop_cons he, List.take_append_drop]
/-- a raw cell is read -/
theorem Hold.ld1 (hd : Hold c val b off) {t n i j : Nat} {x : List Dt} {u : Value} (ht : tyS P t = some (false, n)) (m : My h0 h ((c x, val) :: bag)) (hi : x[i]? = some (.raw u)) (hj : j = off + i) (k : K u h) : HPure P (ldI t (.pointer (some ⟨b, j, none⟩))) h K :=
  hd.load1 ht m hi hj fun v rv => by
    obtain ⟨rfl, _⟩ := Rd_raw.1 rv
    exact k
/-- one of some cells is written, bare -/
theorem Hold.setC (hd : Hold c val b off) {t j : Nat} (X Y : List Dt) {d : Dt} {u : Value} (ht : tyS P t = some (false, 1)) (hu : oneCell u = true) (hc : u.cells.toList = [u]) (m : My h0 h ((c (X ++ ([d] ++ Y)), val) :: bag)) (hj : j = off + X.length) (k : ∀ h', My h0 h' ((c (X ++ ([.raw u] ++ Y)), val) :: bag) → K undef h') : HSem P (stI t (.pointer (some ⟨b, j, none⟩)) u) h K :=
  (hd.sub X Y).put1 ht hu hc m hj k
/-! a table that lies in memory -/
def traws (t : Tb) (x y : Value) : List Dt := [.raw (.bool t.hashed), .raw x, .raw y, .raw (.int .i64 t.next), .raw (.int .i64 t.count)]
theorem traws_len (t : Tb) (x y : Value) : (traws t x y).length = 5 := rfl
theorem tb_open (hd : Hold c val b off) {t : Tb} (m : My h0 h ((c t.dt, val) :: bag)) : ∃ a n a' n', My h0 h ((.row 1 (t.heads.flatMap idt), .slice a t.heads.length n) :: (.row 10 (t.slots.flatMap Sl.dt), .slice a' t.slots.length n') :: (c (traws t (.slice a t.heads.length n) (.slice a' t.slots.length n')), val) :: bag) := by
  unfold Tb.dt at m
  obtain ⟨u, m1⟩ := hd.open_ (X := [.raw (.bool t.hashed)]) (d := .row 1 (t.heads.flatMap idt)) (Y := [.row 10 (t.slots.flatMap Sl.dt), .raw (.int .i64 t.next), .raw (.int .i64 t.count)]) m
  obtain ⟨a, n, rfl, _⟩ := m1.row_shape (by decide) t.heads.length (fm_len idt_len _)
  obtain ⟨w, m2⟩ := hd.open_ (X := [.raw (.bool t.hashed), .raw (.slice a t.heads.length n)]) (d := .row 10 (t.slots.flatMap Sl.dt)) (Y := [.raw (.int .i64 t.next), .raw (.int .i64 t.count)]) m1.swap
  obtain ⟨a', n', rfl, _⟩ := m2.row_shape (by decide) t.slots.length (fm_len Sl.dt_len _)
  exact ⟨a, n, a', n', m2.third⟩
theorem tb_close (hd : Hold c val b off) {t : Tb} {x y : Value} (m : My h0 h ((.row 1 (t.heads.flatMap idt), x) :: (.row 10 (t.slots.flatMap Sl.dt), y) :: (c (traws t x y), val) :: bag)) : My h0 h ((c t.dt, val) :: bag) := by
  have m1 := hd.close (X := [.raw (.bool t.hashed), .raw x]) (d := .row 10 (t.slots.flatMap Sl.dt)) (Y := [.raw (.int .i64 t.next), .raw (.int .i64 t.count)]) m.third.third
  exact hd.close (X := [.raw (.bool t.hashed)]) (d := .row 1 (t.heads.flatMap idt)) (Y := [.row 10 (t.slots.flatMap Sl.dt), .raw (.int .i64 t.next), .raw (.int .i64 t.count)]) m1.swap
/-- a table's parts are known: the variable is given up -/
theorem tb_ldraw (hd : Hold c val b off) {t j : Nat} {tb : Tb} {x y : Value} (ht : tyS P t = some (true, 5)) (m : My h0 h ((c (traws tb x y), val) :: bag)) (hj : j = off) (k : K (.agg #[.bool tb.hashed, x, y, .int .i64 tb.next, .int .i64 tb.count]) h) : HPure P (ldI t (.pointer (some ⟨b, j, none⟩))) h K := by
  refine hd.loadN (i := 0) (ds := traws tb x y) ht m rfl rfl hj fun ys r => ?_
  simp only [traws, RdL_cons, RdL_nil, Rd_raw] at r
  obtain ⟨_, _, rfl, ⟨rfl, _⟩, _, _, rfl, ⟨rfl, _⟩, _, _, rfl, ⟨rfl, _⟩, _, _, rfl, ⟨rfl, _⟩, _, _, rfl, ⟨rfl, _⟩, rfl⟩ := r
  exact k
/-- the table is read -/
theorem tb_load (hd : Hold c val b off) {t j : Nat} {tb : Tb} (ht : tyS P t = some (true, 5)) (m : My h0 h ((c tb.dt, val) :: bag)) (hj : j = off) (k : ∀ x y, RdI h tb.heads x → RdT h tb.slots y → K (.agg #[.bool tb.hashed, x, y, .int .i64 tb.next, .int .i64 tb.count]) h) : HPure P (ldI t (.pointer (some ⟨b, j, none⟩))) h K :=
  hd.loadN (i := 0) (ds := tb.dt) ht m (by rw [List.drop_zero, List.take_of_length_le (by rw [Tb.dt_len]; exact Nat.le_refl _)]) (Tb.dt_len tb) hj fun ys r => by
    obtain ⟨x, y, rfl, r1, r2⟩ := RdL_tab r
    exact k x y r1 r2
theorem tab_zip (t : Tb) {x y : Value} (m : My h0 h ((.row 1 (t.heads.flatMap idt), x) :: (.row 10 (t.slots.flatMap Sl.dt), y) :: bag)) : My h0 h ((Tb.dt t).zip [.bool t.hashed, x, y, .int .i64 t.next, .int .i64 t.count] ++ bag) := by
  simp only [Tb.dt, List.zip_cons_cons, List.zip_nil_right, List.cons_append, List.nil_append, My.raw_iff, one_bool, and_self, true_and]
  exact ((m.raw (u := .int .i64 t.count) rfl).raw (u := .int .i64 t.next) rfl).fourth.fourth
/-- a table is written -/
theorem tb_store (hd : Hold c val b off) {t j : Nat} {tb : Tb} {x y : Value} {z : List Dt} (ht : tyS P t = some (true, 5)) (hz : z.length = 5) (m : My h0 h ((.row 1 (tb.heads.flatMap idt), x) :: (.row 10 (tb.slots.flatMap Sl.dt), y) :: (c z, val) :: bag)) (hj : j = off) (k : ∀ h', My h0 h' ((c tb.dt, val) :: bag) → K undef h') :
    HSem P (stI t (.pointer (some ⟨b, j, none⟩)) (.agg #[.bool tb.hashed, x, y, .int .i64 tb.next, .int .i64 tb.count])) h K :=
  hd.store (x := z) (es := tb.dt) ht (tab_zip tb m) hz (Tb.dt_len tb) rfl hj k
/-- A slice literal; nothing that was there has turned. -/
theorem hsem_my_litE {t n : Nat} {s : SlT} {parts : List (Nat × Value)} {es : List Dt} (hs : slT P t = some s) (hz : 0 < s.z) (hn0 : 0 < n) (hn : n * s.z ≤ 16777216) (hlen : parts.length = n) (hi : parts.map (·.1) = List.range n) (hp : ∀ p ∈ parts, p.2.cells.size = s.z)
    (my : My h0 h (es.zip (flat parts) ++ bag)) (hfl : (flat parts).length = n * s.z) (hel : es.length = n * s.z) (k : ∀ v h', My h0 h' ((.row s.z es, v) :: bag) → Ext h h' → K v h') : HSem P (bsI t n parts.toArray) h K :=
  hsem_buildSlice hs hz hn0 hn hlen hi hp fun b hb => k _ _ (my_new my hb (by rw [hel, hfl]) (Nat.le_refl _) (by
    have := Nat.le_trans (Nat.le_mul_of_pos_right n hz) hn
    simp only [maxLen]; omega) (by simpa using hfl) hfl (by simp [← hfl]) (fun h => by omega)) (ext_set hb _)
end
/-! regions that stand still in part -/
section
variable {P : Program} {hm : List Nat} {l : List Oper} {K : Fr → Bx → Hp → Prop} {fr : Fr} {bx : Bx} {h : Hp}
theorem regionS_at {lb pl : List Nat} (hS : Hp) (hE : Ext hS h) (c d p q : Nat) (A B : List Nat) (hok : okSplit P hm lb pl l.toArray ⟨c, d, p, q, A, B⟩ = true)
    (hr : arun P ⟨hm, lb, pl, some hS⟩ l.toArray (pickO l.toArray (List.range c)) (arun P ⟨hm, lb, [], none⟩ l.toArray (pickO l.toArray (List.range' c (d - c))) (bothK (arun P ⟨hm, lb, [], none⟩ l.toArray (pickO l.toArray A) K) (arun P ⟨hm, lb, [], none⟩ l.toArray (pickO l.toArray B) K))) fr bx h) : regionDD P hm l K fr bx h :=
  .inr (.inl ⟨lb, pl, some hS, ⟨c, d, p, q, A, B⟩, hE, hok, hr⟩)
/-- a variable that the region makes is seen behind it -/
theorem regionP_intro {lb hm' : List Nat} (d : Nat) (hok : okDraw P hm' lb [] l.toArray = true) (hr : arun P ⟨hm', lb, [], none⟩ l.toArray l (prom d K) fr bx h) : regionDD P hm l K fr bx h :=
  .inr (.inr ⟨d, ⟨hm', lb, [], none⟩, trivial, hok, hr⟩)
theorem prom_intro {d : Nat} {cs : List Value} (hc : lkb bx d = some cs) (k : ∀ b T, h b = none → K (proF d b fr) (delb d bx) (hset h b (.cells cs.toArray T (0, 0)))) : prom d K fr bx h := by
  unfold prom
  rw [hc]
  intro b T hb
  exact k b T hb
theorem proF_e {d b : Nat} : proF d b [] = [] := rfl
theorem proF_v {d b i : Nat} {v : Value} {r : Fr} : proF d b ((i, .val v) :: r) = (i, .val v) :: proF d b r := rfl
theorem proF_b {d b i k off : Nat} {r : Fr} : proF d b ((i, .box k off) :: r) = (i, bif k == d then .val (.pointer (some ⟨b, off, none⟩)) else .box k off) :: proF d b r := rfl
theorem delb_e {d : Nat} : delb d [] = [] := rfl
theorem delb_c {d k : Nat} {c : List Value} {r : Bx} : delb d ((k, c) :: r) = bif k == d then delb d r else (k, c) :: delb d r := rfl
theorem pkO_n {ops : Array Oper} : pickO ops [] = [] := rfl
def pkS (o : Option Oper) (r : List Oper) : List Oper := match o with
  | some o => o :: r
  | none => r
theorem pk_s {o : Oper} {r : List Oper} : pkS (some o) r = o :: r := rfl
theorem pkO_c {ops : Array Oper} {i : Nat} {r : List Nat} : pickO ops (i :: r) = pkS ops[i]? (pickO ops r) := by
  rw [pickO]
  cases ops[i]? <;> rfl
theorem rg8 : List.range 8 = [0, 1, 2, 3, 4, 5, 6, 7] := by decide
theorem rg8b : List.range' 8 (9 - 8) = [8] := by decide
end
end Go.Sx
namespace Go.Sx
open Go
section
variable {P : Program} {h0 h : Hp} {K : Value → Hp → Prop} {bag : Bag}
/-- parts of a slot whose items are taken out -/
theorem hsem_srwK {t bb j : Nat} {A R : List Dt} {e : Sl} {u : Value} {len cap : Nat} (ht : tyS P t = some (true, 3)) (m : My h0 h ((.row 10 (A ++ (srw e u ++ R)), .slice (some ⟨bb, 0, none⟩) len cap) :: bag)) (h0l : 0 < len) (hj : j = A.length)
    (k : K (.agg #[.bool e.key.text, .int .i64 e.key.num, .string e.key.str]) h) : HPure P (ldI t (.pointer (some ⟨bb, j, none⟩))) h K := by
  obtain ⟨xs, hr, hat⟩ := m.at_
  refine hsem_getN ht (hat h0l) hr (i := j) (ds := e.key.dt) ?_ rfl (by omega) fun ys r => ?_
  · rw [hj, List.drop_left]
    rfl
  · rw [RdL_key r]
    exact k
theorem hsem_srwV {t bb j : Nat} {A R : List Dt} {e : Sl} {u : Value} {len cap : Nat} (ht : tyS P t = some (true, 5)) (m : My h0 h ((.row 10 (A ++ (srw e u ++ R)), .slice (some ⟨bb, 0, none⟩) len cap) :: bag)) (h0l : 0 < len) (hj : j = A.length + 3)
    (k : K (.agg #[.int .i64 e.val.kind, .int .i64 e.val.num, .string e.val.str, .int .i64 e.val.next, u]) h) : HPure P (ldI t (.pointer (some ⟨bb, j, none⟩))) h K := by
  obtain ⟨xs, hr, hat⟩ := m.at_
  refine hsem_getN ht (hat h0l) hr (i := j) (ds := ([.int .i64 e.val.kind, .int .i64 e.val.num, .string e.val.str, .int .i64 e.val.next, u] : List Value).map .raw) ?_ rfl (by omega) fun ys r => ?_
  · rw [hj, ← List.drop_drop, List.drop_left]
    rfl
  · rw [r.of_raws]
    exact k
theorem hsem_srwL {t n bb j : Nat} {A R : List Dt} {e : Sl} {u : Value} {len cap : Nat} (ht : tyS P t = some (false, n)) (m : My h0 h ((.row 10 (A ++ (srw e u ++ R)), .slice (some ⟨bb, 0, none⟩) len cap) :: bag)) (h0l : 0 < len) (hj : j = A.length + 8)
    (k : K (.bool e.live) h) : HPure P (ldI t (.pointer (some ⟨bb, j, none⟩))) h K := by
  refine hsem_my_get (cs := srw e u) (j := 8) ht m h0l rfl hj fun v hv => ?_
  obtain ⟨rfl, _⟩ := Rd_raw.1 hv
  exact k
theorem Tb.bump_same {t : Tb} {k : Ky} (h : k.text = true ∨ k.num < t.next) : t.bump k = t := by
  unfold Tb.bump
  cases kt : k.text with
  | true => rfl
  | false =>
    rw [kt] at h
    have h := h.resolve_left (by simp)
    have : max t.next (k.num + 1) = t.next := by omega
    rw [show (if false = true then t.next else max t.next (k.num + 1)) = max t.next (k.num + 1) from rfl, this]
theorem Tb.bump_next {t : Tb} {k : Ky} : (t.bump k).next = if k.text then t.next else max t.next (k.num + 1) := rfl
theorem Tb.setVal_eq {t : Tb} {i : Nat} {s : Sl} {v : V} (h : t.slots[i]? = some s) : t.setVal i v = ⟨t.hashed, t.heads, t.slots.take i ++ ⟨s.key, v, s.live, s.link⟩ :: t.slots.drop (i + 1), t.next, t.count⟩ := by
  unfold Tb.setVal
  rw [h]
theorem dbl_step {c f s : Nat} (h : s ≤ c) (hf : s * 2 ^ f = 32768) (hc : c < 1024) : ∃ g, f = g + 1 ∧ s * 2 * 2 ^ g = 32768 ∧ dbl c f s = dbl c g (s * 2) := by
  cases f with
  | zero => simp at hf; omega
  | succ g => exact ⟨g, rfl, by rw [← hf, Nat.pow_succ, Nat.mul_assoc, Nat.mul_comm 2], dbl_up h⟩
theorem dbl_end {c f s : Nat} (h : ¬ s ≤ c) : dbl c f s = s := by
  cases f with
  | zero => rfl
  | succ g => exact dbl_stop h
end
end Go.Sx
/-! What the walks through a table's checks keep. -/
namespace Go.Sx
open Go
theorem noTab {t : Tb} (h : t.wf → False) : t.isTab = false := by
  cases hb : t.isTab with
  | false => rfl
  | true => exact (h (t.isTab_iff.1 hb)).elim
theorem yesTab {t : Tb} (w : t.wf) : t.isTab = true := t.isTab_iff.2 w
def liveK (ss : List Sl) : List Ky := (ss.filter (·.live)).map (·.key)
theorem liveK_len (ss : List Sl) : (liveK ss).length = liveN ss := List.length_map ..
theorem liveK_snoc {ss : List Sl} {i : Nat} {s : Sl} (h : ss[i]? = some s) : liveK (ss.take (i + 1)) = if s.live then liveK (ss.take i) ++ [s.key] else liveK (ss.take i) := by
  unfold liveK
  rw [take_snoc h, List.filter_append, List.map_append]
  cases hl : s.live <;> simp [hl]
theorem mem_liveK {ss : List Sl} {i : Nat} {q : Ky} : q ∈ liveK (ss.take i) ↔ ∃ (j : Nat) (u : Sl), j < i ∧ ss[j]? = some u ∧ u.live = true ∧ u.key = q := by
  unfold liveK
  simp only [List.mem_map, List.mem_filter]
  constructor
  · rintro ⟨u, ⟨hm, hl⟩, rfl⟩
    obtain ⟨j, hj, rfl⟩ := List.mem_iff_getElem.1 hm
    rw [List.length_take] at hj
    refine ⟨j, _, by omega, ?_, hl, rfl⟩
    rw [List.getElem_take]
    exact List.getElem?_eq_getElem (by omega)
  · rintro ⟨j, u, hj, hu, hl, rfl⟩
    refine ⟨u, ⟨?_, hl⟩, rfl⟩
    exact List.mem_of_getElem? (i := j) (by rw [List.getElem?_take, if_pos hj]; exact hu)
def kOk (t : Tb) (s : Sl) : Prop := keyOk s.key = true ∧ (s.key.text = true ∨ s.key.num < t.next) ∧ (s.live = true ∨ s.val.isZero = true)
/-- what is known of the first slots -/
structure preK (t : Tb) (i : Nat) : Prop where
  keys : ∀ (j : Nat) (s : Sl), j < i → t.slots[j]? = some s → kOk t s
  dist : ∀ (j q : Nat) (s u : Sl), j < i → q < j → t.slots[j]? = some s → t.slots[q]? = some u → s.live = true → u.live = true → ¬ u.key = s.key
theorem preK.zero (t : Tb) : preK t 0 := ⟨fun _ _ h => by omega, fun _ _ _ _ h => by omega⟩
theorem preK.step {t : Tb} {i : Nat} {s : Sl} (p : preK t i) (hs : t.slots[i]? = some s) (hk : kOk t s) (hd : s.live = true → s.key ∉ liveK (t.slots.take i)) : preK t (i + 1) := by
  refine ⟨fun j u hj hu => ?_, fun j q u v hj hq hu hv lu lv => ?_⟩
  · by_cases he : j = i
    · subst he
      rw [hs] at hu
      cases hu
      exact hk
    · exact p.keys j u (by omega) hu
  · by_cases he : j = i
    · subst he
      rw [hs] at hu
      cases hu
      exact fun e => hd lu (mem_liveK.2 ⟨q, v, hq, hv, lv, e⟩)
    · exact p.dist j q u v (by omega) hq hu hv lu lv
/-- what is known of the first slots of a packed table -/
def preP (t : Tb) (i : Nat) : Prop := ∀ (j : Nat) (s : Sl), j < i → t.slots[j]? = some s → s.key = ⟨false, (j : Nat), ⟨#[]⟩⟩ ∧ s.link = -1
theorem preP.zero (t : Tb) : preP t 0 := fun _ _ h => by omega
theorem preP.step {t : Tb} {i : Nat} {s : Sl} (p : preP t i) (hs : t.slots[i]? = some s) (h : s.key = ⟨false, (i : Nat), ⟨#[]⟩⟩ ∧ s.link = -1) : preP t (i + 1) := fun j u hj hu => by
  by_cases he : j = i
  · subst he
    rw [hs] at hu
    cases hu
    exact h
  · exact p j u (by omega) hu
/-- .. of a hashed one -/
def preH (t : Tb) (i : Nat) : Prop := ∀ (j : Nat) (s : Sl), j < i → t.slots[j]? = some s → (hdsN t.heads.length t.slots j)[s.key.hash % t.heads.length]? = some s.link
theorem preH.zero (t : Tb) : preH t 0 := fun _ _ h => by omega
theorem preH.step {t : Tb} {i : Nat} {s : Sl} (p : preH t i) (hs : t.slots[i]? = some s) (h : (hdsN t.heads.length t.slots i)[s.key.hash % t.heads.length]? = some s.link) : preH t (i + 1) := fun j u hj hu => by
  by_cases he : j = i
  · subst he
    rw [hs] at hu
    cases hu
    exact h
  · exact p j u (by omega) hu
theorem lt_of_get {α : Type} {l : List α} {i : Nat} {a : α} (h : l[i]? = some a) : i < l.length := (List.getElem?_eq_some_iff.1 h).1
theorem wf_packed {t : Tb} (ht : t.hashed = false) (h1 : 0 ≤ t.next ∧ t.next ≤ 1000000001) (p : preK t t.slots.length) (hc : t.count = liveN t.slots) (h2 : t.heads.length = 0) (h3 : (t.slots.length : Int) ≤ t.next) (h4 : t.slots.length ≤ 1024) (q : preP t t.slots.length) : t.wf :=
  ⟨h1, fun i s hs => p.keys i s (lt_of_get hs) hs, fun i j s u hj hs hu => p.dist i j s u (lt_of_get hs) hj hs hu, hc, fun _ => ⟨h2, h3, h4, fun i s hs => q i s (lt_of_get hs) hs⟩, fun h => by rw [ht] at h; cases h⟩
theorem wf_hashed {t : Tb} (ht : t.hashed = true) (h1 : 0 ≤ t.next ∧ t.next ≤ 1000000001) (p : preK t t.slots.length) (hc : t.count = liveN t.slots) (h2 : 8 ≤ t.heads.length ∧ t.heads.length ≤ 1024) (h3 : p2 t.heads.length = true) (h4 : t.slots.length ≤ t.heads.length) (q : preH t t.slots.length) (h5 : t.heads = hdsN t.heads.length t.slots t.slots.length) : t.wf :=
  ⟨h1, fun i s hs => p.keys i s (lt_of_get hs) hs, fun i j s u hj hs hu => p.dist i j s u (lt_of_get hs) hj hs hu, hc, fun h => (by rw [ht] at h; cases h), fun _ => ⟨h2, h3, h4, fun i s hs => q i s (lt_of_get hs) hs, h5⟩⟩
end Go.Sx
namespace Go.Sx
open Go
section
variable {P : Program} {h hB : Hp} {K : Value → Hp → Prop}
/-- The load of a slot that was there at the start. -/
theorem hsem_slotB {t b off i j : Nat} {es : List Sl} {e : Sl} {xs : List Value} (eB : Ext hB h) (ht : tyS P t = some (true, 10)) (hat : At hB ⟨b, off, none⟩ xs) (hr : RdL hB (es.flatMap Sl.dt) xs) (hi : es[i]? = some e) (hj : j = off + i * 10)
    (k : ∀ sl, RdE hB e.val.items sl → K (.agg #[.bool e.key.text, .int .i64 e.key.num, .string e.key.str, .int .i64 e.val.kind, .int .i64 e.val.num, .string e.val.str, .int .i64 e.val.next, sl, .bool e.live, .int .i64 e.link]) h) : HPure P (ldI t (.pointer (some ⟨b, j, none⟩))) h K := by
  have h1 := fm_take Sl.dt_len hi 0 10 (Nat.le_refl _)
  have r := (hr.drop (i * 10 + 0)).take 10
  rw [h1, List.drop_zero, List.take_of_length_le (by rw [Sl.dt_len]; exact Nat.le_refl _)] at r
  have hl := r.len
  obtain ⟨sl, e1, hs⟩ := RdL_slot r
  refine hsem_atN (i := i * 10 + 0) (us := [.bool e.key.text, .int .i64 e.key.num, .string e.key.str, .int .i64 e.val.kind, .int .i64 e.val.num, .string e.val.str, .int .i64 e.val.next, sl, .bool e.live, .int .i64 e.link]) ht (hat.mono eB) rfl e1 (by omega) (k sl hs)
end
end Go.Sx
namespace Go.Sx
open Go
/-! what the functions over tables return -/
def Tb.roomy (t : Tb) (k : Ky) : Bool := (t.find k).isSome || decide (liveN t.slots < 1024)
def Tb.set (t : Tb) (k : Ky) (x : V) : Tb := if t.roomy k then t.put k x else t
theorem roomy_some {t : Tb} {k : Ky} {i : Nat} (h : t.find k = some i) : t.roomy k = true := by unfold Tb.roomy; rw [h]; rfl
theorem roomy_none {t : Tb} {k : Ky} (h : t.find k = none) : t.roomy k = decide (liveN t.slots < 1024) := by unfold Tb.roomy; rw [h]; rfl
theorem set_yes {t : Tb} {k : Ky} {x : V} (h : t.roomy k = true) : t.set k x = t.put k x := if_pos h
theorem set_no {t : Tb} {k : Ky} {x : V} (h : t.roomy k = false) : t.set k x = t := if_neg (by rw [h]; simp)
def Tb.anew (t : Tb) : Tb := if t.isTab && decide (t.count < 1024) then t.build else t
theorem tab_ch {t : Tb} (h : t.isTab = true) : t.ch := (t.isTab_iff.1 h).ch
end Go.Sx
/-! The array of a table; the table of an array; how many references there are. -/
namespace Go.Sx
open Go
/-- the entries of the live slots -/
def vent (ss : List Sl) : List (Ky × V) := (ss.filter (·.live)).map fun s => (s.key, s.val)
def Tb.value (t : Tb) : V := ⟨4, 0, ⟨#[]⟩, t.next, vent t.slots⟩
/-! the table of an array -/
def tb0 : Tb := ⟨false, [], [], 0, 0⟩
theorem tb0_ch : tb0.ch := ⟨fun h => (by cases h), fun h => (by cases h), fun h => (by cases h), fun h => (by cases h), fun _ => ⟨Nat.zero_le _, fun i s hs => by simp [tb0] at hs⟩, ⟨Int.le_refl _, by decide⟩, fun i s hs => (by simp [tb0] at hs), rfl⟩
/-- some entries are set, one after the other -/
def tabL (t : Tb) : List (Ky × V) → Tb
  | [] => t
  | e :: r => tabL (t.put e.1 e.2) r
theorem build_live {t : Tb} (c : t.ch) (hl : liveN t.slots < 1024) : liveN t.build.slots ≤ liveN t.slots := by
  have w := c.build hl
  have h1 := liveN_le t.build.slots
  have h2 := w.len
  rw [List.take_length] at h2
  omega
theorem put_live {t : Tb} (c : t.ch) (k : Ky) (x : V) (hl : t.find k = none → liveN t.slots < 1024) : liveN (t.put k x).slots ≤ liveN t.slots + 1 := by
  unfold Tb.put
  split
  · unfold Tb.setVal
    split
    · rename_i s hs
      have := liveN_set hs (⟨s.key, x, s.live, s.link⟩ : Sl)
      show liveN (t.slots.take _ ++ (⟨s.key, x, s.live, s.link⟩ : Sl) :: t.slots.drop _) ≤ _
      have e : (⟨s.key, x, s.live, s.link⟩ : Sl).live = s.live := rfl
      rw [e] at this
      omega
    · omega
  · rename_i hf
    have hl := hl hf
    have h1 : liveN (t.hashIf k).slots ≤ liveN t.slots := by
      unfold Tb.hashIf
      split
      · exact build_live c hl
      · exact Nat.le_refl _
    have c1 := (c.hashIf hl k)
    have h2 : liveN ((t.hashIf k).growIf).slots ≤ liveN (t.hashIf k).slots := by
      unfold Tb.growIf
      split
      · exact build_live c1.1 c1.2.1
      · exact Nat.le_refl _
    show liveN ((((t.hashIf k).growIf).slots) ++ [_]) ≤ _
    rw [liveN_append, liveN_one]
    split <;> omega
/-- the table with another next number -/
def Tb.withN (t : Tb) (n : Int) : Tb := ⟨t.hashed, t.heads, t.slots, n, t.count⟩
def V.isArr (v : V) : Bool := v.valid && decide (v.kind = 4)
def V.table (v : V) : Tb := if v.isArr then (tabL tb0 v.items).withN v.next else tb0
/-! counts of references -/
def hit (n : Nat) (v : V) : Bool := decide (v.kind = 5) && decide (0 ≤ v.num ∧ v.num ≤ (n : Int) - 1)
def cnt1 (l : List Int) (v : V) : List Int := if hit l.length v then l.set v.num.toNat (l.getD v.num.toNat 0 + 1) else l
def cntV (l : List Int) : List V → List Int
  | [] => l
  | v :: r => cntV (cnt1 l v) r
def cntSl (l : List Int) : List Sl → List Int
  | [] => l
  | s :: r => cntSl (if s.live then cnt1 l s.val else l) r
def cntBl (l : List Int) : List Bk → List Int
  | [] => l
  | b :: r => cntBl (cntSl l b.tab.slots) r
theorem cnt1_len (l : List Int) (v : V) : (cnt1 l v).length = l.length := by
  unfold cnt1
  split
  · rw [List.length_set]
  · rfl
theorem cntV_append (p q : List V) : ∀ l, cntV l (p ++ q) = cntV (cntV l p) q := by
  induction p with
  | nil => intro l; rfl
  | cons e r ih => intro l; rw [List.cons_append, cntV, cntV, ih]
theorem cntSl_append (p q : List Sl) : ∀ l, cntSl l (p ++ q) = cntSl (cntSl l p) q := by
  induction p with
  | nil => intro l; rfl
  | cons e r ih => intro l; rw [List.cons_append, cntSl, cntSl, ih]
theorem cntBl_append (p q : List Bk) : ∀ l, cntBl l (p ++ q) = cntBl (cntBl l p) q := by
  induction p with
  | nil => intro l; rfl
  | cons e r ih => intro l; rw [List.cons_append, cntBl, cntBl, ih]
theorem cntV_snoc {l : List Int} {es : List V} {i : Nat} {e : V} (h : es[i]? = some e) : cntV l (es.take (i + 1)) = cnt1 (cntV l (es.take i)) e := by
  rw [take_snoc h, cntV_append]
  rfl
theorem cntSl_snoc {l : List Int} {es : List Sl} {i : Nat} {e : Sl} (h : es[i]? = some e) : cntSl l (es.take (i + 1)) = if e.live then cnt1 (cntSl l (es.take i)) e.val else cntSl l (es.take i) := by
  rw [take_snoc h, cntSl_append]
  rfl
theorem cntBl_snoc {l : List Int} {es : List Bk} {i : Nat} {e : Bk} (h : es[i]? = some e) : cntBl l (es.take (i + 1)) = cntSl (cntBl l (es.take i)) e.tab.slots := by
  rw [take_snoc h, cntBl_append]
  rfl
theorem cntV_len : ∀ (es : List V) (l : List Int), (cntV l es).length = l.length
  | [], _ => rfl
  | e :: r, l => by rw [cntV, cntV_len r, cnt1_len]
theorem cntSl_len : ∀ (es : List Sl) (l : List Int), (cntSl l es).length = l.length
  | [], _ => rfl
  | e :: r, l => by
    rw [cntSl, cntSl_len r]
    split
    · exact cnt1_len _ _
    · rfl
theorem cntBl_len : ∀ (es : List Bk) (l : List Int), (cntBl l es).length = l.length
  | [], _ => rfl
  | e :: r, l => by rw [cntBl, cntBl_len r, cntSl_len]
/-- the counts are small: there are few references -/
def smallC (l : List Int) (n : Nat) : Prop := ∀ x ∈ l, 0 ≤ x ∧ x ≤ (n : Int)
theorem smallC.one {l : List Int} {n : Nat} (h : smallC l n) (v : V) : smallC (cnt1 l v) (n + 1) := by
  intro x hx
  unfold cnt1 at hx
  split at hx
  · rename_i hh
    rcases List.mem_or_eq_of_mem_set hx with hx | hx
    · have := h x hx
      omega
    · have hlt : v.num.toNat < l.length := by
        unfold hit at hh
        simp only [Bool.and_eq_true, decide_eq_true_eq] at hh
        omega
      have := h _ (getD_mem (d := 0) hlt)
      omega
  · have := h x hx
    omega
theorem smallC.up {l : List Int} {n m : Nat} (h : smallC l n) (k : n ≤ m) : smallC l m := fun x hx => by
  have := h x hx
  omega
theorem smallC.vals : ∀ {es : List V} {l : List Int} {n : Nat}, smallC l n → smallC (cntV l es) (n + es.length)
  | [], _, _, h => h
  | e :: r, l, n, h => by
    have := smallC.vals (es := r) (h.one e)
    rw [cntV, List.length_cons]
    exact this.up (by omega)
theorem smallC.slots : ∀ {es : List Sl} {l : List Int} {n : Nat}, smallC l n → smallC (cntSl l es) (n + es.length)
  | [], _, _, h => h
  | e :: r, l, n, h => by
    rw [cntSl, List.length_cons]
    split
    · exact (smallC.slots (es := r) (h.one e.val)).up (by omega)
    · exact (smallC.slots (es := r) h).up (by omega)
theorem smallC.blocks : ∀ {es : List Bk} {l : List Int} {n : Nat}, smallC l n → smallC (cntBl l es) (n + szG Bk.bulk es)
  | [], _, _, h => h
  | e :: r, l, n, h => by
    have h1 := smallC.slots (es := e.tab.slots) h
    have h2 := smallC.blocks (es := r) h1
    have h3 := szG_len (w := Sl.bulk) e.tab.slots
    have e1 : Bk.bulk e = e.tab.heads.length + szG Sl.bulk e.tab.slots := rfl
    rw [cntBl, szG_cons]
    exact h2.up (by omega)
theorem smallC.zero (n : Nat) : smallC (List.replicate n 0) 0 := fun x hx => by
  rw [List.mem_replicate] at hx
  omega
/-- how many references there are to each block -/
def counts (l : List Bk) (roots : List V) : List Int := cntBl (cntV (List.replicate l.length 0) roots) l
theorem counts_len (l : List Bk) (roots : List V) : (counts l roots).length = l.length := by
  unfold counts
  rw [cntBl_len, cntV_len, List.length_replicate]
end Go.Sx
namespace Go.Sx
open Go
section
variable {P : Program} {h : Hp} {K : Value → Hp → Prop}
/-- What is loaded may be read in an earlier heap. -/
theorem hpure_base {s : Sem Value} {hB : Hp} (e : Ext hB h) (k : HPure P s hB fun v _ => K v h) : HPure P s h K := by
  obtain ⟨v, h1, h2⟩ := k
  exact ⟨v, fun w q => h1 w ⟨fun b o hb => q.vis b o (e b o hb)⟩, h2⟩
/-- The load of a block. -/
theorem hsem_blk {t b off i j : Nat} {es : List Bk} {e : Bk} {xs : List Value} (ht : tyS P t = some (true, 6)) (hat : At h ⟨b, off, none⟩ xs) (hr : RdL h (es.flatMap Bk.dt) xs) (hi : es[i]? = some e) (hj : j = off + i * 6)
    (k : ∀ s u, RdI h e.tab.heads s → RdT h e.tab.slots u → K (.agg #[.int .i64 e.count, .bool e.tab.hashed, s, u, .int .i64 e.tab.next, .int .i64 e.tab.count]) h) : HPure P (ldI t (.pointer (some ⟨b, j, none⟩))) h K :=
  hsem_row (f := Bk.dt) (o := 0) Bk.dt_len ht hat hr hi (Nat.le_refl _) (by rw [List.drop_zero, List.take_of_length_le (by rw [Bk.dt_len]; exact Nat.le_refl _)]) (by simpa using hj) fun ys r => by
    obtain ⟨s, u, rfl, hs, hu⟩ := RdL_blk r
    exact k s u hs hu
/-- The load of a block's table. -/
theorem hsem_btab {t b off i j : Nat} {es : List Bk} {e : Bk} {xs : List Value} (ht : tyS P t = some (true, 5)) (hat : At h ⟨b, off, none⟩ xs) (hr : RdL h (es.flatMap Bk.dt) xs) (hi : es[i]? = some e) (hj : j = off + i * 6 + 1)
    (k : ∀ s u, RdI h e.tab.heads s → RdT h e.tab.slots u → K (.agg #[.bool e.tab.hashed, s, u, .int .i64 e.tab.next, .int .i64 e.tab.count]) h) : HPure P (ldI t (.pointer (some ⟨b, j, none⟩))) h K :=
  hsem_row (f := Bk.dt) (o := 1) (ds := e.tab.dt) Bk.dt_len ht hat hr hi (by omega) (by simp [Bk.dt, Tb.dt]) (by omega) fun ys r => by
    obtain ⟨s, u, rfl, hs, hu⟩ := RdL_tab r
    exact k s u hs hu
/-- The load of a block's count. -/
theorem hsem_bcnt {t n b off i j : Nat} {es : List Bk} {e : Bk} {xs : List Value} (ht : tyS P t = some (false, n)) (hat : At h ⟨b, off, none⟩ xs) (hr : RdL h (es.flatMap Bk.dt) xs) (hi : es[i]? = some e) (hj : j = off + i * 6)
    (k : K (.int .i64 e.count) h) : HPure P (ldI t (.pointer (some ⟨b, j, none⟩))) h K :=
  hsem_cell (f := Bk.dt) (o := 0) (d := .raw (.int .i64 e.count)) Bk.dt_len ht hat hr hi (by omega) (by rw [Bk.dt_eq]; rfl) (by omega) fun u hu => by
    obtain ⟨rfl, _⟩ := Rd_raw.1 hu
    exact k
/-- The load of a block's slots. -/
theorem hsem_bslots {t n b off i j : Nat} {es : List Bk} {e : Bk} {xs : List Value} (ht : tyS P t = some (false, n)) (hat : At h ⟨b, off, none⟩ xs) (hr : RdL h (es.flatMap Bk.dt) xs) (hi : es[i]? = some e) (hj : j = off + i * 6 + 3)
    (k : ∀ u, RdT h e.tab.slots u → K u h) : HPure P (ldI t (.pointer (some ⟨b, j, none⟩))) h K :=
  hsem_cell (f := Bk.dt) (o := 3) (d := .row 10 (e.tab.slots.flatMap Sl.dt)) Bk.dt_len ht hat hr hi (by omega) (by rw [Bk.dt_eq]; rfl) (by omega) fun u hu => k u hu
/-- The load of a number of a slot's value. -/
theorem hsem_snum {t n b off i j : Nat} {es : List Sl} {e : Sl} {xs : List Value} (ht : tyS P t = some (false, n)) (hat : At h ⟨b, off, none⟩ xs) (hr : RdL h (es.flatMap Sl.dt) xs) (hi : es[i]? = some e) (hj : j = off + i * 10 + 4)
    (k : K (.int .i64 e.val.num) h) : HPure P (ldI t (.pointer (some ⟨b, j, none⟩))) h K :=
  hsem_cell (f := Sl.dt) (o := 4) (d := .raw (.int .i64 e.val.num)) Sl.dt_len ht hat hr hi (by omega) (by rw [Sl.dt_eq]; rfl) (by omega) fun u hu => by
    obtain ⟨rfl, _⟩ := Rd_raw.1 hu
    exact k
theorem hsem_skind {t n b off i j : Nat} {es : List Sl} {e : Sl} {xs : List Value} (ht : tyS P t = some (false, n)) (hat : At h ⟨b, off, none⟩ xs) (hr : RdL h (es.flatMap Sl.dt) xs) (hi : es[i]? = some e) (hj : j = off + i * 10 + 3)
    (k : K (.int .i64 e.val.kind) h) : HPure P (ldI t (.pointer (some ⟨b, j, none⟩))) h K :=
  hsem_cell (f := Sl.dt) (o := 3) (d := .raw (.int .i64 e.val.kind)) Sl.dt_len ht hat hr hi (by omega) (by rw [Sl.dt_eq]; rfl) (by omega) fun u hu => by
    obtain ⟨rfl, _⟩ := Rd_raw.1 hu
    exact k
end
theorem ix_int {z len b off : Nat} {n : Int} (h0 : 0 ≤ n) (hi : n.toNat < len) : ixA (some z) (some ⟨b, off, none⟩) len n = some (.pointer (some ⟨b, off + n.toNat * z, none⟩)) := by
  have := ix_nat (z := z) (b := b) (off := off) hi
  rwa [show ((n.toNat : Nat) : Int) = n by omega] at this
theorem zeros_int : ∀ n, zeros [.int .i64 0] n = (List.replicate n (0 : Int)).flatMap idt
  | 0 => rfl
  | n + 1 => by
    rw [zeros, zeros_int n, List.replicate_succ, List.flatMap_cons]
    rfl
theorem slots_bulk {l : List Bk} {i : Nat} {b : Bk} (h : l[i]? = some b) : b.tab.bulk ≤ szG Bk.bulk l := by
  have := szG_mem (w := Bk.bulk) (List.mem_of_getElem? h)
  have e : Bk.bulk b = b.tab.bulk := rfl
  omega
theorem tab_slots (t : Tb) : t.slots.length ≤ t.bulk ∧ ∀ s ∈ t.slots, s.val.bulk ≤ t.bulk ∧ s.key.str.size ≤ t.bulk := by
  refine ⟨?_, fun s hs => ?_⟩
  · have := szG_len (w := Sl.bulk) t.slots
    unfold Tb.bulk
    omega
  · have := szG_mem (w := Sl.bulk) hs
    have e : Sl.bulk s = s.key.str.size + s.val.bulk := rfl
    unfold Tb.bulk
    omega
section
variable {P : Program} {h : Hp} {K : Value → Hp → Prop}
theorem hsem_vrow {t b off i j : Nat} {es : List V} {e : V} {xs : List Value} (ht : tyS P t = some (true, 5)) (hat : At h ⟨b, off, none⟩ xs) (hr : RdL h (es.flatMap V.dt) xs) (hi : es[i]? = some e) (hj : j = off + i * 5)
    (k : ∀ sl, RdE h e.items sl → K (.agg #[.int .i64 e.kind, .int .i64 e.num, .string e.str, .int .i64 e.next, sl]) h) : HPure P (ldI t (.pointer (some ⟨b, j, none⟩))) h K :=
  hsem_row (f := V.dt) (o := 0) V.dt_len ht hat hr hi (Nat.le_refl _) (by rw [List.drop_zero, List.take_of_length_le (by rw [V.dt_len]; exact Nat.le_refl _)]) (by simpa using hj) fun ys r => by
    obtain ⟨sl, rfl, hs⟩ := RdL_val r
    exact k sl hs
theorem hsem_vkind {t n b off i j : Nat} {es : List V} {e : V} {xs : List Value} (ht : tyS P t = some (false, n)) (hat : At h ⟨b, off, none⟩ xs) (hr : RdL h (es.flatMap V.dt) xs) (hi : es[i]? = some e) (hj : j = off + i * 5)
    (k : K (.int .i64 e.kind) h) : HPure P (ldI t (.pointer (some ⟨b, j, none⟩))) h K :=
  hsem_cell (f := V.dt) (o := 0) (d := .raw (.int .i64 e.kind)) V.dt_len ht hat hr hi (by omega) (by rw [V.dt_eq]; rfl) (by omega) fun u hu => by
    obtain ⟨rfl, _⟩ := Rd_raw.1 hu
    exact k
theorem hsem_vnum {t n b off i j : Nat} {es : List V} {e : V} {xs : List Value} (ht : tyS P t = some (false, n)) (hat : At h ⟨b, off, none⟩ xs) (hr : RdL h (es.flatMap V.dt) xs) (hi : es[i]? = some e) (hj : j = off + i * 5 + 1)
    (k : K (.int .i64 e.num) h) : HPure P (ldI t (.pointer (some ⟨b, j, none⟩))) h K :=
  hsem_cell (f := V.dt) (o := 1) (d := .raw (.int .i64 e.num)) V.dt_len ht hat hr hi (by omega) (by rw [V.dt_eq]; rfl) (by omega) fun u hu => by
    obtain ⟨rfl, _⟩ := Rd_raw.1 hu
    exact k
end
end Go.Sx
namespace Go.Sx
open Go
/-! a key set in a copy -/
end Go.Sx
