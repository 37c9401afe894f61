/-
  The closed facts on the program's types that the abstract machine asks, each by the kernel. Written by facts.py.
-/
import Derived.Test.YtpelbeoapmbloaaRows
import Derived.Test.YtpelbeoapmbloaaSxBag
namespace Go.Proofs.Ytpelbeoapmbloaa
open Go Go.Sx
theorem tyS2 : tyS Try.prog 2 = some (false, 1) := by kernel_rfl
theorem zeroC2 : zeroC Try.prog 2 = some [Value.int .i64 0] := by kernel_rfl
theorem intT2 : intT Try.prog 2 = some .i64 := by kernel_rfl
theorem tyS3 : tyS Try.prog 3 = some (false, 1) := by kernel_rfl
theorem zeroC3 : zeroC Try.prog 3 = some [Value.int .i64 0] := by kernel_rfl
theorem intT3 : intT Try.prog 3 = some .i64 := by kernel_rfl
theorem tyS4 : tyS Try.prog 4 = some (false, 1) := by kernel_rfl
theorem zeroC4 : zeroC Try.prog 4 = some [Value.bool false] := by kernel_rfl
theorem isBool4 : isBoolT Try.prog 4 = true := by kernel_rfl
theorem tyS5 : tyS Try.prog 5 = some (false, 1) := by kernel_rfl
theorem zeroC5 : zeroC Try.prog 5 = some [Value.int .u8 0] := by kernel_rfl
theorem intT5 : intT Try.prog 5 = some .u8 := by kernel_rfl
theorem tyS9 : tyS Try.prog 9 = some (false, 1) := by kernel_rfl
theorem zeroC9 : zeroC Try.prog 9 = some [Value.string ⟨#[]⟩] := by kernel_rfl
theorem isStr9 : isStr Try.prog 9 = true := by kernel_rfl
theorem lenT9 : lenT Try.prog 9 = 0 := by kernel_rfl
theorem tyS12 : tyS Try.prog 12 = some (false, 1) := by kernel_rfl
theorem zeroC12 : zeroC Try.prog 12 = some [Value.int .u64 0] := by kernel_rfl
theorem intT12 : intT Try.prog 12 = some .u64 := by kernel_rfl
theorem tyS21 : tyS Try.prog 21 = some (false, 1) := by kernel_rfl
theorem zeroC21 : zeroC Try.prog 21 = some [Value.int .i32 0] := by kernel_rfl
theorem intT21 : intT Try.prog 21 = some .i32 := by kernel_rfl
theorem tyS22 : tyS Try.prog 22 = some (false, 1) := by kernel_rfl
theorem zeroC22 : zeroC Try.prog 22 = some [Value.slice none 0 0] := by kernel_rfl
theorem elS22 : elS Try.prog 22 = some 1 := by kernel_rfl
theorem lenT22 : lenT Try.prog 22 = 1 := by kernel_rfl
theorem slT22 : slT Try.prog 22 = some ⟨3, 1, 8, [Value.int .i64 0]⟩ := by kernel_rfl
theorem tyS23 : tyS Try.prog 23 = some (false, 1) := by kernel_rfl
theorem zeroC23 : zeroC Try.prog 23 = some [Value.slice none 0 0] := by kernel_rfl
theorem elS23 : elS Try.prog 23 = some 10 := by kernel_rfl
theorem lenT23 : lenT Try.prog 23 = 1 := by kernel_rfl
theorem slT23 : slT Try.prog 23 = some ⟨92, 10, 112, [Value.bool false, Value.int .i64 0, Value.string ⟨#[]⟩, Value.int .i64 0, Value.int .i64 0, Value.string ⟨#[]⟩, Value.int .i64 0, Value.slice none 0 0, Value.bool false, Value.int .i64 0]⟩ := by kernel_rfl
theorem tyS24 : tyS Try.prog 24 = some (true, 5) := by kernel_rfl
theorem zeroC24 : zeroC Try.prog 24 = some [Value.bool false, Value.slice none 0 0, Value.slice none 0 0, Value.int .i64 0, Value.int .i64 0] := by kernel_rfl
theorem plcs24 : plcs Try.prog 24 = some [(0, 1), (1, 1), (2, 1), (3, 1), (4, 1)] := by kernel_rfl
theorem tyS25 : tyS Try.prog 25 = some (true, 5) := by kernel_rfl
theorem zeroC25 : zeroC Try.prog 25 = some [Value.bool false, Value.slice none 0 0, Value.slice none 0 0, Value.int .i64 0, Value.int .i64 0] := by kernel_rfl
theorem plcs25 : plcs Try.prog 25 = some [(0, 1), (1, 1), (2, 1), (3, 1), (4, 1)] := by kernel_rfl
theorem tyS27 : tyS Try.prog 27 = some (false, 1) := by kernel_rfl
theorem zeroC27 : zeroC Try.prog 27 = some [Value.slice none 0 0] := by kernel_rfl
theorem elS27 : elS Try.prog 27 = some 8 := by kernel_rfl
theorem lenT27 : lenT Try.prog 27 = 1 := by kernel_rfl
theorem slT27 : slT Try.prog 27 = some ⟨68, 8, 96, [Value.bool false, Value.int .i64 0, Value.string ⟨#[]⟩, Value.int .i64 0, Value.int .i64 0, Value.string ⟨#[]⟩, Value.int .i64 0, Value.slice none 0 0]⟩ := by kernel_rfl
theorem tyS28 : tyS Try.prog 28 = some (true, 5) := by kernel_rfl
theorem zeroC28 : zeroC Try.prog 28 = some [Value.int .i64 0, Value.int .i64 0, Value.string ⟨#[]⟩, Value.int .i64 0, Value.slice none 0 0] := by kernel_rfl
theorem plcs28 : plcs Try.prog 28 = some [(0, 1), (1, 1), (2, 1), (3, 1), (4, 1)] := by kernel_rfl
theorem tyS29 : tyS Try.prog 29 = some (true, 5) := by kernel_rfl
theorem zeroC29 : zeroC Try.prog 29 = some [Value.int .i64 0, Value.int .i64 0, Value.string ⟨#[]⟩, Value.int .i64 0, Value.slice none 0 0] := by kernel_rfl
theorem plcs29 : plcs Try.prog 29 = some [(0, 1), (1, 1), (2, 1), (3, 1), (4, 1)] := by kernel_rfl
theorem tyS31 : tyS Try.prog 31 = some (false, 1) := by kernel_rfl
theorem zeroC31 : zeroC Try.prog 31 = some [Value.slice none 0 0] := by kernel_rfl
theorem elS31 : elS Try.prog 31 = some 10 := by kernel_rfl
theorem lenT31 : lenT Try.prog 31 = 1 := by kernel_rfl
theorem slT31 : slT Try.prog 31 = some ⟨65, 10, 112, [Value.bool false, Value.int .i64 0, Value.string ⟨#[]⟩, Value.int .i64 0, Value.int .i64 0, Value.string ⟨#[]⟩, Value.int .i64 0, Value.slice none 0 0, Value.bool false, Value.int .i64 0]⟩ := by kernel_rfl
theorem tyS32 : tyS Try.prog 32 = some (true, 5) := by kernel_rfl
theorem zeroC32 : zeroC Try.prog 32 = some [Value.bool false, Value.slice none 0 0, Value.slice none 0 0, Value.int .i64 0, Value.int .i64 0] := by kernel_rfl
theorem plcs32 : plcs Try.prog 32 = some [(0, 1), (1, 1), (2, 1), (3, 1), (4, 1)] := by kernel_rfl
theorem tyS33 : tyS Try.prog 33 = some (true, 5) := by kernel_rfl
theorem zeroC33 : zeroC Try.prog 33 = some [Value.bool false, Value.slice none 0 0, Value.slice none 0 0, Value.int .i64 0, Value.int .i64 0] := by kernel_rfl
theorem plcs33 : plcs Try.prog 33 = some [(0, 1), (1, 1), (2, 1), (3, 1), (4, 1)] := by kernel_rfl
theorem tyS40 : tyS Try.prog 40 = some (false, 1) := by kernel_rfl
theorem zeroC40 : zeroC Try.prog 40 = some [Value.slice none 0 0] := by kernel_rfl
theorem elS40 : elS Try.prog 40 = some 6 := by kernel_rfl
theorem lenT40 : lenT Try.prog 40 = 1 := by kernel_rfl
theorem slT40 : slT Try.prog 40 = some ⟨98, 6, 80, [Value.int .i64 0, Value.bool false, Value.slice none 0 0, Value.slice none 0 0, Value.int .i64 0, Value.int .i64 0]⟩ := by kernel_rfl
theorem tyS41 : tyS Try.prog 41 = some (true, 1) := by kernel_rfl
theorem zeroC41 : zeroC Try.prog 41 = some [Value.slice none 0 0] := by kernel_rfl
theorem plcs41 : plcs Try.prog 41 = some [(0, 1)] := by kernel_rfl
theorem tyS42 : tyS Try.prog 42 = some (true, 1) := by kernel_rfl
theorem zeroC42 : zeroC Try.prog 42 = some [Value.slice none 0 0] := by kernel_rfl
theorem plcs42 : plcs Try.prog 42 = some [(0, 1)] := by kernel_rfl
theorem tyS43 : tyS Try.prog 43 = some (false, 1) := by kernel_rfl
theorem zeroC43 : zeroC Try.prog 43 = some [Value.slice none 0 0] := by kernel_rfl
theorem elS43 : elS Try.prog 43 = some 5 := by kernel_rfl
theorem lenT43 : lenT Try.prog 43 = 1 := by kernel_rfl
theorem slT43 : slT Try.prog 43 = some ⟨79, 5, 64, [Value.int .i64 0, Value.int .i64 0, Value.string ⟨#[]⟩, Value.int .i64 0, Value.slice none 0 0]⟩ := by kernel_rfl
theorem tyS47 : tyS Try.prog 47 = some (false, 1) := by kernel_rfl
theorem zeroC47 : zeroC Try.prog 47 = some [Value.slice none 0 0] := by kernel_rfl
theorem elS47 : elS Try.prog 47 = some 6 := by kernel_rfl
theorem lenT47 : lenT Try.prog 47 = 1 := by kernel_rfl
theorem slT47 : slT Try.prog 47 = some ⟨85, 6, 80, [Value.int .i64 0, Value.bool false, Value.slice none 0 0, Value.slice none 0 0, Value.int .i64 0, Value.int .i64 0]⟩ := by kernel_rfl
theorem tyS48 : tyS Try.prog 48 = some (true, 1) := by kernel_rfl
theorem zeroC48 : zeroC Try.prog 48 = some [Value.slice none 0 0] := by kernel_rfl
theorem plcs48 : plcs Try.prog 48 = some [(0, 1)] := by kernel_rfl
theorem tyS49 : tyS Try.prog 49 = some (true, 1) := by kernel_rfl
theorem zeroC49 : zeroC Try.prog 49 = some [Value.slice none 0 0] := by kernel_rfl
theorem plcs49 : plcs Try.prog 49 = some [(0, 1)] := by kernel_rfl
theorem tyS51 : tyS Try.prog 51 = some (false, 1) := by kernel_rfl
theorem zeroC51 : zeroC Try.prog 51 = some [Value.slice none 0 0] := by kernel_rfl
theorem elS51 : elS Try.prog 51 = some 5 := by kernel_rfl
theorem lenT51 : lenT Try.prog 51 = 1 := by kernel_rfl
theorem slT51 : slT Try.prog 51 = some ⟨29, 5, 64, [Value.int .i64 0, Value.int .i64 0, Value.string ⟨#[]⟩, Value.int .i64 0, Value.slice none 0 0]⟩ := by kernel_rfl
theorem tyS62 : tyS Try.prog 62 = some (true, 3) := by kernel_rfl
theorem zeroC62 : zeroC Try.prog 62 = some [Value.bool false, Value.int .i64 0, Value.string ⟨#[]⟩] := by kernel_rfl
theorem plcs62 : plcs Try.prog 62 = some [(0, 1), (1, 1), (2, 1)] := by kernel_rfl
theorem keyT62 : keyT Try.prog 62 = true := by kernel_rfl
theorem tyS63 : tyS Try.prog 63 = some (true, 3) := by kernel_rfl
theorem zeroC63 : zeroC Try.prog 63 = some [Value.bool false, Value.int .i64 0, Value.string ⟨#[]⟩] := by kernel_rfl
theorem plcs63 : plcs Try.prog 63 = some [(0, 1), (1, 1), (2, 1)] := by kernel_rfl
theorem keyT63 : keyT Try.prog 63 = true := by kernel_rfl
theorem tyS64 : tyS Try.prog 64 = some (true, 10) := by kernel_rfl
theorem zeroC64 : zeroC Try.prog 64 = some [Value.bool false, Value.int .i64 0, Value.string ⟨#[]⟩, Value.int .i64 0, Value.int .i64 0, Value.string ⟨#[]⟩, Value.int .i64 0, Value.slice none 0 0, Value.bool false, Value.int .i64 0] := by kernel_rfl
theorem plcs64 : plcs Try.prog 64 = some [(0, 3), (3, 5), (8, 1), (9, 1)] := by kernel_rfl
theorem tyS65 : tyS Try.prog 65 = some (true, 10) := by kernel_rfl
theorem zeroC65 : zeroC Try.prog 65 = some [Value.bool false, Value.int .i64 0, Value.string ⟨#[]⟩, Value.int .i64 0, Value.int .i64 0, Value.string ⟨#[]⟩, Value.int .i64 0, Value.slice none 0 0, Value.bool false, Value.int .i64 0] := by kernel_rfl
theorem plcs65 : plcs Try.prog 65 = some [(0, 3), (3, 5), (8, 1), (9, 1)] := by kernel_rfl
theorem tyS67 : tyS Try.prog 67 = some (true, 8) := by kernel_rfl
theorem zeroC67 : zeroC Try.prog 67 = some [Value.bool false, Value.int .i64 0, Value.string ⟨#[]⟩, Value.int .i64 0, Value.int .i64 0, Value.string ⟨#[]⟩, Value.int .i64 0, Value.slice none 0 0] := by kernel_rfl
theorem plcs67 : plcs Try.prog 67 = some [(0, 3), (3, 5)] := by kernel_rfl
theorem tyS68 : tyS Try.prog 68 = some (true, 8) := by kernel_rfl
theorem zeroC68 : zeroC Try.prog 68 = some [Value.bool false, Value.int .i64 0, Value.string ⟨#[]⟩, Value.int .i64 0, Value.int .i64 0, Value.string ⟨#[]⟩, Value.int .i64 0, Value.slice none 0 0] := by kernel_rfl
theorem plcs68 : plcs Try.prog 68 = some [(0, 3), (3, 5)] := by kernel_rfl
theorem tyS77 : tyS Try.prog 77 = some (false, 1) := by kernel_rfl
theorem zeroC77 : zeroC Try.prog 77 = some [Value.slice none 0 0] := by kernel_rfl
theorem elS77 : elS Try.prog 77 = some 8 := by kernel_rfl
theorem lenT77 : lenT Try.prog 77 = 1 := by kernel_rfl
theorem slT77 : slT Try.prog 77 = some ⟨109, 8, 96, [Value.bool false, Value.int .i64 0, Value.string ⟨#[]⟩, Value.int .i64 0, Value.int .i64 0, Value.string ⟨#[]⟩, Value.int .i64 0, Value.slice none 0 0]⟩ := by kernel_rfl
theorem tyS78 : tyS Try.prog 78 = some (true, 5) := by kernel_rfl
theorem zeroC78 : zeroC Try.prog 78 = some [Value.int .i64 0, Value.int .i64 0, Value.string ⟨#[]⟩, Value.int .i64 0, Value.slice none 0 0] := by kernel_rfl
theorem plcs78 : plcs Try.prog 78 = some [(0, 1), (1, 1), (2, 1), (3, 1), (4, 1)] := by kernel_rfl
theorem tyS79 : tyS Try.prog 79 = some (true, 5) := by kernel_rfl
theorem zeroC79 : zeroC Try.prog 79 = some [Value.int .i64 0, Value.int .i64 0, Value.string ⟨#[]⟩, Value.int .i64 0, Value.slice none 0 0] := by kernel_rfl
theorem plcs79 : plcs Try.prog 79 = some [(0, 1), (1, 1), (2, 1), (3, 1), (4, 1)] := by kernel_rfl
theorem tyS84 : tyS Try.prog 84 = some (true, 6) := by kernel_rfl
theorem zeroC84 : zeroC Try.prog 84 = some [Value.int .i64 0, Value.bool false, Value.slice none 0 0, Value.slice none 0 0, Value.int .i64 0, Value.int .i64 0] := by kernel_rfl
theorem plcs84 : plcs Try.prog 84 = some [(0, 1), (1, 5)] := by kernel_rfl
theorem tyS85 : tyS Try.prog 85 = some (true, 6) := by kernel_rfl
theorem zeroC85 : zeroC Try.prog 85 = some [Value.int .i64 0, Value.bool false, Value.slice none 0 0, Value.slice none 0 0, Value.int .i64 0, Value.int .i64 0] := by kernel_rfl
theorem plcs85 : plcs Try.prog 85 = some [(0, 1), (1, 5)] := by kernel_rfl
theorem tyS90 : tyS Try.prog 90 = some (true, 3) := by kernel_rfl
theorem zeroC90 : zeroC Try.prog 90 = some [Value.bool false, Value.int .i64 0, Value.string ⟨#[]⟩] := by kernel_rfl
theorem plcs90 : plcs Try.prog 90 = some [(0, 1), (1, 1), (2, 1)] := by kernel_rfl
theorem keyT90 : keyT Try.prog 90 = true := by kernel_rfl
theorem tyS91 : tyS Try.prog 91 = some (true, 10) := by kernel_rfl
theorem zeroC91 : zeroC Try.prog 91 = some [Value.bool false, Value.int .i64 0, Value.string ⟨#[]⟩, Value.int .i64 0, Value.int .i64 0, Value.string ⟨#[]⟩, Value.int .i64 0, Value.slice none 0 0, Value.bool false, Value.int .i64 0] := by kernel_rfl
theorem plcs91 : plcs Try.prog 91 = some [(0, 3), (3, 5), (8, 1), (9, 1)] := by kernel_rfl
theorem tyS92 : tyS Try.prog 92 = some (true, 10) := by kernel_rfl
theorem zeroC92 : zeroC Try.prog 92 = some [Value.bool false, Value.int .i64 0, Value.string ⟨#[]⟩, Value.int .i64 0, Value.int .i64 0, Value.string ⟨#[]⟩, Value.int .i64 0, Value.slice none 0 0, Value.bool false, Value.int .i64 0] := by kernel_rfl
theorem plcs92 : plcs Try.prog 92 = some [(0, 3), (3, 5), (8, 1), (9, 1)] := by kernel_rfl
theorem tyS97 : tyS Try.prog 97 = some (true, 6) := by kernel_rfl
theorem zeroC97 : zeroC Try.prog 97 = some [Value.int .i64 0, Value.bool false, Value.slice none 0 0, Value.slice none 0 0, Value.int .i64 0, Value.int .i64 0] := by kernel_rfl
theorem plcs97 : plcs Try.prog 97 = some [(0, 1), (1, 5)] := by kernel_rfl
theorem tyS98 : tyS Try.prog 98 = some (true, 6) := by kernel_rfl
theorem zeroC98 : zeroC Try.prog 98 = some [Value.int .i64 0, Value.bool false, Value.slice none 0 0, Value.slice none 0 0, Value.int .i64 0, Value.int .i64 0] := by kernel_rfl
theorem plcs98 : plcs Try.prog 98 = some [(0, 1), (1, 5)] := by kernel_rfl
theorem tyS103 : tyS Try.prog 103 = some (false, 1) := by kernel_rfl
theorem zeroC103 : zeroC Try.prog 103 = some [Value.slice none 0 0] := by kernel_rfl
theorem elS103 : elS Try.prog 103 = some 1 := by kernel_rfl
theorem lenT103 : lenT Try.prog 103 = 1 := by kernel_rfl
theorem bytT103 : bytT Try.prog 103 = true := by kernel_rfl
theorem slT103 : slT Try.prog 103 = some ⟨5, 1, 1, [Value.int .u8 0]⟩ := by kernel_rfl
theorem tyS108 : tyS Try.prog 108 = some (true, 8) := by kernel_rfl
theorem zeroC108 : zeroC Try.prog 108 = some [Value.bool false, Value.int .i64 0, Value.string ⟨#[]⟩, Value.int .i64 0, Value.int .i64 0, Value.string ⟨#[]⟩, Value.int .i64 0, Value.slice none 0 0] := by kernel_rfl
theorem plcs108 : plcs Try.prog 108 = some [(0, 3), (3, 5)] := by kernel_rfl
theorem tyS109 : tyS Try.prog 109 = some (true, 8) := by kernel_rfl
theorem zeroC109 : zeroC Try.prog 109 = some [Value.bool false, Value.int .i64 0, Value.string ⟨#[]⟩, Value.int .i64 0, Value.int .i64 0, Value.string ⟨#[]⟩, Value.int .i64 0, Value.slice none 0 0] := by kernel_rfl
theorem plcs109 : plcs Try.prog 109 = some [(0, 3), (3, 5)] := by kernel_rfl
theorem tyS118 : tyS Try.prog 118 = some (false, 1) := by kernel_rfl
theorem zeroC118 : zeroC Try.prog 118 = some [Value.int .u32 0] := by kernel_rfl
theorem intT118 : intT Try.prog 118 = some .u32 := by kernel_rfl
theorem tyS122 : tyS Try.prog 122 = some (false, 1) := by kernel_rfl
theorem zeroC122 : zeroC Try.prog 122 = some [Value.pointer none] := by kernel_rfl
attribute [go_sem] tyS2 zeroC2 intT2 tyS3 zeroC3 intT3 tyS4 zeroC4 isBool4 tyS5 zeroC5 intT5 tyS9 zeroC9 isStr9 lenT9 tyS12 zeroC12 intT12 tyS21 zeroC21 intT21 tyS22 zeroC22 elS22 lenT22 slT22 tyS23 zeroC23 elS23 lenT23 slT23 tyS24 zeroC24 plcs24 tyS25 zeroC25 plcs25 tyS27 zeroC27 elS27 lenT27 slT27 tyS28 zeroC28 plcs28 tyS29 zeroC29 plcs29 tyS31 zeroC31 elS31 lenT31 slT31 tyS32 zeroC32 plcs32 tyS33 zeroC33 plcs33 tyS40 zeroC40 elS40 lenT40 slT40 tyS41 zeroC41 plcs41 tyS42 zeroC42 plcs42 tyS43 zeroC43 elS43 lenT43 slT43 tyS47 zeroC47 elS47 lenT47 slT47 tyS48 zeroC48 plcs48 tyS49 zeroC49 plcs49 tyS51 zeroC51 elS51 lenT51 slT51 tyS62 zeroC62 plcs62 keyT62 tyS63 zeroC63 plcs63 keyT63 tyS64 zeroC64 plcs64 tyS65 zeroC65 plcs65 tyS67 zeroC67 plcs67 tyS68 zeroC68 plcs68 tyS77 zeroC77 elS77 lenT77 slT77 tyS78 zeroC78 plcs78 tyS79 zeroC79 plcs79 tyS84 zeroC84 plcs84 tyS85 zeroC85 plcs85 tyS90 zeroC90 plcs90 keyT90 tyS91 zeroC91 plcs91 tyS92 zeroC92 plcs92 tyS97 zeroC97 plcs97 tyS98 zeroC98 plcs98 tyS103 zeroC103 elS103 lenT103 bytT103 slT103 tyS108 zeroC108 plcs108 tyS109 zeroC109 plcs109 tyS118 zeroC118 intT118 tyS122 zeroC122
end Go.Proofs.Ytpelbeoapmbloaa
