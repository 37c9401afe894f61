/-
  The closed facts on the program's types that the abstract machine asks, each by the kernel. Written by facts.py.
-/
import Derived.Test.YtjbcokpkbfnpiaaRows
import Derived.Test.YtjbcokpkbfnpiaaSxBag
namespace Go.Proofs.Ytjbcokpkbfnpiaa
open Go Go.Sx
theorem tyS2 : tyS Try.prog 2 = some (false, 1) := by kernel_rfl
theorem zeroC2 : zeroC Try.prog 2 = some [Value.int .i64 0] := by kernel_rfl
theorem intT2 : intT Try.prog 2 = some .i64 := by kernel_rfl
theorem tyS3 : tyS Try.prog 3 = some (false, 1) := by kernel_rfl
theorem zeroC3 : zeroC Try.prog 3 = some [Value.int .i64 0] := by kernel_rfl
theorem intT3 : intT Try.prog 3 = some .i64 := by kernel_rfl
theorem tyS4 : tyS Try.prog 4 = some (false, 1) := by kernel_rfl
theorem zeroC4 : zeroC Try.prog 4 = some [Value.bool false] := by kernel_rfl
theorem isBool4 : isBoolT Try.prog 4 = true := by kernel_rfl
theorem tyS5 : tyS Try.prog 5 = some (false, 1) := by kernel_rfl
theorem zeroC5 : zeroC Try.prog 5 = some [Value.int .u8 0] := by kernel_rfl
theorem intT5 : intT Try.prog 5 = some .u8 := by kernel_rfl
theorem tyS9 : tyS Try.prog 9 = some (false, 1) := by kernel_rfl
theorem zeroC9 : zeroC Try.prog 9 = some [Value.string ⟨#[]⟩] := by kernel_rfl
theorem isStr9 : isStr Try.prog 9 = true := by kernel_rfl
theorem lenT9 : lenT Try.prog 9 = 0 := by kernel_rfl
theorem tyS12 : tyS Try.prog 12 = some (false, 1) := by kernel_rfl
theorem zeroC12 : zeroC Try.prog 12 = some [Value.int .u64 0] := by kernel_rfl
theorem intT12 : intT Try.prog 12 = some .u64 := by kernel_rfl
theorem tyS21 : tyS Try.prog 21 = some (false, 1) := by kernel_rfl
theorem zeroC21 : zeroC Try.prog 21 = some [Value.int .i32 0] := by kernel_rfl
theorem intT21 : intT Try.prog 21 = some .i32 := by kernel_rfl
theorem tyS22 : tyS Try.prog 22 = some (false, 1) := by kernel_rfl
theorem zeroC22 : zeroC Try.prog 22 = some [Value.slice none 0 0] := by kernel_rfl
theorem elS22 : elS Try.prog 22 = some 8 := by kernel_rfl
theorem lenT22 : lenT Try.prog 22 = 1 := by kernel_rfl
theorem slT22 : slT Try.prog 22 = some ⟨70, 8, 96, [Value.bool false, Value.int .i64 0, Value.string ⟨#[]⟩, Value.int .i64 0, Value.int .i64 0, Value.string ⟨#[]⟩, Value.int .i64 0, Value.slice none 0 0]⟩ := by kernel_rfl
theorem tyS23 : tyS Try.prog 23 = some (true, 5) := by kernel_rfl
theorem zeroC23 : zeroC Try.prog 23 = some [Value.int .i64 0, Value.int .i64 0, Value.string ⟨#[]⟩, Value.int .i64 0, Value.slice none 0 0] := by kernel_rfl
theorem plcs23 : plcs Try.prog 23 = some [(0, 1), (1, 1), (2, 1), (3, 1), (4, 1)] := by kernel_rfl
theorem tyS24 : tyS Try.prog 24 = some (true, 5) := by kernel_rfl
theorem zeroC24 : zeroC Try.prog 24 = some [Value.int .i64 0, Value.int .i64 0, Value.string ⟨#[]⟩, Value.int .i64 0, Value.slice none 0 0] := by kernel_rfl
theorem plcs24 : plcs Try.prog 24 = some [(0, 1), (1, 1), (2, 1), (3, 1), (4, 1)] := by kernel_rfl
theorem tyS27 : tyS Try.prog 27 = some (false, 1) := by kernel_rfl
theorem zeroC27 : zeroC Try.prog 27 = some [Value.slice none 0 0] := by kernel_rfl
theorem elS27 : elS Try.prog 27 = some 8 := by kernel_rfl
theorem lenT27 : lenT Try.prog 27 = 1 := by kernel_rfl
theorem slT27 : slT Try.prog 27 = some ⟨62, 8, 96, [Value.bool false, Value.int .i64 0, Value.string ⟨#[]⟩, Value.int .i64 0, Value.int .i64 0, Value.string ⟨#[]⟩, Value.int .i64 0, Value.slice none 0 0]⟩ := by kernel_rfl
theorem tyS28 : tyS Try.prog 28 = some (true, 5) := by kernel_rfl
theorem zeroC28 : zeroC Try.prog 28 = some [Value.int .i64 0, Value.int .i64 0, Value.string ⟨#[]⟩, Value.int .i64 0, Value.slice none 0 0] := by kernel_rfl
theorem plcs28 : plcs Try.prog 28 = some [(0, 1), (1, 1), (2, 1), (3, 1), (4, 1)] := by kernel_rfl
theorem tyS29 : tyS Try.prog 29 = some (true, 5) := by kernel_rfl
theorem zeroC29 : zeroC Try.prog 29 = some [Value.int .i64 0, Value.int .i64 0, Value.string ⟨#[]⟩, Value.int .i64 0, Value.slice none 0 0] := by kernel_rfl
theorem plcs29 : plcs Try.prog 29 = some [(0, 1), (1, 1), (2, 1), (3, 1), (4, 1)] := by kernel_rfl
theorem tyS36 : tyS Try.prog 36 = some (false, 1) := by kernel_rfl
theorem zeroC36 : zeroC Try.prog 36 = some [Value.slice none 0 0] := by kernel_rfl
theorem elS36 : elS Try.prog 36 = some 3 := by kernel_rfl
theorem lenT36 : lenT Try.prog 36 = 1 := by kernel_rfl
theorem slT36 : slT Try.prog 36 = some ⟨55, 3, 32, [Value.bool false, Value.int .i64 0, Value.string ⟨#[]⟩]⟩ := by kernel_rfl
theorem tyS40 : tyS Try.prog 40 = some (false, 1) := by kernel_rfl
theorem zeroC40 : zeroC Try.prog 40 = some [Value.slice none 0 0] := by kernel_rfl
theorem elS40 : elS Try.prog 40 = some 3 := by kernel_rfl
theorem lenT40 : lenT Try.prog 40 = 1 := by kernel_rfl
theorem slT40 : slT Try.prog 40 = some ⟨57, 3, 32, [Value.bool false, Value.int .i64 0, Value.string ⟨#[]⟩]⟩ := by kernel_rfl
theorem tyS54 : tyS Try.prog 54 = some (true, 3) := by kernel_rfl
theorem zeroC54 : zeroC Try.prog 54 = some [Value.bool false, Value.int .i64 0, Value.string ⟨#[]⟩] := by kernel_rfl
theorem plcs54 : plcs Try.prog 54 = some [(0, 1), (1, 1), (2, 1)] := by kernel_rfl
theorem keyT54 : keyT Try.prog 54 = true := by kernel_rfl
theorem tyS55 : tyS Try.prog 55 = some (true, 3) := by kernel_rfl
theorem zeroC55 : zeroC Try.prog 55 = some [Value.bool false, Value.int .i64 0, Value.string ⟨#[]⟩] := by kernel_rfl
theorem plcs55 : plcs Try.prog 55 = some [(0, 1), (1, 1), (2, 1)] := by kernel_rfl
theorem keyT55 : keyT Try.prog 55 = true := by kernel_rfl
theorem tyS57 : tyS Try.prog 57 = some (true, 3) := by kernel_rfl
theorem zeroC57 : zeroC Try.prog 57 = some [Value.bool false, Value.int .i64 0, Value.string ⟨#[]⟩] := by kernel_rfl
theorem plcs57 : plcs Try.prog 57 = some [(0, 1), (1, 1), (2, 1)] := by kernel_rfl
theorem keyT57 : keyT Try.prog 57 = true := by kernel_rfl
theorem tyS61 : tyS Try.prog 61 = some (true, 8) := by kernel_rfl
theorem zeroC61 : zeroC Try.prog 61 = some [Value.bool false, Value.int .i64 0, Value.string ⟨#[]⟩, Value.int .i64 0, Value.int .i64 0, Value.string ⟨#[]⟩, Value.int .i64 0, Value.slice none 0 0] := by kernel_rfl
theorem plcs61 : plcs Try.prog 61 = some [(0, 3), (3, 5)] := by kernel_rfl
theorem tyS62 : tyS Try.prog 62 = some (true, 8) := by kernel_rfl
theorem zeroC62 : zeroC Try.prog 62 = some [Value.bool false, Value.int .i64 0, Value.string ⟨#[]⟩, Value.int .i64 0, Value.int .i64 0, Value.string ⟨#[]⟩, Value.int .i64 0, Value.slice none 0 0] := by kernel_rfl
theorem plcs62 : plcs Try.prog 62 = some [(0, 3), (3, 5)] := by kernel_rfl
theorem tyS66 : tyS Try.prog 66 = some (false, 1) := by kernel_rfl
theorem zeroC66 : zeroC Try.prog 66 = some [Value.pointer none] := by kernel_rfl
theorem tyS69 : tyS Try.prog 69 = some (true, 8) := by kernel_rfl
theorem zeroC69 : zeroC Try.prog 69 = some [Value.bool false, Value.int .i64 0, Value.string ⟨#[]⟩, Value.int .i64 0, Value.int .i64 0, Value.string ⟨#[]⟩, Value.int .i64 0, Value.slice none 0 0] := by kernel_rfl
theorem plcs69 : plcs Try.prog 69 = some [(0, 3), (3, 5)] := by kernel_rfl
theorem tyS70 : tyS Try.prog 70 = some (true, 8) := by kernel_rfl
theorem zeroC70 : zeroC Try.prog 70 = some [Value.bool false, Value.int .i64 0, Value.string ⟨#[]⟩, Value.int .i64 0, Value.int .i64 0, Value.string ⟨#[]⟩, Value.int .i64 0, Value.slice none 0 0] := by kernel_rfl
theorem plcs70 : plcs Try.prog 70 = some [(0, 3), (3, 5)] := by kernel_rfl
theorem tyS77 : tyS Try.prog 77 = some (false, 1) := by kernel_rfl
theorem zeroC77 : zeroC Try.prog 77 = some [Value.slice none 0 0] := by kernel_rfl
theorem elS77 : elS Try.prog 77 = some 1 := by kernel_rfl
theorem lenT77 : lenT Try.prog 77 = 1 := by kernel_rfl
theorem bytT77 : bytT Try.prog 77 = true := by kernel_rfl
theorem slT77 : slT Try.prog 77 = some ⟨5, 1, 1, [Value.int .u8 0]⟩ := by kernel_rfl
theorem tyS86 : tyS Try.prog 86 = some (false, 1) := by kernel_rfl
theorem zeroC86 : zeroC Try.prog 86 = some [Value.int .u32 0] := by kernel_rfl
theorem intT86 : intT Try.prog 86 = some .u32 := by kernel_rfl
theorem tyS90 : tyS Try.prog 90 = some (false, 1) := by kernel_rfl
theorem zeroC90 : zeroC Try.prog 90 = some [Value.pointer none] := by kernel_rfl
attribute [go_sem] tyS2 zeroC2 intT2 tyS3 zeroC3 intT3 tyS4 zeroC4 isBool4 tyS5 zeroC5 intT5 tyS9 zeroC9 isStr9 lenT9 tyS12 zeroC12 intT12 tyS21 zeroC21 intT21 tyS22 zeroC22 elS22 lenT22 slT22 tyS23 zeroC23 plcs23 tyS24 zeroC24 plcs24 tyS27 zeroC27 elS27 lenT27 slT27 tyS28 zeroC28 plcs28 tyS29 zeroC29 plcs29 tyS36 zeroC36 elS36 lenT36 slT36 tyS40 zeroC40 elS40 lenT40 slT40 tyS54 zeroC54 plcs54 keyT54 tyS55 zeroC55 plcs55 keyT55 tyS57 zeroC57 plcs57 keyT57 tyS61 zeroC61 plcs61 tyS62 zeroC62 plcs62 tyS66 zeroC66 tyS69 zeroC69 plcs69 tyS70 zeroC70 plcs70 tyS77 zeroC77 elS77 lenT77 bytT77 slT77 tyS86 zeroC86 intT86 tyS90 zeroC90
end Go.Proofs.Ytjbcokpkbfnpiaa
