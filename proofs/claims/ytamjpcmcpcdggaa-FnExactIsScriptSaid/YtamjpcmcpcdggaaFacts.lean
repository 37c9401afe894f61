/-
  The closed facts on the program's types that the abstract machine asks, each by the kernel. Written by facts.py.
-/
import Derived.Test.YtamjpcmcpcdggaaRows
import Derived.Test.YtamjpcmcpcdggaaSxBag
namespace Go.Proofs.Ytamjpcmcpcdggaa
open Go Go.Sx
theorem tyS2 : tyS Try.prog 2 = some (false, 1) := by kernel_rfl
theorem zeroC2 : zeroC Try.prog 2 = some [Value.int .i64 0] := by kernel_rfl
theorem intT2 : intT Try.prog 2 = some .i64 := by kernel_rfl
theorem tyS3 : tyS Try.prog 3 = some (false, 1) := by kernel_rfl
theorem zeroC3 : zeroC Try.prog 3 = some [Value.int .i64 0] := by kernel_rfl
theorem intT3 : intT Try.prog 3 = some .i64 := by kernel_rfl
theorem tyS4 : tyS Try.prog 4 = some (false, 1) := by kernel_rfl
theorem zeroC4 : zeroC Try.prog 4 = some [Value.bool false] := by kernel_rfl
theorem isBool4 : isBoolT Try.prog 4 = true := by kernel_rfl
theorem tyS5 : tyS Try.prog 5 = some (false, 1) := by kernel_rfl
theorem zeroC5 : zeroC Try.prog 5 = some [Value.int .u8 0] := by kernel_rfl
theorem intT5 : intT Try.prog 5 = some .u8 := by kernel_rfl
theorem tyS9 : tyS Try.prog 9 = some (false, 1) := by kernel_rfl
theorem zeroC9 : zeroC Try.prog 9 = some [Value.string ⟨#[]⟩] := by kernel_rfl
theorem isStr9 : isStr Try.prog 9 = true := by kernel_rfl
theorem lenT9 : lenT Try.prog 9 = 0 := by kernel_rfl
theorem tyS12 : tyS Try.prog 12 = some (false, 1) := by kernel_rfl
theorem zeroC12 : zeroC Try.prog 12 = some [Value.int .u64 0] := by kernel_rfl
theorem intT12 : intT Try.prog 12 = some .u64 := by kernel_rfl
theorem tyS21 : tyS Try.prog 21 = some (false, 1) := by kernel_rfl
theorem zeroC21 : zeroC Try.prog 21 = some [Value.int .i32 0] := by kernel_rfl
theorem intT21 : intT Try.prog 21 = some .i32 := by kernel_rfl
theorem tyS22 : tyS Try.prog 22 = some (false, 1) := by kernel_rfl
theorem zeroC22 : zeroC Try.prog 22 = some [Value.slice none 0 0] := by kernel_rfl
theorem elS22 : elS Try.prog 22 = some 4 := by kernel_rfl
theorem lenT22 : lenT Try.prog 22 = 1 := by kernel_rfl
theorem slT22 : slT Try.prog 22 = some ⟨24, 4, 56, [Value.int .i64 0, Value.int .i64 0, Value.string ⟨#[]⟩, Value.slice none 0 0]⟩ := by kernel_rfl
theorem tyS23 : tyS Try.prog 23 = some (true, 4) := by kernel_rfl
theorem zeroC23 : zeroC Try.prog 23 = some [Value.int .i64 0, Value.int .i64 0, Value.string ⟨#[]⟩, Value.slice none 0 0] := by kernel_rfl
theorem plcs23 : plcs Try.prog 23 = some [(0, 1), (1, 1), (2, 1), (3, 1)] := by kernel_rfl
theorem tyS24 : tyS Try.prog 24 = some (true, 4) := by kernel_rfl
theorem zeroC24 : zeroC Try.prog 24 = some [Value.int .i64 0, Value.int .i64 0, Value.string ⟨#[]⟩, Value.slice none 0 0] := by kernel_rfl
theorem plcs24 : plcs Try.prog 24 = some [(0, 1), (1, 1), (2, 1), (3, 1)] := by kernel_rfl
theorem tyS27 : tyS Try.prog 27 = some (false, 1) := by kernel_rfl
theorem zeroC27 : zeroC Try.prog 27 = some [Value.slice none 0 0] := by kernel_rfl
theorem elS27 : elS Try.prog 27 = some 4 := by kernel_rfl
theorem lenT27 : lenT Try.prog 27 = 1 := by kernel_rfl
theorem slT27 : slT Try.prog 27 = some ⟨29, 4, 56, [Value.int .i64 0, Value.int .i64 0, Value.string ⟨#[]⟩, Value.slice none 0 0]⟩ := by kernel_rfl
theorem tyS28 : tyS Try.prog 28 = some (true, 4) := by kernel_rfl
theorem zeroC28 : zeroC Try.prog 28 = some [Value.int .i64 0, Value.int .i64 0, Value.string ⟨#[]⟩, Value.slice none 0 0] := by kernel_rfl
theorem plcs28 : plcs Try.prog 28 = some [(0, 1), (1, 1), (2, 1), (3, 1)] := by kernel_rfl
theorem tyS29 : tyS Try.prog 29 = some (true, 4) := by kernel_rfl
theorem zeroC29 : zeroC Try.prog 29 = some [Value.int .i64 0, Value.int .i64 0, Value.string ⟨#[]⟩, Value.slice none 0 0] := by kernel_rfl
theorem plcs29 : plcs Try.prog 29 = some [(0, 1), (1, 1), (2, 1), (3, 1)] := by kernel_rfl
theorem tyS33 : tyS Try.prog 33 = some (false, 1) := by kernel_rfl
theorem zeroC33 : zeroC Try.prog 33 = some [Value.slice none 0 0] := by kernel_rfl
theorem elS33 : elS Try.prog 33 = some 1 := by kernel_rfl
theorem lenT33 : lenT Try.prog 33 = 1 := by kernel_rfl
theorem bytT33 : bytT Try.prog 33 = true := by kernel_rfl
theorem slT33 : slT Try.prog 33 = some ⟨5, 1, 1, [Value.int .u8 0]⟩ := by kernel_rfl
theorem tyS46 : tyS Try.prog 46 = some (false, 1) := by kernel_rfl
theorem zeroC46 : zeroC Try.prog 46 = some [Value.pointer none] := by kernel_rfl
theorem tyS61 : tyS Try.prog 61 = some (true, 3) := by kernel_rfl
theorem zeroC61 : zeroC Try.prog 61 = some [Value.slice none 0 0, Value.int .i64 0, Value.int .i64 0] := by kernel_rfl
theorem plcs61 : plcs Try.prog 61 = some [(0, 1), (1, 1), (2, 1)] := by kernel_rfl
theorem tyS62 : tyS Try.prog 62 = some (true, 3) := by kernel_rfl
theorem zeroC62 : zeroC Try.prog 62 = some [Value.slice none 0 0, Value.int .i64 0, Value.int .i64 0] := by kernel_rfl
theorem plcs62 : plcs Try.prog 62 = some [(0, 1), (1, 1), (2, 1)] := by kernel_rfl
theorem tyS66 : tyS Try.prog 66 = some (false, 1) := by kernel_rfl
theorem zeroC66 : zeroC Try.prog 66 = some [Value.slice none 0 0] := by kernel_rfl
theorem elS66 : elS Try.prog 66 = some 1 := by kernel_rfl
theorem lenT66 : lenT Try.prog 66 = 1 := by kernel_rfl
theorem slT66 : slT Try.prog 66 = some ⟨3, 1, 8, [Value.int .i64 0]⟩ := by kernel_rfl
theorem tyS68 : tyS Try.prog 68 = some (false, 1) := by kernel_rfl
theorem zeroC68 : zeroC Try.prog 68 = some [Value.slice none 0 0] := by kernel_rfl
theorem elS68 : elS Try.prog 68 = some 1 := by kernel_rfl
theorem lenT68 : lenT Try.prog 68 = 1 := by kernel_rfl
theorem slT68 : slT Try.prog 68 = some ⟨9, 1, 16, [Value.string ⟨#[]⟩]⟩ := by kernel_rfl
theorem tyS78 : tyS Try.prog 78 = some (false, 1) := by kernel_rfl
theorem zeroC78 : zeroC Try.prog 78 = some [Value.int .u64 0] := by kernel_rfl
theorem intT78 : intT Try.prog 78 = some .u64 := by kernel_rfl
theorem tyS82 : tyS Try.prog 82 = some (false, 1) := by kernel_rfl
theorem zeroC82 : zeroC Try.prog 82 = some [Value.int .u32 0] := by kernel_rfl
theorem intT82 : intT Try.prog 82 = some .u32 := by kernel_rfl
theorem tyS95 : tyS Try.prog 95 = some (false, 1) := by kernel_rfl
theorem zeroC95 : zeroC Try.prog 95 = some [Value.pointer none] := by kernel_rfl
attribute [go_sem] tyS2 zeroC2 intT2 tyS3 zeroC3 intT3 tyS4 zeroC4 isBool4 tyS5 zeroC5 intT5 tyS9 zeroC9 isStr9 lenT9 tyS12 zeroC12 intT12 tyS21 zeroC21 intT21 tyS22 zeroC22 elS22 lenT22 slT22 tyS23 zeroC23 plcs23 tyS24 zeroC24 plcs24 tyS27 zeroC27 elS27 lenT27 slT27 tyS28 zeroC28 plcs28 tyS29 zeroC29 plcs29 tyS33 zeroC33 elS33 lenT33 bytT33 slT33 tyS46 zeroC46 tyS61 zeroC61 plcs61 tyS62 zeroC62 plcs62 tyS66 zeroC66 elS66 lenT66 slT66 tyS68 zeroC68 elS68 lenT68 slT68 tyS78 zeroC78 intT78 tyS82 zeroC82 intT82 tyS95 zeroC95
end Go.Proofs.Ytamjpcmcpcdggaa
