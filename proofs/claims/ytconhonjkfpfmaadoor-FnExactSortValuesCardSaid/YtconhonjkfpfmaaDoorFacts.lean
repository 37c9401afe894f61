/-
  The closed facts on the program's types that the abstract machine asks, each by the kernel. Written by facts.py.
-/
import Derived.Test.YtconhonjkfpfmaaDoorRows
import Derived.Test.YtconhonjkfpfmaaDoorSxBag
namespace Go.Proofs.YtconhonjkfpfmaaDoor
open Go Go.Sx
theorem tyS2 : tyS Tryd.prog 2 = some (false, 1) := by kernel_rfl
theorem zeroC2 : zeroC Tryd.prog 2 = some [Value.int .i64 0] := by kernel_rfl
theorem intT2 : intT Tryd.prog 2 = some .i64 := by kernel_rfl
theorem tyS3 : tyS Tryd.prog 3 = some (false, 1) := by kernel_rfl
theorem zeroC3 : zeroC Tryd.prog 3 = some [Value.int .i64 0] := by kernel_rfl
theorem intT3 : intT Tryd.prog 3 = some .i64 := by kernel_rfl
theorem tyS4 : tyS Tryd.prog 4 = some (false, 1) := by kernel_rfl
theorem zeroC4 : zeroC Tryd.prog 4 = some [Value.bool false] := by kernel_rfl
theorem isBool4 : isBoolT Tryd.prog 4 = true := by kernel_rfl
theorem tyS5 : tyS Tryd.prog 5 = some (false, 1) := by kernel_rfl
theorem zeroC5 : zeroC Tryd.prog 5 = some [Value.int .u8 0] := by kernel_rfl
theorem intT5 : intT Tryd.prog 5 = some .u8 := by kernel_rfl
theorem tyS9 : tyS Tryd.prog 9 = some (false, 1) := by kernel_rfl
theorem zeroC9 : zeroC Tryd.prog 9 = some [Value.string ⟨#[]⟩] := by kernel_rfl
theorem isStr9 : isStr Tryd.prog 9 = true := by kernel_rfl
theorem lenT9 : lenT Tryd.prog 9 = 0 := by kernel_rfl
theorem tyS12 : tyS Tryd.prog 12 = some (false, 1) := by kernel_rfl
theorem zeroC12 : zeroC Tryd.prog 12 = some [Value.int .u64 0] := by kernel_rfl
theorem intT12 : intT Tryd.prog 12 = some .u64 := by kernel_rfl
theorem tyS21 : tyS Tryd.prog 21 = some (false, 1) := by kernel_rfl
theorem zeroC21 : zeroC Tryd.prog 21 = some [Value.int .i32 0] := by kernel_rfl
theorem intT21 : intT Tryd.prog 21 = some .i32 := by kernel_rfl
theorem tyS22 : tyS Tryd.prog 22 = some (false, 1) := by kernel_rfl
theorem zeroC22 : zeroC Tryd.prog 22 = some [Value.slice none 0 0] := by kernel_rfl
theorem elS22 : elS Tryd.prog 22 = some 1 := by kernel_rfl
theorem lenT22 : lenT Tryd.prog 22 = 1 := by kernel_rfl
theorem bytT22 : bytT Tryd.prog 22 = true := by kernel_rfl
theorem slT22 : slT Tryd.prog 22 = some ⟨5, 1, 1, [Value.int .u8 0]⟩ := by kernel_rfl
theorem tyS24 : tyS Tryd.prog 24 = some (false, 1) := by kernel_rfl
theorem zeroC24 : zeroC Tryd.prog 24 = some [Value.slice none 0 0] := by kernel_rfl
theorem elS24 : elS Tryd.prog 24 = some 8 := by kernel_rfl
theorem lenT24 : lenT Tryd.prog 24 = 1 := by kernel_rfl
theorem slT24 : slT Tryd.prog 24 = some ⟨69, 8, 96, [Value.bool false, Value.int .i64 0, Value.string ⟨#[]⟩, Value.int .i64 0, Value.int .i64 0, Value.string ⟨#[]⟩, Value.int .i64 0, Value.slice none 0 0]⟩ := by kernel_rfl
theorem tyS25 : tyS Tryd.prog 25 = some (true, 5) := by kernel_rfl
theorem zeroC25 : zeroC Tryd.prog 25 = some [Value.int .i64 0, Value.int .i64 0, Value.string ⟨#[]⟩, Value.int .i64 0, Value.slice none 0 0] := by kernel_rfl
theorem plcs25 : plcs Tryd.prog 25 = some [(0, 1), (1, 1), (2, 1), (3, 1), (4, 1)] := by kernel_rfl
theorem tyS26 : tyS Tryd.prog 26 = some (true, 5) := by kernel_rfl
theorem zeroC26 : zeroC Tryd.prog 26 = some [Value.int .i64 0, Value.int .i64 0, Value.string ⟨#[]⟩, Value.int .i64 0, Value.slice none 0 0] := by kernel_rfl
theorem plcs26 : plcs Tryd.prog 26 = some [(0, 1), (1, 1), (2, 1), (3, 1), (4, 1)] := by kernel_rfl
theorem tyS39 : tyS Tryd.prog 39 = some (true, 3) := by kernel_rfl
theorem zeroC39 : zeroC Tryd.prog 39 = some [Value.bool false, Value.int .i64 0, Value.string ⟨#[]⟩] := by kernel_rfl
theorem plcs39 : plcs Tryd.prog 39 = some [(0, 1), (1, 1), (2, 1)] := by kernel_rfl
theorem keyT39 : keyT Tryd.prog 39 = true := by kernel_rfl
theorem tyS40 : tyS Tryd.prog 40 = some (true, 3) := by kernel_rfl
theorem zeroC40 : zeroC Tryd.prog 40 = some [Value.bool false, Value.int .i64 0, Value.string ⟨#[]⟩] := by kernel_rfl
theorem plcs40 : plcs Tryd.prog 40 = some [(0, 1), (1, 1), (2, 1)] := by kernel_rfl
theorem keyT40 : keyT Tryd.prog 40 = true := by kernel_rfl
theorem tyS54 : tyS Tryd.prog 54 = some (false, 1) := by kernel_rfl
theorem zeroC54 : zeroC Tryd.prog 54 = some [Value.slice none 0 0] := by kernel_rfl
theorem elS54 : elS Tryd.prog 54 = some 5 := by kernel_rfl
theorem lenT54 : lenT Tryd.prog 54 = 1 := by kernel_rfl
theorem slT54 : slT Tryd.prog 54 = some ⟨88, 5, 64, [Value.int .i64 0, Value.int .i64 0, Value.string ⟨#[]⟩, Value.int .i64 0, Value.slice none 0 0]⟩ := by kernel_rfl
theorem tyS56 : tyS Tryd.prog 56 = some (false, 1) := by kernel_rfl
theorem zeroC56 : zeroC Tryd.prog 56 = some [Value.slice none 0 0] := by kernel_rfl
theorem elS56 : elS Tryd.prog 56 = some 5 := by kernel_rfl
theorem lenT56 : lenT Tryd.prog 56 = 1 := by kernel_rfl
theorem slT56 : slT Tryd.prog 56 = some ⟨26, 5, 64, [Value.int .i64 0, Value.int .i64 0, Value.string ⟨#[]⟩, Value.int .i64 0, Value.slice none 0 0]⟩ := by kernel_rfl
theorem tyS62 : tyS Tryd.prog 62 = some (false, 1) := by kernel_rfl
theorem zeroC62 : zeroC Tryd.prog 62 = some [Value.pointer none] := by kernel_rfl
theorem tyS68 : tyS Tryd.prog 68 = some (true, 8) := by kernel_rfl
theorem zeroC68 : zeroC Tryd.prog 68 = some [Value.bool false, Value.int .i64 0, Value.string ⟨#[]⟩, Value.int .i64 0, Value.int .i64 0, Value.string ⟨#[]⟩, Value.int .i64 0, Value.slice none 0 0] := by kernel_rfl
theorem plcs68 : plcs Tryd.prog 68 = some [(0, 3), (3, 5)] := by kernel_rfl
theorem tyS69 : tyS Tryd.prog 69 = some (true, 8) := by kernel_rfl
theorem zeroC69 : zeroC Tryd.prog 69 = some [Value.bool false, Value.int .i64 0, Value.string ⟨#[]⟩, Value.int .i64 0, Value.int .i64 0, Value.string ⟨#[]⟩, Value.int .i64 0, Value.slice none 0 0] := by kernel_rfl
theorem plcs69 : plcs Tryd.prog 69 = some [(0, 3), (3, 5)] := by kernel_rfl
theorem tyS80 : tyS Tryd.prog 80 = some (false, 1) := by kernel_rfl
theorem zeroC80 : zeroC Tryd.prog 80 = some [Value.slice none 0 0] := by kernel_rfl
theorem elS80 : elS Tryd.prog 80 = some 1 := by kernel_rfl
theorem lenT80 : lenT Tryd.prog 80 = 1 := by kernel_rfl
theorem slT80 : slT Tryd.prog 80 = some ⟨9, 1, 16, [Value.string ⟨#[]⟩]⟩ := by kernel_rfl
theorem tyS86 : tyS Tryd.prog 86 = some (false, 1) := by kernel_rfl
theorem zeroC86 : zeroC Tryd.prog 86 = some [Value.slice none 0 0] := by kernel_rfl
theorem elS86 : elS Tryd.prog 86 = some 8 := by kernel_rfl
theorem lenT86 : lenT Tryd.prog 86 = 1 := by kernel_rfl
theorem slT86 : slT Tryd.prog 86 = some ⟨115, 8, 96, [Value.bool false, Value.int .i64 0, Value.string ⟨#[]⟩, Value.int .i64 0, Value.int .i64 0, Value.string ⟨#[]⟩, Value.int .i64 0, Value.slice none 0 0]⟩ := by kernel_rfl
theorem tyS87 : tyS Tryd.prog 87 = some (true, 5) := by kernel_rfl
theorem zeroC87 : zeroC Tryd.prog 87 = some [Value.int .i64 0, Value.int .i64 0, Value.string ⟨#[]⟩, Value.int .i64 0, Value.slice none 0 0] := by kernel_rfl
theorem plcs87 : plcs Tryd.prog 87 = some [(0, 1), (1, 1), (2, 1), (3, 1), (4, 1)] := by kernel_rfl
theorem tyS88 : tyS Tryd.prog 88 = some (true, 5) := by kernel_rfl
theorem zeroC88 : zeroC Tryd.prog 88 = some [Value.int .i64 0, Value.int .i64 0, Value.string ⟨#[]⟩, Value.int .i64 0, Value.slice none 0 0] := by kernel_rfl
theorem plcs88 : plcs Tryd.prog 88 = some [(0, 1), (1, 1), (2, 1), (3, 1), (4, 1)] := by kernel_rfl
theorem tyS93 : tyS Tryd.prog 93 = some (true, 3) := by kernel_rfl
theorem zeroC93 : zeroC Tryd.prog 93 = some [Value.slice none 0 0, Value.int .i64 0, Value.int .i64 0] := by kernel_rfl
theorem plcs93 : plcs Tryd.prog 93 = some [(0, 1), (1, 1), (2, 1)] := by kernel_rfl
theorem tyS94 : tyS Tryd.prog 94 = some (true, 3) := by kernel_rfl
theorem zeroC94 : zeroC Tryd.prog 94 = some [Value.slice none 0 0, Value.int .i64 0, Value.int .i64 0] := by kernel_rfl
theorem plcs94 : plcs Tryd.prog 94 = some [(0, 1), (1, 1), (2, 1)] := by kernel_rfl
theorem tyS99 : tyS Tryd.prog 99 = some (false, 1) := by kernel_rfl
theorem zeroC99 : zeroC Tryd.prog 99 = some [Value.slice none 0 0] := by kernel_rfl
theorem elS99 : elS Tryd.prog 99 = some 1 := by kernel_rfl
theorem lenT99 : lenT Tryd.prog 99 = 1 := by kernel_rfl
theorem slT99 : slT Tryd.prog 99 = some ⟨3, 1, 8, [Value.int .i64 0]⟩ := by kernel_rfl
theorem tyS104 : tyS Tryd.prog 104 = some (false, 1) := by kernel_rfl
theorem zeroC104 : zeroC Tryd.prog 104 = some [Value.pointer none] := by kernel_rfl
theorem tyS111 : tyS Tryd.prog 111 = some (false, 1) := by kernel_rfl
theorem zeroC111 : zeroC Tryd.prog 111 = some [Value.int .u64 0] := by kernel_rfl
theorem intT111 : intT Tryd.prog 111 = some .u64 := by kernel_rfl
theorem tyS113 : tyS Tryd.prog 113 = some (true, 3) := by kernel_rfl
theorem zeroC113 : zeroC Tryd.prog 113 = some [Value.bool false, Value.int .i64 0, Value.string ⟨#[]⟩] := by kernel_rfl
theorem plcs113 : plcs Tryd.prog 113 = some [(0, 1), (1, 1), (2, 1)] := by kernel_rfl
theorem keyT113 : keyT Tryd.prog 113 = true := by kernel_rfl
theorem tyS114 : tyS Tryd.prog 114 = some (true, 8) := by kernel_rfl
theorem zeroC114 : zeroC Tryd.prog 114 = some [Value.bool false, Value.int .i64 0, Value.string ⟨#[]⟩, Value.int .i64 0, Value.int .i64 0, Value.string ⟨#[]⟩, Value.int .i64 0, Value.slice none 0 0] := by kernel_rfl
theorem plcs114 : plcs Tryd.prog 114 = some [(0, 3), (3, 5)] := by kernel_rfl
theorem tyS115 : tyS Tryd.prog 115 = some (true, 8) := by kernel_rfl
theorem zeroC115 : zeroC Tryd.prog 115 = some [Value.bool false, Value.int .i64 0, Value.string ⟨#[]⟩, Value.int .i64 0, Value.int .i64 0, Value.string ⟨#[]⟩, Value.int .i64 0, Value.slice none 0 0] := by kernel_rfl
theorem plcs115 : plcs Tryd.prog 115 = some [(0, 3), (3, 5)] := by kernel_rfl
theorem tyS125 : tyS Tryd.prog 125 = some (false, 1) := by kernel_rfl
theorem zeroC125 : zeroC Tryd.prog 125 = some [Value.map none] := by kernel_rfl
theorem lenT125 : lenT Tryd.prog 125 = 2 := by kernel_rfl
theorem tyS132 : tyS Tryd.prog 132 = some (false, 1) := by kernel_rfl
theorem zeroC132 : zeroC Tryd.prog 132 = some [Value.int .u64 0] := by kernel_rfl
theorem intT132 : intT Tryd.prog 132 = some .u64 := by kernel_rfl
theorem tyS140 : tyS Tryd.prog 140 = some (false, 1) := by kernel_rfl
theorem zeroC140 : zeroC Tryd.prog 140 = some [Value.int .u32 0] := by kernel_rfl
theorem intT140 : intT Tryd.prog 140 = some .u32 := by kernel_rfl
theorem tyS147 : tyS Tryd.prog 147 = some (false, 1) := by kernel_rfl
theorem zeroC147 : zeroC Tryd.prog 147 = some [Value.pointer none] := by kernel_rfl
theorem tyS154 : tyS Tryd.prog 154 = some (true, 3) := by kernel_rfl
theorem zeroC154 : zeroC Tryd.prog 154 = some [Value.string ⟨#[]⟩, Value.string ⟨#[]⟩, Value.nilIface] := by kernel_rfl
theorem plcs154 : plcs Tryd.prog 154 = some [(0, 1), (1, 1), (2, 1)] := by kernel_rfl
theorem tyS155 : tyS Tryd.prog 155 = some (true, 3) := by kernel_rfl
theorem zeroC155 : zeroC Tryd.prog 155 = some [Value.string ⟨#[]⟩, Value.string ⟨#[]⟩, Value.nilIface] := by kernel_rfl
theorem plcs155 : plcs Tryd.prog 155 = some [(0, 1), (1, 1), (2, 1)] := by kernel_rfl
theorem tyS160 : tyS Tryd.prog 160 = some (false, 1) := by kernel_rfl
theorem zeroC160 : zeroC Tryd.prog 160 = some [Value.pointer none] := by kernel_rfl
theorem tyS161 : tyS Tryd.prog 161 = some (false, 1) := by kernel_rfl
theorem zeroC161 : zeroC Tryd.prog 161 = some [Value.pointer none] := by kernel_rfl
theorem tyS162 : tyS Tryd.prog 162 = some (true, 1) := by kernel_rfl
theorem zeroC162 : zeroC Tryd.prog 162 = some [Value.string ⟨#[]⟩] := by kernel_rfl
theorem plcs162 : plcs Tryd.prog 162 = some [(0, 1)] := by kernel_rfl
theorem tyS163 : tyS Tryd.prog 163 = some (true, 1) := by kernel_rfl
theorem zeroC163 : zeroC Tryd.prog 163 = some [Value.string ⟨#[]⟩] := by kernel_rfl
theorem plcs163 : plcs Tryd.prog 163 = some [(0, 1)] := by kernel_rfl
attribute [go_sem] tyS2 zeroC2 intT2 tyS3 zeroC3 intT3 tyS4 zeroC4 isBool4 tyS5 zeroC5 intT5 tyS9 zeroC9 isStr9 lenT9 tyS12 zeroC12 intT12 tyS21 zeroC21 intT21 tyS22 zeroC22 elS22 lenT22 bytT22 slT22 tyS24 zeroC24 elS24 lenT24 slT24 tyS25 zeroC25 plcs25 tyS26 zeroC26 plcs26 tyS39 zeroC39 plcs39 keyT39 tyS40 zeroC40 plcs40 keyT40 tyS54 zeroC54 elS54 lenT54 slT54 tyS56 zeroC56 elS56 lenT56 slT56 tyS62 zeroC62 tyS68 zeroC68 plcs68 tyS69 zeroC69 plcs69 tyS80 zeroC80 elS80 lenT80 slT80 tyS86 zeroC86 elS86 lenT86 slT86 tyS87 zeroC87 plcs87 tyS88 zeroC88 plcs88 tyS93 zeroC93 plcs93 tyS94 zeroC94 plcs94 tyS99 zeroC99 elS99 lenT99 slT99 tyS104 zeroC104 tyS111 zeroC111 intT111 tyS113 zeroC113 plcs113 keyT113 tyS114 zeroC114 plcs114 tyS115 zeroC115 plcs115 tyS125 zeroC125 lenT125 tyS132 zeroC132 intT132 tyS140 zeroC140 intT140 tyS147 zeroC147 tyS154 zeroC154 plcs154 tyS155 zeroC155 plcs155 tyS160 zeroC160 tyS161 zeroC161 tyS162 zeroC162 plcs162 tyS163 zeroC163 plcs163
end Go.Proofs.YtconhonjkfpfmaaDoor
