/-
  The closed facts on the program's types that the abstract machine asks, each by the kernel. Written by facts.py.
-/
import Derived.Test.YtpelbeoapmbloaaDoorRows
import Derived.Test.YtpelbeoapmbloaaDoorSxBag
namespace Go.Proofs.YtpelbeoapmbloaaDoor
open Go Go.Sx
theorem tyS2 : tyS Tryd.prog 2 = some (false, 1) := by kernel_rfl
theorem zeroC2 : zeroC Tryd.prog 2 = some [Value.int .i64 0] := by kernel_rfl
theorem intT2 : intT Tryd.prog 2 = some .i64 := by kernel_rfl
theorem tyS3 : tyS Tryd.prog 3 = some (false, 1) := by kernel_rfl
theorem zeroC3 : zeroC Tryd.prog 3 = some [Value.int .i64 0] := by kernel_rfl
theorem intT3 : intT Tryd.prog 3 = some .i64 := by kernel_rfl
theorem tyS4 : tyS Tryd.prog 4 = some (false, 1) := by kernel_rfl
theorem zeroC4 : zeroC Tryd.prog 4 = some [Value.bool false] := by kernel_rfl
theorem isBool4 : isBoolT Tryd.prog 4 = true := by kernel_rfl
theorem tyS5 : tyS Tryd.prog 5 = some (false, 1) := by kernel_rfl
theorem zeroC5 : zeroC Tryd.prog 5 = some [Value.int .u8 0] := by kernel_rfl
theorem intT5 : intT Tryd.prog 5 = some .u8 := by kernel_rfl
theorem tyS9 : tyS Tryd.prog 9 = some (false, 1) := by kernel_rfl
theorem zeroC9 : zeroC Tryd.prog 9 = some [Value.string ⟨#[]⟩] := by kernel_rfl
theorem isStr9 : isStr Tryd.prog 9 = true := by kernel_rfl
theorem lenT9 : lenT Tryd.prog 9 = 0 := by kernel_rfl
theorem tyS12 : tyS Tryd.prog 12 = some (false, 1) := by kernel_rfl
theorem zeroC12 : zeroC Tryd.prog 12 = some [Value.int .u64 0] := by kernel_rfl
theorem intT12 : intT Tryd.prog 12 = some .u64 := by kernel_rfl
theorem tyS21 : tyS Tryd.prog 21 = some (false, 1) := by kernel_rfl
theorem zeroC21 : zeroC Tryd.prog 21 = some [Value.int .i32 0] := by kernel_rfl
theorem intT21 : intT Tryd.prog 21 = some .i32 := by kernel_rfl
theorem tyS22 : tyS Tryd.prog 22 = some (false, 1) := by kernel_rfl
theorem zeroC22 : zeroC Tryd.prog 22 = some [Value.slice none 0 0] := by kernel_rfl
theorem elS22 : elS Tryd.prog 22 = some 1 := by kernel_rfl
theorem lenT22 : lenT Tryd.prog 22 = 1 := by kernel_rfl
theorem slT22 : slT Tryd.prog 22 = some ⟨3, 1, 8, [Value.int .i64 0]⟩ := by kernel_rfl
theorem tyS23 : tyS Tryd.prog 23 = some (false, 1) := by kernel_rfl
theorem zeroC23 : zeroC Tryd.prog 23 = some [Value.slice none 0 0] := by kernel_rfl
theorem elS23 : elS Tryd.prog 23 = some 10 := by kernel_rfl
theorem lenT23 : lenT Tryd.prog 23 = 1 := by kernel_rfl
theorem slT23 : slT Tryd.prog 23 = some ⟨108, 10, 112, [Value.bool false, Value.int .i64 0, Value.string ⟨#[]⟩, Value.int .i64 0, Value.int .i64 0, Value.string ⟨#[]⟩, Value.int .i64 0, Value.slice none 0 0, Value.bool false, Value.int .i64 0]⟩ := by kernel_rfl
theorem tyS24 : tyS Tryd.prog 24 = some (true, 5) := by kernel_rfl
theorem zeroC24 : zeroC Tryd.prog 24 = some [Value.bool false, Value.slice none 0 0, Value.slice none 0 0, Value.int .i64 0, Value.int .i64 0] := by kernel_rfl
theorem plcs24 : plcs Tryd.prog 24 = some [(0, 1), (1, 1), (2, 1), (3, 1), (4, 1)] := by kernel_rfl
theorem tyS25 : tyS Tryd.prog 25 = some (true, 5) := by kernel_rfl
theorem zeroC25 : zeroC Tryd.prog 25 = some [Value.bool false, Value.slice none 0 0, Value.slice none 0 0, Value.int .i64 0, Value.int .i64 0] := by kernel_rfl
theorem plcs25 : plcs Tryd.prog 25 = some [(0, 1), (1, 1), (2, 1), (3, 1), (4, 1)] := by kernel_rfl
theorem tyS28 : tyS Tryd.prog 28 = some (false, 1) := by kernel_rfl
theorem zeroC28 : zeroC Tryd.prog 28 = some [Value.slice none 0 0] := by kernel_rfl
theorem elS28 : elS Tryd.prog 28 = some 10 := by kernel_rfl
theorem lenT28 : lenT Tryd.prog 28 = 1 := by kernel_rfl
theorem slT28 : slT Tryd.prog 28 = some ⟨74, 10, 112, [Value.bool false, Value.int .i64 0, Value.string ⟨#[]⟩, Value.int .i64 0, Value.int .i64 0, Value.string ⟨#[]⟩, Value.int .i64 0, Value.slice none 0 0, Value.bool false, Value.int .i64 0]⟩ := by kernel_rfl
theorem tyS29 : tyS Tryd.prog 29 = some (true, 5) := by kernel_rfl
theorem zeroC29 : zeroC Tryd.prog 29 = some [Value.bool false, Value.slice none 0 0, Value.slice none 0 0, Value.int .i64 0, Value.int .i64 0] := by kernel_rfl
theorem plcs29 : plcs Tryd.prog 29 = some [(0, 1), (1, 1), (2, 1), (3, 1), (4, 1)] := by kernel_rfl
theorem tyS30 : tyS Tryd.prog 30 = some (true, 5) := by kernel_rfl
theorem zeroC30 : zeroC Tryd.prog 30 = some [Value.bool false, Value.slice none 0 0, Value.slice none 0 0, Value.int .i64 0, Value.int .i64 0] := by kernel_rfl
theorem plcs30 : plcs Tryd.prog 30 = some [(0, 1), (1, 1), (2, 1), (3, 1), (4, 1)] := by kernel_rfl
theorem tyS34 : tyS Tryd.prog 34 = some (false, 1) := by kernel_rfl
theorem zeroC34 : zeroC Tryd.prog 34 = some [Value.slice none 0 0] := by kernel_rfl
theorem elS34 : elS Tryd.prog 34 = some 6 := by kernel_rfl
theorem lenT34 : lenT Tryd.prog 34 = 1 := by kernel_rfl
theorem slT34 : slT Tryd.prog 34 = some ⟨116, 6, 80, [Value.int .i64 0, Value.bool false, Value.slice none 0 0, Value.slice none 0 0, Value.int .i64 0, Value.int .i64 0]⟩ := by kernel_rfl
theorem tyS35 : tyS Tryd.prog 35 = some (true, 1) := by kernel_rfl
theorem zeroC35 : zeroC Tryd.prog 35 = some [Value.slice none 0 0] := by kernel_rfl
theorem plcs35 : plcs Tryd.prog 35 = some [(0, 1)] := by kernel_rfl
theorem tyS36 : tyS Tryd.prog 36 = some (true, 1) := by kernel_rfl
theorem zeroC36 : zeroC Tryd.prog 36 = some [Value.slice none 0 0] := by kernel_rfl
theorem plcs36 : plcs Tryd.prog 36 = some [(0, 1)] := by kernel_rfl
theorem tyS37 : tyS Tryd.prog 37 = some (false, 1) := by kernel_rfl
theorem zeroC37 : zeroC Tryd.prog 37 = some [Value.slice none 0 0] := by kernel_rfl
theorem elS37 : elS Tryd.prog 37 = some 8 := by kernel_rfl
theorem lenT37 : lenT Tryd.prog 37 = 1 := by kernel_rfl
theorem slT37 : slT Tryd.prog 37 = some ⟨119, 8, 96, [Value.bool false, Value.int .i64 0, Value.string ⟨#[]⟩, Value.int .i64 0, Value.int .i64 0, Value.string ⟨#[]⟩, Value.int .i64 0, Value.slice none 0 0]⟩ := by kernel_rfl
theorem tyS38 : tyS Tryd.prog 38 = some (true, 5) := by kernel_rfl
theorem zeroC38 : zeroC Tryd.prog 38 = some [Value.int .i64 0, Value.int .i64 0, Value.string ⟨#[]⟩, Value.int .i64 0, Value.slice none 0 0] := by kernel_rfl
theorem plcs38 : plcs Tryd.prog 38 = some [(0, 1), (1, 1), (2, 1), (3, 1), (4, 1)] := by kernel_rfl
theorem tyS39 : tyS Tryd.prog 39 = some (true, 5) := by kernel_rfl
theorem zeroC39 : zeroC Tryd.prog 39 = some [Value.int .i64 0, Value.int .i64 0, Value.string ⟨#[]⟩, Value.int .i64 0, Value.slice none 0 0] := by kernel_rfl
theorem plcs39 : plcs Tryd.prog 39 = some [(0, 1), (1, 1), (2, 1), (3, 1), (4, 1)] := by kernel_rfl
theorem tyS43 : tyS Tryd.prog 43 = some (false, 1) := by kernel_rfl
theorem zeroC43 : zeroC Tryd.prog 43 = some [Value.slice none 0 0] := by kernel_rfl
theorem elS43 : elS Tryd.prog 43 = some 6 := by kernel_rfl
theorem lenT43 : lenT Tryd.prog 43 = 1 := by kernel_rfl
theorem slT43 : slT Tryd.prog 43 = some ⟨89, 6, 80, [Value.int .i64 0, Value.bool false, Value.slice none 0 0, Value.slice none 0 0, Value.int .i64 0, Value.int .i64 0]⟩ := by kernel_rfl
theorem tyS44 : tyS Tryd.prog 44 = some (true, 1) := by kernel_rfl
theorem zeroC44 : zeroC Tryd.prog 44 = some [Value.slice none 0 0] := by kernel_rfl
theorem plcs44 : plcs Tryd.prog 44 = some [(0, 1)] := by kernel_rfl
theorem tyS45 : tyS Tryd.prog 45 = some (true, 1) := by kernel_rfl
theorem zeroC45 : zeroC Tryd.prog 45 = some [Value.slice none 0 0] := by kernel_rfl
theorem plcs45 : plcs Tryd.prog 45 = some [(0, 1)] := by kernel_rfl
theorem tyS47 : tyS Tryd.prog 47 = some (false, 1) := by kernel_rfl
theorem zeroC47 : zeroC Tryd.prog 47 = some [Value.slice none 0 0] := by kernel_rfl
theorem elS47 : elS Tryd.prog 47 = some 8 := by kernel_rfl
theorem lenT47 : lenT Tryd.prog 47 = 1 := by kernel_rfl
theorem slT47 : slT Tryd.prog 47 = some ⟨96, 8, 96, [Value.bool false, Value.int .i64 0, Value.string ⟨#[]⟩, Value.int .i64 0, Value.int .i64 0, Value.string ⟨#[]⟩, Value.int .i64 0, Value.slice none 0 0]⟩ := by kernel_rfl
theorem tyS48 : tyS Tryd.prog 48 = some (true, 5) := by kernel_rfl
theorem zeroC48 : zeroC Tryd.prog 48 = some [Value.int .i64 0, Value.int .i64 0, Value.string ⟨#[]⟩, Value.int .i64 0, Value.slice none 0 0] := by kernel_rfl
theorem plcs48 : plcs Tryd.prog 48 = some [(0, 1), (1, 1), (2, 1), (3, 1), (4, 1)] := by kernel_rfl
theorem tyS49 : tyS Tryd.prog 49 = some (true, 5) := by kernel_rfl
theorem zeroC49 : zeroC Tryd.prog 49 = some [Value.int .i64 0, Value.int .i64 0, Value.string ⟨#[]⟩, Value.int .i64 0, Value.slice none 0 0] := by kernel_rfl
theorem plcs49 : plcs Tryd.prog 49 = some [(0, 1), (1, 1), (2, 1), (3, 1), (4, 1)] := by kernel_rfl
theorem tyS54 : tyS Tryd.prog 54 = some (true, 3) := by kernel_rfl
theorem zeroC54 : zeroC Tryd.prog 54 = some [Value.bool false, Value.int .i64 0, Value.string ⟨#[]⟩] := by kernel_rfl
theorem plcs54 : plcs Tryd.prog 54 = some [(0, 1), (1, 1), (2, 1)] := by kernel_rfl
theorem keyT54 : keyT Tryd.prog 54 = true := by kernel_rfl
theorem tyS55 : tyS Tryd.prog 55 = some (true, 3) := by kernel_rfl
theorem zeroC55 : zeroC Tryd.prog 55 = some [Value.bool false, Value.int .i64 0, Value.string ⟨#[]⟩] := by kernel_rfl
theorem plcs55 : plcs Tryd.prog 55 = some [(0, 1), (1, 1), (2, 1)] := by kernel_rfl
theorem keyT55 : keyT Tryd.prog 55 = true := by kernel_rfl
theorem tyS58 : tyS Tryd.prog 58 = some (true, 3) := by kernel_rfl
theorem zeroC58 : zeroC Tryd.prog 58 = some [Value.bool false, Value.int .i64 0, Value.string ⟨#[]⟩] := by kernel_rfl
theorem plcs58 : plcs Tryd.prog 58 = some [(0, 1), (1, 1), (2, 1)] := by kernel_rfl
theorem keyT58 : keyT Tryd.prog 58 = true := by kernel_rfl
theorem tyS73 : tyS Tryd.prog 73 = some (true, 10) := by kernel_rfl
theorem zeroC73 : zeroC Tryd.prog 73 = some [Value.bool false, Value.int .i64 0, Value.string ⟨#[]⟩, Value.int .i64 0, Value.int .i64 0, Value.string ⟨#[]⟩, Value.int .i64 0, Value.slice none 0 0, Value.bool false, Value.int .i64 0] := by kernel_rfl
theorem plcs73 : plcs Tryd.prog 73 = some [(0, 3), (3, 5), (8, 1), (9, 1)] := by kernel_rfl
theorem tyS74 : tyS Tryd.prog 74 = some (true, 10) := by kernel_rfl
theorem zeroC74 : zeroC Tryd.prog 74 = some [Value.bool false, Value.int .i64 0, Value.string ⟨#[]⟩, Value.int .i64 0, Value.int .i64 0, Value.string ⟨#[]⟩, Value.int .i64 0, Value.slice none 0 0, Value.bool false, Value.int .i64 0] := by kernel_rfl
theorem plcs74 : plcs Tryd.prog 74 = some [(0, 3), (3, 5), (8, 1), (9, 1)] := by kernel_rfl
theorem tyS80 : tyS Tryd.prog 80 = some (false, 1) := by kernel_rfl
theorem zeroC80 : zeroC Tryd.prog 80 = some [Value.map none] := by kernel_rfl
theorem lenT80 : lenT Tryd.prog 80 = 2 := by kernel_rfl
theorem tyS88 : tyS Tryd.prog 88 = some (true, 6) := by kernel_rfl
theorem zeroC88 : zeroC Tryd.prog 88 = some [Value.int .i64 0, Value.bool false, Value.slice none 0 0, Value.slice none 0 0, Value.int .i64 0, Value.int .i64 0] := by kernel_rfl
theorem plcs88 : plcs Tryd.prog 88 = some [(0, 1), (1, 5)] := by kernel_rfl
theorem tyS89 : tyS Tryd.prog 89 = some (true, 6) := by kernel_rfl
theorem zeroC89 : zeroC Tryd.prog 89 = some [Value.int .i64 0, Value.bool false, Value.slice none 0 0, Value.slice none 0 0, Value.int .i64 0, Value.int .i64 0] := by kernel_rfl
theorem plcs89 : plcs Tryd.prog 89 = some [(0, 1), (1, 5)] := by kernel_rfl
theorem tyS95 : tyS Tryd.prog 95 = some (true, 8) := by kernel_rfl
theorem zeroC95 : zeroC Tryd.prog 95 = some [Value.bool false, Value.int .i64 0, Value.string ⟨#[]⟩, Value.int .i64 0, Value.int .i64 0, Value.string ⟨#[]⟩, Value.int .i64 0, Value.slice none 0 0] := by kernel_rfl
theorem plcs95 : plcs Tryd.prog 95 = some [(0, 3), (3, 5)] := by kernel_rfl
theorem tyS96 : tyS Tryd.prog 96 = some (true, 8) := by kernel_rfl
theorem zeroC96 : zeroC Tryd.prog 96 = some [Value.bool false, Value.int .i64 0, Value.string ⟨#[]⟩, Value.int .i64 0, Value.int .i64 0, Value.string ⟨#[]⟩, Value.int .i64 0, Value.slice none 0 0] := by kernel_rfl
theorem plcs96 : plcs Tryd.prog 96 = some [(0, 3), (3, 5)] := by kernel_rfl
theorem tyS107 : tyS Tryd.prog 107 = some (true, 10) := by kernel_rfl
theorem zeroC107 : zeroC Tryd.prog 107 = some [Value.bool false, Value.int .i64 0, Value.string ⟨#[]⟩, Value.int .i64 0, Value.int .i64 0, Value.string ⟨#[]⟩, Value.int .i64 0, Value.slice none 0 0, Value.bool false, Value.int .i64 0] := by kernel_rfl
theorem plcs107 : plcs Tryd.prog 107 = some [(0, 3), (3, 5), (8, 1), (9, 1)] := by kernel_rfl
theorem tyS108 : tyS Tryd.prog 108 = some (true, 10) := by kernel_rfl
theorem zeroC108 : zeroC Tryd.prog 108 = some [Value.bool false, Value.int .i64 0, Value.string ⟨#[]⟩, Value.int .i64 0, Value.int .i64 0, Value.string ⟨#[]⟩, Value.int .i64 0, Value.slice none 0 0, Value.bool false, Value.int .i64 0] := by kernel_rfl
theorem plcs108 : plcs Tryd.prog 108 = some [(0, 3), (3, 5), (8, 1), (9, 1)] := by kernel_rfl
theorem tyS115 : tyS Tryd.prog 115 = some (true, 6) := by kernel_rfl
theorem zeroC115 : zeroC Tryd.prog 115 = some [Value.int .i64 0, Value.bool false, Value.slice none 0 0, Value.slice none 0 0, Value.int .i64 0, Value.int .i64 0] := by kernel_rfl
theorem plcs115 : plcs Tryd.prog 115 = some [(0, 1), (1, 5)] := by kernel_rfl
theorem tyS116 : tyS Tryd.prog 116 = some (true, 6) := by kernel_rfl
theorem zeroC116 : zeroC Tryd.prog 116 = some [Value.int .i64 0, Value.bool false, Value.slice none 0 0, Value.slice none 0 0, Value.int .i64 0, Value.int .i64 0] := by kernel_rfl
theorem plcs116 : plcs Tryd.prog 116 = some [(0, 1), (1, 5)] := by kernel_rfl
theorem tyS118 : tyS Tryd.prog 118 = some (true, 8) := by kernel_rfl
theorem zeroC118 : zeroC Tryd.prog 118 = some [Value.bool false, Value.int .i64 0, Value.string ⟨#[]⟩, Value.int .i64 0, Value.int .i64 0, Value.string ⟨#[]⟩, Value.int .i64 0, Value.slice none 0 0] := by kernel_rfl
theorem plcs118 : plcs Tryd.prog 118 = some [(0, 3), (3, 5)] := by kernel_rfl
theorem tyS119 : tyS Tryd.prog 119 = some (true, 8) := by kernel_rfl
theorem zeroC119 : zeroC Tryd.prog 119 = some [Value.bool false, Value.int .i64 0, Value.string ⟨#[]⟩, Value.int .i64 0, Value.int .i64 0, Value.string ⟨#[]⟩, Value.int .i64 0, Value.slice none 0 0] := by kernel_rfl
theorem plcs119 : plcs Tryd.prog 119 = some [(0, 3), (3, 5)] := by kernel_rfl
theorem tyS127 : tyS Tryd.prog 127 = some (false, 1) := by kernel_rfl
theorem zeroC127 : zeroC Tryd.prog 127 = some [Value.pointer none] := by kernel_rfl
theorem tyS131 : tyS Tryd.prog 131 = some (false, 1) := by kernel_rfl
theorem zeroC131 : zeroC Tryd.prog 131 = some [Value.slice none 0 0] := by kernel_rfl
theorem elS131 : elS Tryd.prog 131 = some 1 := by kernel_rfl
theorem lenT131 : lenT Tryd.prog 131 = 1 := by kernel_rfl
theorem bytT131 : bytT Tryd.prog 131 = true := by kernel_rfl
theorem slT131 : slT Tryd.prog 131 = some ⟨5, 1, 1, [Value.int .u8 0]⟩ := by kernel_rfl
theorem tyS140 : tyS Tryd.prog 140 = some (false, 1) := by kernel_rfl
theorem zeroC140 : zeroC Tryd.prog 140 = some [Value.pointer none] := by kernel_rfl
theorem tyS144 : tyS Tryd.prog 144 = some (false, 1) := by kernel_rfl
theorem zeroC144 : zeroC Tryd.prog 144 = some [Value.int .u64 0] := by kernel_rfl
theorem intT144 : intT Tryd.prog 144 = some .u64 := by kernel_rfl
theorem tyS147 : tyS Tryd.prog 147 = some (false, 1) := by kernel_rfl
theorem zeroC147 : zeroC Tryd.prog 147 = some [Value.int .u64 0] := by kernel_rfl
theorem intT147 : intT Tryd.prog 147 = some .u64 := by kernel_rfl
theorem tyS149 : tyS Tryd.prog 149 = some (true, 3) := by kernel_rfl
theorem zeroC149 : zeroC Tryd.prog 149 = some [Value.string ⟨#[]⟩, Value.string ⟨#[]⟩, Value.nilIface] := by kernel_rfl
theorem plcs149 : plcs Tryd.prog 149 = some [(0, 1), (1, 1), (2, 1)] := by kernel_rfl
theorem tyS150 : tyS Tryd.prog 150 = some (true, 3) := by kernel_rfl
theorem zeroC150 : zeroC Tryd.prog 150 = some [Value.string ⟨#[]⟩, Value.string ⟨#[]⟩, Value.nilIface] := by kernel_rfl
theorem plcs150 : plcs Tryd.prog 150 = some [(0, 1), (1, 1), (2, 1)] := by kernel_rfl
theorem tyS159 : tyS Tryd.prog 159 = some (false, 1) := by kernel_rfl
theorem zeroC159 : zeroC Tryd.prog 159 = some [Value.pointer none] := by kernel_rfl
theorem tyS160 : tyS Tryd.prog 160 = some (false, 1) := by kernel_rfl
theorem zeroC160 : zeroC Tryd.prog 160 = some [Value.pointer none] := by kernel_rfl
theorem tyS161 : tyS Tryd.prog 161 = some (true, 1) := by kernel_rfl
theorem zeroC161 : zeroC Tryd.prog 161 = some [Value.string ⟨#[]⟩] := by kernel_rfl
theorem plcs161 : plcs Tryd.prog 161 = some [(0, 1)] := by kernel_rfl
theorem tyS162 : tyS Tryd.prog 162 = some (true, 1) := by kernel_rfl
theorem zeroC162 : zeroC Tryd.prog 162 = some [Value.string ⟨#[]⟩] := by kernel_rfl
theorem plcs162 : plcs Tryd.prog 162 = some [(0, 1)] := by kernel_rfl
theorem tyS166 : tyS Tryd.prog 166 = some (false, 1) := by kernel_rfl
theorem zeroC166 : zeroC Tryd.prog 166 = some [Value.int .u32 0] := by kernel_rfl
theorem intT166 : intT Tryd.prog 166 = some .u32 := by kernel_rfl
attribute [go_sem] tyS2 zeroC2 intT2 tyS3 zeroC3 intT3 tyS4 zeroC4 isBool4 tyS5 zeroC5 intT5 tyS9 zeroC9 isStr9 lenT9 tyS12 zeroC12 intT12 tyS21 zeroC21 intT21 tyS22 zeroC22 elS22 lenT22 slT22 tyS23 zeroC23 elS23 lenT23 slT23 tyS24 zeroC24 plcs24 tyS25 zeroC25 plcs25 tyS28 zeroC28 elS28 lenT28 slT28 tyS29 zeroC29 plcs29 tyS30 zeroC30 plcs30 tyS34 zeroC34 elS34 lenT34 slT34 tyS35 zeroC35 plcs35 tyS36 zeroC36 plcs36 tyS37 zeroC37 elS37 lenT37 slT37 tyS38 zeroC38 plcs38 tyS39 zeroC39 plcs39 tyS43 zeroC43 elS43 lenT43 slT43 tyS44 zeroC44 plcs44 tyS45 zeroC45 plcs45 tyS47 zeroC47 elS47 lenT47 slT47 tyS48 zeroC48 plcs48 tyS49 zeroC49 plcs49 tyS54 zeroC54 plcs54 keyT54 tyS55 zeroC55 plcs55 keyT55 tyS58 zeroC58 plcs58 keyT58 tyS73 zeroC73 plcs73 tyS74 zeroC74 plcs74 tyS80 zeroC80 lenT80 tyS88 zeroC88 plcs88 tyS89 zeroC89 plcs89 tyS95 zeroC95 plcs95 tyS96 zeroC96 plcs96 tyS107 zeroC107 plcs107 tyS108 zeroC108 plcs108 tyS115 zeroC115 plcs115 tyS116 zeroC116 plcs116 tyS118 zeroC118 plcs118 tyS119 zeroC119 plcs119 tyS127 zeroC127 tyS131 zeroC131 elS131 lenT131 bytT131 slT131 tyS140 zeroC140 tyS144 zeroC144 intT144 tyS147 zeroC147 intT147 tyS149 zeroC149 plcs149 tyS150 zeroC150 plcs150 tyS159 zeroC159 tyS160 zeroC160 tyS161 zeroC161 plcs161 tyS162 zeroC162 plcs162 tyS166 zeroC166 intT166
end Go.Proofs.YtpelbeoapmbloaaDoor
