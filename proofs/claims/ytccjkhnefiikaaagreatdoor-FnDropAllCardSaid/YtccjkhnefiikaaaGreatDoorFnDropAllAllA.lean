/-
  The statement FnDropAll is proved: for each argument the law returns true; nothing is assumed.
-/
import Derived.Test.YtccjkhnefiikaaaGreatDoorRows
import Derived.Test.YtccjkhnefiikaaaGreatDoorSxBag
import Derived.Test.YtccjkhnefiikaaaGreatDoorSxDataV
import Derived.Test.YtccjkhnefiikaaaGreatDoorSxLaw
import Derived.Lib.LaidTab
import Derived.Lib.ItoaNum
import Derived.Sort.Grow
import Derived.Deep.Draws
import Derived.Lib.AtoiTie
namespace Go.Proofs.YtccjkhnefiikaaaGreatDoor
open Go Go.Sx
theorem tyS2 : tyS Tryz.prog 2 = some (false, 1) := by kernel_rfl
theorem zeroC2 : zeroC Tryz.prog 2 = some [Value.int .i64 0] := by kernel_rfl
theorem intT2 : intT Tryz.prog 2 = some .i64 := by kernel_rfl
theorem tyS3 : tyS Tryz.prog 3 = some (false, 1) := by kernel_rfl
theorem zeroC3 : zeroC Tryz.prog 3 = some [Value.int .i64 0] := by kernel_rfl
theorem intT3 : intT Tryz.prog 3 = some .i64 := by kernel_rfl
theorem tyS4 : tyS Tryz.prog 4 = some (false, 1) := by kernel_rfl
theorem zeroC4 : zeroC Tryz.prog 4 = some [Value.bool false] := by kernel_rfl
theorem isBool4 : isBoolT Tryz.prog 4 = true := by kernel_rfl
theorem tyS5 : tyS Tryz.prog 5 = some (false, 1) := by kernel_rfl
theorem zeroC5 : zeroC Tryz.prog 5 = some [Value.int .u8 0] := by kernel_rfl
theorem intT5 : intT Tryz.prog 5 = some .u8 := by kernel_rfl
theorem tyS9 : tyS Tryz.prog 9 = some (false, 1) := by kernel_rfl
theorem zeroC9 : zeroC Tryz.prog 9 = some [Value.string ⟨#[]⟩] := by kernel_rfl
theorem isStr9 : isStr Tryz.prog 9 = true := by kernel_rfl
theorem lenT9 : lenT Tryz.prog 9 = 0 := by kernel_rfl
theorem tyS12 : tyS Tryz.prog 12 = some (false, 1) := by kernel_rfl
theorem zeroC12 : zeroC Tryz.prog 12 = some [Value.int .u64 0] := by kernel_rfl
theorem intT12 : intT Tryz.prog 12 = some .u64 := by kernel_rfl
theorem tyS21 : tyS Tryz.prog 21 = some (false, 1) := by kernel_rfl
theorem zeroC21 : zeroC Tryz.prog 21 = some [Value.int .i32 0] := by kernel_rfl
theorem intT21 : intT Tryz.prog 21 = some .i32 := by kernel_rfl
theorem tyS22 : tyS Tryz.prog 22 = some (false, 1) := by kernel_rfl
theorem zeroC22 : zeroC Tryz.prog 22 = some [Value.slice none 0 0] := by kernel_rfl
theorem elS22 : elS Tryz.prog 22 = some 1 := by kernel_rfl
theorem lenT22 : lenT Tryz.prog 22 = 1 := by kernel_rfl
theorem bytT22 : bytT Tryz.prog 22 = true := by kernel_rfl
theorem slT22 : slT Tryz.prog 22 = some ⟨5, 1, 1, [Value.int .u8 0]⟩ := by kernel_rfl
theorem tyS24 : tyS Tryz.prog 24 = some (false, 1) := by kernel_rfl
theorem zeroC24 : zeroC Tryz.prog 24 = some [Value.slice none 0 0] := by kernel_rfl
theorem elS24 : elS Tryz.prog 24 = some 6 := by kernel_rfl
theorem lenT24 : lenT Tryz.prog 24 = 1 := by kernel_rfl
theorem slT24 : slT Tryz.prog 24 = some ⟨40, 6, 80, [Value.int .i64 0, Value.bool false, Value.slice none 0 0, Value.slice none 0 0, Value.int .i64 0, Value.int .i64 0]⟩ := by kernel_rfl
theorem tyS25 : tyS Tryz.prog 25 = some (true, 1) := by kernel_rfl
theorem zeroC25 : zeroC Tryz.prog 25 = some [Value.slice none 0 0] := by kernel_rfl
theorem plcs25 : plcs Tryz.prog 25 = some [(0, 1)] := by kernel_rfl
theorem tyS26 : tyS Tryz.prog 26 = some (true, 1) := by kernel_rfl
theorem zeroC26 : zeroC Tryz.prog 26 = some [Value.slice none 0 0] := by kernel_rfl
theorem plcs26 : plcs Tryz.prog 26 = some [(0, 1)] := by kernel_rfl
theorem tyS27 : tyS Tryz.prog 27 = some (false, 1) := by kernel_rfl
theorem zeroC27 : zeroC Tryz.prog 27 = some [Value.slice none 0 0] := by kernel_rfl
theorem elS27 : elS Tryz.prog 27 = some 5 := by kernel_rfl
theorem lenT27 : lenT Tryz.prog 27 = 1 := by kernel_rfl
theorem slT27 : slT Tryz.prog 27 = some ⟨49, 5, 64, [Value.int .i64 0, Value.int .i64 0, Value.string ⟨#[]⟩, Value.int .i64 0, Value.slice none 0 0]⟩ := by kernel_rfl
theorem tyS34 : tyS Tryz.prog 34 = some (false, 1) := by kernel_rfl
theorem zeroC34 : zeroC Tryz.prog 34 = some [Value.slice none 0 0] := by kernel_rfl
theorem elS34 : elS Tryz.prog 34 = some 1 := by kernel_rfl
theorem lenT34 : lenT Tryz.prog 34 = 1 := by kernel_rfl
theorem slT34 : slT Tryz.prog 34 = some ⟨3, 1, 8, [Value.int .i64 0]⟩ := by kernel_rfl
theorem tyS36 : tyS Tryz.prog 36 = some (false, 1) := by kernel_rfl
theorem zeroC36 : zeroC Tryz.prog 36 = some [Value.slice none 0 0] := by kernel_rfl
theorem elS36 : elS Tryz.prog 36 = some 10 := by kernel_rfl
theorem lenT36 : lenT Tryz.prog 36 = 1 := by kernel_rfl
theorem slT36 : slT Tryz.prog 36 = some ⟨59, 10, 112, [Value.bool false, Value.int .i64 0, Value.string ⟨#[]⟩, Value.int .i64 0, Value.int .i64 0, Value.string ⟨#[]⟩, Value.int .i64 0, Value.slice none 0 0, Value.bool false, Value.int .i64 0]⟩ := by kernel_rfl
theorem tyS37 : tyS Tryz.prog 37 = some (true, 5) := by kernel_rfl
theorem zeroC37 : zeroC Tryz.prog 37 = some [Value.bool false, Value.slice none 0 0, Value.slice none 0 0, Value.int .i64 0, Value.int .i64 0] := by kernel_rfl
theorem plcs37 : plcs Tryz.prog 37 = some [(0, 1), (1, 1), (2, 1), (3, 1), (4, 1)] := by kernel_rfl
theorem tyS38 : tyS Tryz.prog 38 = some (true, 5) := by kernel_rfl
theorem zeroC38 : zeroC Tryz.prog 38 = some [Value.bool false, Value.slice none 0 0, Value.slice none 0 0, Value.int .i64 0, Value.int .i64 0] := by kernel_rfl
theorem plcs38 : plcs Tryz.prog 38 = some [(0, 1), (1, 1), (2, 1), (3, 1), (4, 1)] := by kernel_rfl
theorem tyS39 : tyS Tryz.prog 39 = some (true, 6) := by kernel_rfl
theorem zeroC39 : zeroC Tryz.prog 39 = some [Value.int .i64 0, Value.bool false, Value.slice none 0 0, Value.slice none 0 0, Value.int .i64 0, Value.int .i64 0] := by kernel_rfl
theorem plcs39 : plcs Tryz.prog 39 = some [(0, 1), (1, 5)] := by kernel_rfl
theorem tyS40 : tyS Tryz.prog 40 = some (true, 6) := by kernel_rfl
theorem zeroC40 : zeroC Tryz.prog 40 = some [Value.int .i64 0, Value.bool false, Value.slice none 0 0, Value.slice none 0 0, Value.int .i64 0, Value.int .i64 0] := by kernel_rfl
theorem plcs40 : plcs Tryz.prog 40 = some [(0, 1), (1, 5)] := by kernel_rfl
theorem tyS41 : tyS Tryz.prog 41 = some (false, 1) := by kernel_rfl
theorem zeroC41 : zeroC Tryz.prog 41 = some [Value.pointer none] := by kernel_rfl
theorem tyS47 : tyS Tryz.prog 47 = some (false, 1) := by kernel_rfl
theorem zeroC47 : zeroC Tryz.prog 47 = some [Value.slice none 0 0] := by kernel_rfl
theorem elS47 : elS Tryz.prog 47 = some 8 := by kernel_rfl
theorem lenT47 : lenT Tryz.prog 47 = 1 := by kernel_rfl
theorem slT47 : slT Tryz.prog 47 = some ⟨81, 8, 96, [Value.bool false, Value.int .i64 0, Value.string ⟨#[]⟩, Value.int .i64 0, Value.int .i64 0, Value.string ⟨#[]⟩, Value.int .i64 0, Value.slice none 0 0]⟩ := by kernel_rfl
theorem tyS48 : tyS Tryz.prog 48 = some (true, 5) := by kernel_rfl
theorem zeroC48 : zeroC Tryz.prog 48 = some [Value.int .i64 0, Value.int .i64 0, Value.string ⟨#[]⟩, Value.int .i64 0, Value.slice none 0 0] := by kernel_rfl
theorem plcs48 : plcs Tryz.prog 48 = some [(0, 1), (1, 1), (2, 1), (3, 1), (4, 1)] := by kernel_rfl
theorem tyS49 : tyS Tryz.prog 49 = some (true, 5) := by kernel_rfl
theorem zeroC49 : zeroC Tryz.prog 49 = some [Value.int .i64 0, Value.int .i64 0, Value.string ⟨#[]⟩, Value.int .i64 0, Value.slice none 0 0] := by kernel_rfl
theorem plcs49 : plcs Tryz.prog 49 = some [(0, 1), (1, 1), (2, 1), (3, 1), (4, 1)] := by kernel_rfl
theorem tyS54 : tyS Tryz.prog 54 = some (false, 1) := by kernel_rfl
theorem zeroC54 : zeroC Tryz.prog 54 = some [Value.pointer none] := by kernel_rfl
theorem tyS56 : tyS Tryz.prog 56 = some (true, 3) := by kernel_rfl
theorem zeroC56 : zeroC Tryz.prog 56 = some [Value.bool false, Value.int .i64 0, Value.string ⟨#[]⟩] := by kernel_rfl
theorem plcs56 : plcs Tryz.prog 56 = some [(0, 1), (1, 1), (2, 1)] := by kernel_rfl
theorem keyT56 : keyT Tryz.prog 56 = true := by kernel_rfl
theorem tyS57 : tyS Tryz.prog 57 = some (true, 3) := by kernel_rfl
theorem zeroC57 : zeroC Tryz.prog 57 = some [Value.bool false, Value.int .i64 0, Value.string ⟨#[]⟩] := by kernel_rfl
theorem plcs57 : plcs Tryz.prog 57 = some [(0, 1), (1, 1), (2, 1)] := by kernel_rfl
theorem keyT57 : keyT Tryz.prog 57 = true := by kernel_rfl
theorem tyS58 : tyS Tryz.prog 58 = some (true, 10) := by kernel_rfl
theorem zeroC58 : zeroC Tryz.prog 58 = some [Value.bool false, Value.int .i64 0, Value.string ⟨#[]⟩, Value.int .i64 0, Value.int .i64 0, Value.string ⟨#[]⟩, Value.int .i64 0, Value.slice none 0 0, Value.bool false, Value.int .i64 0] := by kernel_rfl
theorem plcs58 : plcs Tryz.prog 58 = some [(0, 3), (3, 5), (8, 1), (9, 1)] := by kernel_rfl
theorem tyS59 : tyS Tryz.prog 59 = some (true, 10) := by kernel_rfl
theorem zeroC59 : zeroC Tryz.prog 59 = some [Value.bool false, Value.int .i64 0, Value.string ⟨#[]⟩, Value.int .i64 0, Value.int .i64 0, Value.string ⟨#[]⟩, Value.int .i64 0, Value.slice none 0 0, Value.bool false, Value.int .i64 0] := by kernel_rfl
theorem plcs59 : plcs Tryz.prog 59 = some [(0, 3), (3, 5), (8, 1), (9, 1)] := by kernel_rfl
theorem tyS60 : tyS Tryz.prog 60 = some (true, 3) := by kernel_rfl
theorem zeroC60 : zeroC Tryz.prog 60 = some [Value.slice none 0 0, Value.int .i64 0, Value.int .i64 0] := by kernel_rfl
theorem plcs60 : plcs Tryz.prog 60 = some [(0, 1), (1, 1), (2, 1)] := by kernel_rfl
theorem tyS61 : tyS Tryz.prog 61 = some (true, 3) := by kernel_rfl
theorem zeroC61 : zeroC Tryz.prog 61 = some [Value.slice none 0 0, Value.int .i64 0, Value.int .i64 0] := by kernel_rfl
theorem plcs61 : plcs Tryz.prog 61 = some [(0, 1), (1, 1), (2, 1)] := by kernel_rfl
theorem tyS72 : tyS Tryz.prog 72 = some (false, 1) := by kernel_rfl
theorem zeroC72 : zeroC Tryz.prog 72 = some [Value.slice none 0 0] := by kernel_rfl
theorem elS72 : elS Tryz.prog 72 = some 3 := by kernel_rfl
theorem lenT72 : lenT Tryz.prog 72 = 1 := by kernel_rfl
theorem slT72 : slT Tryz.prog 72 = some ⟨57, 3, 32, [Value.bool false, Value.int .i64 0, Value.string ⟨#[]⟩]⟩ := by kernel_rfl
theorem tyS79 : tyS Tryz.prog 79 = some (false, 1) := by kernel_rfl
theorem zeroC79 : zeroC Tryz.prog 79 = some [Value.int .u64 0] := by kernel_rfl
theorem intT79 : intT Tryz.prog 79 = some .u64 := by kernel_rfl
theorem tyS80 : tyS Tryz.prog 80 = some (true, 8) := by kernel_rfl
theorem zeroC80 : zeroC Tryz.prog 80 = some [Value.bool false, Value.int .i64 0, Value.string ⟨#[]⟩, Value.int .i64 0, Value.int .i64 0, Value.string ⟨#[]⟩, Value.int .i64 0, Value.slice none 0 0] := by kernel_rfl
theorem plcs80 : plcs Tryz.prog 80 = some [(0, 3), (3, 5)] := by kernel_rfl
theorem tyS81 : tyS Tryz.prog 81 = some (true, 8) := by kernel_rfl
theorem zeroC81 : zeroC Tryz.prog 81 = some [Value.bool false, Value.int .i64 0, Value.string ⟨#[]⟩, Value.int .i64 0, Value.int .i64 0, Value.string ⟨#[]⟩, Value.int .i64 0, Value.slice none 0 0] := by kernel_rfl
theorem plcs81 : plcs Tryz.prog 81 = some [(0, 3), (3, 5)] := by kernel_rfl
theorem tyS86 : tyS Tryz.prog 86 = some (false, 1) := by kernel_rfl
theorem zeroC86 : zeroC Tryz.prog 86 = some [Value.map none] := by kernel_rfl
theorem lenT86 : lenT Tryz.prog 86 = 2 := by kernel_rfl
theorem tyS101 : tyS Tryz.prog 101 = some (false, 1) := by kernel_rfl
theorem zeroC101 : zeroC Tryz.prog 101 = some [Value.slice none 0 0] := by kernel_rfl
theorem elS101 : elS Tryz.prog 101 = some 1 := by kernel_rfl
theorem lenT101 : lenT Tryz.prog 101 = 1 := by kernel_rfl
theorem slT101 : slT Tryz.prog 101 = some ⟨9, 1, 16, [Value.string ⟨#[]⟩]⟩ := by kernel_rfl
theorem tyS125 : tyS Tryz.prog 125 = some (false, 1) := by kernel_rfl
theorem zeroC125 : zeroC Tryz.prog 125 = some [Value.pointer none] := by kernel_rfl
theorem tyS129 : tyS Tryz.prog 129 = some (false, 1) := by kernel_rfl
theorem zeroC129 : zeroC Tryz.prog 129 = some [Value.int .u64 0] := by kernel_rfl
theorem intT129 : intT Tryz.prog 129 = some .u64 := by kernel_rfl
theorem tyS133 : tyS Tryz.prog 133 = some (true, 3) := by kernel_rfl
theorem zeroC133 : zeroC Tryz.prog 133 = some [Value.string ⟨#[]⟩, Value.string ⟨#[]⟩, Value.nilIface] := by kernel_rfl
theorem plcs133 : plcs Tryz.prog 133 = some [(0, 1), (1, 1), (2, 1)] := by kernel_rfl
theorem tyS134 : tyS Tryz.prog 134 = some (true, 3) := by kernel_rfl
theorem zeroC134 : zeroC Tryz.prog 134 = some [Value.string ⟨#[]⟩, Value.string ⟨#[]⟩, Value.nilIface] := by kernel_rfl
theorem plcs134 : plcs Tryz.prog 134 = some [(0, 1), (1, 1), (2, 1)] := by kernel_rfl
theorem tyS143 : tyS Tryz.prog 143 = some (false, 1) := by kernel_rfl
theorem zeroC143 : zeroC Tryz.prog 143 = some [Value.pointer none] := by kernel_rfl
theorem tyS144 : tyS Tryz.prog 144 = some (false, 1) := by kernel_rfl
theorem zeroC144 : zeroC Tryz.prog 144 = some [Value.pointer none] := by kernel_rfl
theorem tyS145 : tyS Tryz.prog 145 = some (true, 1) := by kernel_rfl
theorem zeroC145 : zeroC Tryz.prog 145 = some [Value.string ⟨#[]⟩] := by kernel_rfl
theorem plcs145 : plcs Tryz.prog 145 = some [(0, 1)] := by kernel_rfl
theorem tyS146 : tyS Tryz.prog 146 = some (true, 1) := by kernel_rfl
theorem zeroC146 : zeroC Tryz.prog 146 = some [Value.string ⟨#[]⟩] := by kernel_rfl
theorem plcs146 : plcs Tryz.prog 146 = some [(0, 1)] := by kernel_rfl
theorem tyS150 : tyS Tryz.prog 150 = some (false, 1) := by kernel_rfl
theorem zeroC150 : zeroC Tryz.prog 150 = some [Value.int .u32 0] := by kernel_rfl
theorem intT150 : intT Tryz.prog 150 = some .u32 := by kernel_rfl
attribute [go_sem] tyS2 zeroC2 intT2 tyS3 zeroC3 intT3 tyS4 zeroC4 isBool4 tyS5 zeroC5 intT5 tyS9 zeroC9 isStr9 lenT9 tyS12 zeroC12 intT12 tyS21 zeroC21 intT21 tyS22 zeroC22 elS22 lenT22 bytT22 slT22 tyS24 zeroC24 elS24 lenT24 slT24 tyS25 zeroC25 plcs25 tyS26 zeroC26 plcs26 tyS27 zeroC27 elS27 lenT27 slT27 tyS34 zeroC34 elS34 lenT34 slT34 tyS36 zeroC36 elS36 lenT36 slT36 tyS37 zeroC37 plcs37 tyS38 zeroC38 plcs38 tyS39 zeroC39 plcs39 tyS40 zeroC40 plcs40 tyS41 zeroC41 tyS47 zeroC47 elS47 lenT47 slT47 tyS48 zeroC48 plcs48 tyS49 zeroC49 plcs49 tyS54 zeroC54 tyS56 zeroC56 plcs56 keyT56 tyS57 zeroC57 plcs57 keyT57 tyS58 zeroC58 plcs58 tyS59 zeroC59 plcs59 tyS60 zeroC60 plcs60 tyS61 zeroC61 plcs61 tyS72 zeroC72 elS72 lenT72 slT72 tyS79 zeroC79 intT79 tyS80 zeroC80 plcs80 tyS81 zeroC81 plcs81 tyS86 zeroC86 lenT86 tyS101 zeroC101 elS101 lenT101 slT101 tyS125 zeroC125 tyS129 zeroC129 intT129 tyS133 zeroC133 plcs133 tyS134 zeroC134 plcs134 tyS143 zeroC143 tyS144 zeroC144 tyS145 zeroC145 plcs145 tyS146 zeroC146 plcs146 tyS150 zeroC150 intT150
end Go.Proofs.YtccjkhnefiikaaaGreatDoor
/-! Marks of lists in general; slots, tables, blocks, nodes: their data. -/
namespace Go.Sx
open Go
section
variable {α : Type} {c : α → Nat} {m : Nat → α → α}
def gsum (w : α → Nat) (l : List α) : Nat := (l.map w).sum
def szG (w : α → Nat) (l : List α) : Nat := l.length + gsum w l
theorem gsum_mem {w : α → Nat} : ∀ {es : List α} {e : α}, e ∈ es → w e ≤ gsum w es
  | a :: r, e, he => by
    cases he with
    | head => simp [gsum]
    | tail _ he => have := gsum_mem (w := w) he; simp only [gsum, List.map_cons, List.sum_cons] at this ⊢; omega
end
/-! keys, numbers, values -/
theorem Ky.dt_eq (k : Ky) : k.dt = [.raw (.bool k.text), .raw (.int .i64 k.num), .raw (.string k.str)] := rfl
def idt (n : Int) : List Dt := [.raw (.int .i64 n)]
theorem idt_len (n : Int) : (idt n).length = 1 := rfl
/-! slots, tables, blocks -/
structure Sl where
  key : Ky
  val : V
  live : Bool
  link : Int
structure Tb where
  hashed : Bool
  heads : List Int
  slots : List Sl
  next : Int
  count : Int
structure Bk where
  count : Int
  tab : Tb
def Sl.dt (s : Sl) : List Dt := s.key.dt ++ (s.val.dt ++ [.raw (.bool s.live), .raw (.int .i64 s.link)])
theorem Sl.dt_eq (e : Sl) : e.dt = [.raw (.bool e.key.text), .raw (.int .i64 e.key.num), .raw (.string e.key.str), .raw (.int .i64 e.val.kind), .raw (.int .i64 e.val.num), .raw (.string e.val.str), .raw (.int .i64 e.val.next), .row 8 (e.val.items.flatMap edt), .raw (.bool e.live), .raw (.int .i64 e.link)] := by
  simp only [Sl.dt, Ky.dt, V.dt_eq]; rfl
theorem Sl.dt_len (e : Sl) : e.dt.length = 10 := by rw [Sl.dt_eq]; rfl
def Tb.dt (t : Tb) : List Dt := [.raw (.bool t.hashed), .row 1 (t.heads.flatMap idt), .row 10 (t.slots.flatMap Sl.dt), .raw (.int .i64 t.next), .raw (.int .i64 t.count)]
def Bk.dt (b : Bk) : List Dt := .raw (.int .i64 b.count) :: b.tab.dt
theorem Bk.dt_eq (e : Bk) : e.dt = [.raw (.int .i64 e.count), .raw (.bool e.tab.hashed), .row 1 (e.tab.heads.flatMap idt), .row 10 (e.tab.slots.flatMap Sl.dt), .raw (.int .i64 e.tab.next), .raw (.int .i64 e.tab.count)] := rfl
theorem Bk.dt_len (e : Bk) : e.dt.length = 6 := rfl
/-! nodes -/
inductive Nd where
  | mk (kind num : Int) (text : ByteArray) (kids : List Nd)
namespace Nd
def kind : Nd → Int | ⟨k, _, _, _⟩ => k
def num : Nd → Int | ⟨_, n, _, _⟩ => n
def text : Nd → ByteArray | ⟨_, _, s, _⟩ => s
def kids : Nd → List Nd | ⟨_, _, _, l⟩ => l
theorem kind_mk {k n : Int} {s : ByteArray} {l : List Nd} : (Nd.mk k n s l).kind = k := (rfl)
theorem num_mk {k n : Int} {s : ByteArray} {l : List Nd} : (Nd.mk k n s l).num = n := (rfl)
theorem text_mk {k n : Int} {s : ByteArray} {l : List Nd} : (Nd.mk k n s l).text = s := (rfl)
theorem kids_mk {k n : Int} {s : ByteArray} {l : List Nd} : (Nd.mk k n s l).kids = l := (rfl)
attribute [go_sem] kind_mk num_mk text_mk kids_mk
theorem eta (v : Nd) : Nd.mk v.kind v.num v.text v.kids = v := by cases v; rfl
theorem ind {M : Nd → Prop} (h : ∀ v : Nd, (∀ e ∈ v.kids, M e) → M v) : ∀ v, M v
  | ⟨k, n, s, es⟩ => h _ (go es)
where go : ∀ es : List Nd, ∀ e ∈ es, M e
  | [], _, he => by cases he
  | v :: r, e, he => by
    cases he with
    | head => exact Nd.ind h v
    | tail _ he => exact go r e he
end Nd
mutual
def Nd.dt : Nd → List Dt
  | ⟨k, n, s, l⟩ => [.raw (.int .i64 k), .raw (.int .i64 n), .raw (.string s), .row 4 (Nd.dts l)]
def Nd.dts : List Nd → List Dt
  | [] => []
  | v :: r => Nd.dt v ++ Nd.dts r
end
theorem Nd.dts_eq : ∀ l : List Nd, Nd.dts l = l.flatMap Nd.dt
  | [] => by simp only [Nd.dts, List.flatMap_nil]
  | v :: r => by simp only [Nd.dts, List.flatMap_cons, Nd.dts_eq r]
theorem Nd.dt_eq (v : Nd) : v.dt = [.raw (.int .i64 v.kind), .raw (.int .i64 v.num), .raw (.string v.text), .row 4 (v.kids.flatMap Nd.dt)] := by
  cases v; simp only [Nd.dt, Nd.dts_eq]; rfl
theorem Nd.dt_len (v : Nd) : v.dt.length = 4 := by rw [Nd.dt_eq]; rfl
mutual
def Nd.bulk : Nd → Nat
  | ⟨_, _, s, l⟩ => s.size + Nd.bulks l
def Nd.bulks : List Nd → Nat
  | [] => 0
  | v :: r => 1 + Nd.bulk v + Nd.bulks r
end
theorem Nd.bulk_eq (v : Nd) : v.bulk = v.text.size + Nd.bulks v.kids := by cases v; simp only [Nd.bulk]; rfl
mutual
def Nd.ok : Nd → Prop
  | ⟨k, n, s, l⟩ => (IntKind.i64.min ≤ k ∧ k ≤ IntKind.i64.max) ∧ (IntKind.i64.min ≤ n ∧ n ≤ IntKind.i64.max) ∧ s.size ≤ maxLen ∧ l.length ≤ maxLen ∧ Nd.oks l
def Nd.oks : List Nd → Prop
  | [] => True
  | v :: r => Nd.ok v ∧ Nd.oks r
end
def Sl.ok (s : Sl) : Prop := s.key.ok ∧ s.val.ok ∧ IntKind.i64.min ≤ s.link ∧ s.link ≤ IntKind.i64.max
structure Tb.ok (t : Tb) : Prop where
  heads : ∀ n ∈ t.heads, IntKind.i64.min ≤ n ∧ n ≤ IntKind.i64.max
  slots : ∀ s ∈ t.slots, s.ok
  next : IntKind.i64.min ≤ t.next ∧ t.next ≤ IntKind.i64.max
  count : IntKind.i64.min ≤ t.count ∧ t.count ≤ IntKind.i64.max
  lh : t.heads.length ≤ maxLen
  ls : t.slots.length ≤ maxLen
structure Bk.ok (b : Bk) : Prop where
  count : IntKind.i64.min ≤ b.count ∧ b.count ≤ IntKind.i64.max
  tab : b.tab.ok
/-! nodes: how they lie in memory; size, depth, yields -/
theorem Nd.bulks_eq : ∀ l : List Nd, Nd.bulks l = szG Nd.bulk l
  | [] => by simp [Nd.bulks, szG, gsum]
  | v :: r => by
    have := Nd.bulks_eq r
    simp only [szG, gsum, List.length_cons, List.map_cons, List.sum_cons] at this ⊢
    simp only [Nd.bulks, this]
    omega
theorem Nd.bulks_len (l : List Nd) : l.length ≤ Nd.bulks l := by rw [Nd.bulks_eq]; unfold szG; omega
mutual
def Nd.size : Nd → Nat
  | ⟨_, _, _, l⟩ => 1 + Nd.sizes l
def Nd.sizes : List Nd → Nat
  | [] => 0
  | v :: r => Nd.size v + Nd.sizes r
end
mutual
def Nd.depth : Nd → Nat
  | ⟨_, _, _, l⟩ => Nd.depths l + 1
def Nd.depths : List Nd → Nat
  | [] => 0
  | v :: r => max (Nd.depth v) (Nd.depths r)
end
mutual
def Nd.yields : Nd → Bool
  | ⟨k, _, _, l⟩ => decide (k = 46) || Nd.anyY l
def Nd.anyY : List Nd → Bool
  | [] => false
  | v :: r => (!decide (v.kind = 23) && Nd.yields v) || Nd.anyY r
end
/-! what the laws' size functions leave of a bound -/
/-- what is left -/
def less (l : Int) (n : Nat) : Int := if (n : Int) ≤ l then l - n else -1
end Go.Sx
namespace Go.Proofs.YtccjkhnefiikaaaGreatDoor
set_option maxRecDepth 8000
open Go Go.Sx
def isDig (c : UInt8) : Bool := decide (48 ≤ c.toNat ∧ c.toNat ≤ 57)
theorem l1In_c (x lo hi : Int) (h : Hp) : ACalls Tryz.prog 27 #[.int .i64 x, .int .i64 lo, .int .i64 hi] h (Pu (.bool (decide (lo ≤ x ∧ x ≤ hi))) h) := by
  (refine enter Tryz.func27 rfl rfl (by kernel_rfl) [] ?_; simp only [go_sem, Nat.reduceBEq])
  refine Br.intro (fun hb => ?_) (fun hb => ?_) <;> (try simp only [hb, go_sem, Nat.reduceBEq])
  · simp at hb; exact ⟨by simp [hb], rfl⟩
  · simp at hb; exact ⟨by simp; omega, rfl⟩
theorem iInRange (x lo hi : Int) (h : Hp) : ACalls Tryz.prog 18 #[.int .i64 x, .int .i64 lo, .int .i64 hi] h (Pu (.bool (decide (lo ≤ x ∧ x ≤ hi))) h) := by
  (refine enter Tryz.func18 rfl rfl (by kernel_rfl) [] ?_; simp only [go_sem, Nat.reduceBEq])
  refine Br.intro (fun hb => ?_) (fun hb => ?_) <;> (try simp only [hb, go_sem, Nat.reduceBEq])
  · simp at hb; exact ⟨by simp [hb], rfl⟩
  · simp at hb; exact ⟨by simp; omega, rfl⟩
theorem iMin (a b : Int) (h : Hp) : ACalls Tryz.prog 56 #[.int .i64 a, .int .i64 b] h (Pu (.int .i64 (min a b)) h) := by
  (refine enter Tryz.func56 rfl rfl (by kernel_rfl) [] ?_; simp only [go_sem, Nat.reduceBEq])
  refine Br.intro (fun h1 => ?_) (fun h1 => ?_) <;> (try simp only [h1, go_sem, Nat.reduceBEq])
  · have := of_decide_eq_true h1; exact ⟨by rw [Int.min_eq_right (by omega)], rfl⟩
  · have := of_decide_eq_false h1; exact ⟨by rw [Int.min_eq_left (by omega)], rfl⟩
theorem sMax (a b : Int) (h : Hp) : ACalls Tryz.prog 68 #[.int .i64 a, .int .i64 b] h (Pu (.int .i64 (max a b)) h) := by
  (refine enter Tryz.func68 rfl rfl (by kernel_rfl) [] ?_; simp only [go_sem, Nat.reduceBEq])
  refine Br.intro (fun h1 => ?_) (fun h1 => ?_) <;> (try simp only [h1, go_sem, Nat.reduceBEq])
  · have := of_decide_eq_true h1; exact ⟨by rw [Int.max_eq_right (by omega)], rfl⟩
  · have := of_decide_eq_false h1; exact ⟨by rw [Int.max_eq_left (by omega)], rfl⟩
end Go.Proofs.YtccjkhnefiikaaaGreatDoor
/-! Parts of slices that are only read; rows whose cells are shared. -/
namespace Go.Sx
open Go
section
variable {α : Type} {f : α → List Dt} {z : Nat}
theorem fm_drop (hf : ∀ a, (f a).length = z) (l : List α) (i : Nat) : (l.flatMap f).drop (i * z) = (l.drop i).flatMap f := by
  by_cases hi : i ≤ l.length
  · have e : l.flatMap f = (l.take i).flatMap f ++ (l.drop i).flatMap f := by rw [← List.flatMap_append, List.take_append_drop]
    rw [e, List.drop_append_of_le_length (by rw [fm_len hf, List.length_take, Nat.min_eq_left hi]; exact Nat.le_refl _), List.drop_of_length_le (by rw [fm_len hf, List.length_take, Nat.min_eq_left hi]; exact Nat.le_refl _), List.nil_append]
  · rw [List.drop_of_length_le (by rw [fm_len hf]; exact Nat.mul_le_mul_right _ (by omega)), List.drop_of_length_le (by omega)]
    rfl
theorem fm_takeN (hf : ∀ a, (f a).length = z) (l : List α) (i : Nat) : (l.flatMap f).take (i * z) = (l.take i).flatMap f := by
  by_cases hi : i ≤ l.length
  · have e : l.flatMap f = (l.take i).flatMap f ++ (l.drop i).flatMap f := by rw [← List.flatMap_append, List.take_append_drop]
    rw [e, List.take_append_of_le_length (by rw [fm_len hf, List.length_take, Nat.min_eq_left hi]; exact Nat.le_refl _), List.take_of_length_le (by rw [fm_len hf, List.length_take, Nat.min_eq_left hi]; exact Nat.le_refl _)]
  · rw [List.take_of_length_le (by rw [fm_len hf]; exact Nat.mul_le_mul_right _ (by omega)), List.take_of_length_le (by omega)]
variable {h : Hp}
theorem one_take {xs : List Value} (h1 : oneCells xs = true) (k : Nat) : oneCells (xs.take k) = true := by
  rw [← List.take_append_drop k xs, oneCells_append] at h1
  exact (Bool.and_eq_true _ _ ▸ h1).1
theorem one_drop {xs : List Value} (h1 : oneCells xs = true) (k : Nat) : oneCells (xs.drop k) = true := by
  rw [← List.take_append_drop k xs, oneCells_append] at h1
  exact (Bool.and_eq_true _ _ ▸ h1).2
/-- A slice expression over a slice that is read. -/
theorem RdS.sub {a : Option Addr} {n c : Nat} {xs : List Value} (rd : RdS h z (.slice a n c) xs) (i j : Nat) (hij : i ≤ j) (hj : j ≤ n) :
    ∃ a', slA (some z) a n c (i : Int) (j : Int) = some (.slice a' (j - i) (c - i)) ∧ RdS h z (.slice a' (j - i) (c - i)) ((xs.drop (i * z)).take ((j - i) * z)) := by
  obtain ⟨⟨a0, n0, c0, e0, hc, hl, hat⟩, h1⟩ := rd
  cases e0
  refine ⟨if c = i then a else a.map (·.add (i * z)), ?_, ⟨⟨_, _, _, rfl, by omega, ?_, ?_⟩, one_take (one_drop h1 _) _⟩⟩
  · rw [slA_, if_pos (by omega)]
    simp only [Int.toNat_natCast]
  · rw [List.length_take, List.length_drop, hl, ← Nat.sub_mul]
    exact Nat.min_eq_left (Nat.mul_le_mul_right _ (by omega))
  · rcases hat with rfl | ⟨ad, rfl, cur, t, fz, hb, hs, hv⟩
    · left; simp
    · by_cases hji : j = i
      · left; subst hji; simp
      · right
        rw [if_neg (by omega)]
        obtain ⟨b, o, sp⟩ := ad
        have hs : sp = none := hs
        subst hs
        have ea : (Addr.mk b o none).add (i * z) = ⟨b, o + i * z, none⟩ := by
          unfold Addr.add
          split
          · rename_i h0; rw [h0]; rfl
          · rfl
        refine ⟨⟨b, o + i * z, none⟩, by rw [← ea]; rfl, cur, t, fz, hb, rfl, fun q u hq => ?_⟩
        have hq2 : xs[i * z + q]? = some u := by
          have hlt := (List.getElem?_eq_some_iff.1 hq).1
          rw [List.length_take] at hlt
          rw [List.getElem?_take_of_lt (by omega), List.getElem?_drop] at hq
          exact hq
        have := hv _ _ hq2
        show cur[o + i * z + q]? = some u
        rw [Nat.add_assoc]
        exact this
/-- .. of a row of things. -/
theorem Rd.sub (hf : ∀ a, (f a).length = z) {a : Option Addr} {n c : Nat} {l : List α} (rd : Rd h (.row z (l.flatMap f)) (.slice a n c)) (i j : Nat) (hij : i ≤ j) (hj : j ≤ n) :
    ∃ a' ys, slA (some z) a n c (i : Int) (j : Int) = some (.slice a' (j - i) (c - i)) ∧ RdS h z (.slice a' (j - i) (c - i)) ys ∧ RdL h (((l.drop i).take (j - i)).flatMap f) ys := by
  simp only [Rd] at rd
  obtain ⟨xs, h1, h2⟩ := rd
  obtain ⟨a', h3, h4⟩ := h1.sub i j hij hj
  refine ⟨a', _, h3, h4, ?_⟩
  rw [← fm_takeN hf, ← fm_drop hf]
  exact (h2.drop _).take _
/-- A row of the walk's own whose cells are shared with what is read. -/
theorem Rd.of_raws {cs : List Dt} {us : List Value} {v : Value} (m : Rd h (.row z (us.map .raw)) v) (r : RdL h cs us) : Rd h (.row z cs) v := by
  simp only [Rd] at m ⊢
  obtain ⟨xs, h1, h2⟩ := m
  rw [RdL.of_raws h2] at h1
  exact ⟨us, h1, r⟩
end
end Go.Sx
/-! Things with a hole: some cells of a block of the walk's own are read, written, taken out and put back, wherever they lie; variables that live in the heap. -/
namespace Go.Sx
open Go
/-- The cells 'x' of the thing 'c x' lie at 'off' of the block 'b'. -/
def Hold (c : List Dt → Dt) (val : Value) (b off : Nat) : Prop :=
  ∀ (h : Hp) (x : List Dt) (B : List Nat), Ow h (c x) val B → ∃ (e : Nat) (xp xs xq : List Value) (Bp Bx Bq : List Nat), h b = some (.cells (xp ++ (xs ++ xq)).toArray e (0, 0)) ∧ xp.length = off ∧ OwL h x xs Bx ∧ B = b :: (Bp ++ (Bx ++ Bq)) ∧
    ∀ (h' : Hp) (x' : List Dt) (xs' : List Value) (Bx' : List Nat), h' b = some (.cells (xp ++ (xs' ++ xq)).toArray e (0, 0)) → OwL h' x' xs' Bx' → xs'.length = xs.length → (∀ b' ∈ Bp ++ Bq, h' b' = h b') → Ow h' (c x') val (b :: (Bp ++ (Bx' ++ Bq)))
theorem Hold.ptr {p q : List Dt} {b : Nat} : Hold (fun x => .ptr p x q) (.pointer (some ⟨b, p.length, none⟩)) b p.length := by
  intro h x B o
  simp only [Ow] at o
  obtain ⟨b1, cur, e, xp, xs, xq, B1, B2, B3, e1, hb, hc, o1, o2, o3, rfl⟩ := o
  have hp := o1.len
  simp only [Value.pointer.injEq, Option.some.injEq, Addr.mk.injEq] at e1
  obtain ⟨rfl, _, _⟩ := e1
  refine ⟨e, xp, xs, xq, B1, B2, B3, ?_, hp, o2, rfl, fun h' x' xs' Bx' hb' o2' hl hf => ?_⟩
  · rw [← hc, Array.toArray_toList]
    exact hb
  · simp only [Ow]
    exact ⟨b, _, e, xp, xs', xq, B1, Bx', B3, by rw [hp], hb', rfl, o1.frame fun b' hb => hf b' (by simp [hb]), o2', o3.frame fun b' hb => hf b' (by simp [hb]), rfl⟩
theorem Hold.row {z len cap b : Nat} {p q : List Dt} (h0 : 0 < len) : Hold (fun x => .row z (p ++ (x ++ q))) (.slice (some ⟨b, 0, none⟩) len cap) b p.length := by
  intro h x B o
  simp only [Ow] at o
  obtain ⟨xs, C1, C2, o1, o2, rfl⟩ := o
  cases o1 with
  | nil => omega
  | row hb hn hm hz hl ht h1 hp =>
    rename_i cur e
    obtain ⟨xa, xr, D1, D2, rfl, rfl, p1, p2⟩ := o2.split
    obtain ⟨xo, xq, E1, E2, rfl, rfl, p3, p4⟩ := p2.split
    obtain ⟨cl⟩ := cur
    simp only at ht hz
    have hcl : cl.length = cap * z := by simpa using hz
    obtain ⟨junk, hj⟩ : ∃ junk, cl = xa ++ (xo ++ xq) ++ junk := ⟨cl.drop (len * z), by rw [← ht, List.take_append_drop]⟩
    refine ⟨e, xa, xo, xq ++ junk, D1, E1, E2, ?_, p1.len, p3, by simp, fun h' x' xs' Bx' hb' o' hl' hf => ?_⟩
    · rw [hb, hj]
      simp
    · have q1 := p1.frame (h' := h') fun b' hb => hf b' (by simp [hb])
      have q4 := p4.frame (h' := h') fun b' hb => hf b' (by simp [hb])
      have ow := q1.append (o'.append q4)
      simp only [Ow]
      have hlen : (xa ++ (xs' ++ xq)).length = len * z := by
        rw [← hl]
        simp only [List.length_append]
        omega
      refine ⟨xa ++ (xs' ++ xq), [b], D1 ++ (Bx' ++ E2), .row hb' hn hm ?_ hlen ?_ ow.one h0, ow, rfl⟩
      · rw [← hcl, hj]
        simp only [List.size_toArray, List.length_append]
        omega
      · rw [← hlen]
        have : xa ++ (xs' ++ (xq ++ junk)) = xa ++ (xs' ++ xq) ++ junk := by simp
        simp only [this]
        exact List.take_left
theorem Hold.sub {c : List Dt → Dt} {val : Value} {b off : Nat} (k : Hold c val b off) (X Y : List Dt) : Hold (fun y => c (X ++ (y ++ Y))) val b (off + X.length) := by
  intro h y B o
  obtain ⟨e, xp, xs, xq, Bp, Bx, Bq, hb, hp, ox, rfl, put⟩ := k h _ B o
  obtain ⟨xa, xr, D1, D2, rfl, rfl, p1, p2⟩ := ox.split
  obtain ⟨xo, xy, E1, E2, rfl, rfl, p3, p4⟩ := p2.split
  refine ⟨e, xp ++ xa, xo, xy ++ xq, Bp ++ D1, E1, E2 ++ Bq, ?_, by rw [List.length_append, hp, p1.len], p3, by simp, fun h' x' xs' Bx' hb' o' hl' hf => ?_⟩
  · rw [hb]
    simp
  · have q1 := p1.frame (h' := h') fun b' hb => hf b' (by simp [hb])
    have q4 := p4.frame (h' := h') fun b' hb => hf b' (by simp [hb])
    have := put h' (X ++ (x' ++ Y)) (xa ++ (xs' ++ xy)) (D1 ++ (Bx' ++ E2)) (by rw [hb']; simp) (q1.append (o'.append q4)) (by simp only [List.length_append]; omega) fun b' hb => hf b' (by
      rcases List.mem_append.1 hb with hb | hb <;> simp [hb])
    simpa using this
/-- the same, the place written another way -/
theorem Hold.at_ {c : List Dt → Dt} {val : Value} {b off off' : Nat} (k : Hold c val b off) (e : off' = off) : Hold c val b off' := e ▸ k
section
variable {P : Program} {h0 h : Hp} {K : Value → Hp → Prop} {bag : Bag} {c : List Dt → Dt} {val : Value} {b off : Nat}
theorem Hold.rd (hd : Hold c val b off) {x : List Dt} (m : My h0 h ((c x, val) :: bag)) : ∃ xs, RdL h x xs ∧ At h ⟨b, off, none⟩ xs := by
  obtain ⟨B1, B2, l1, _⟩ := My.cons_iff.1 m
  obtain ⟨e, xp, xs, xq, Bp, Bx, Bq, hb, hp, ox, rfl, _⟩ := hd h x B1 l1
  refine ⟨xs, ox.rd, _, _, _, hb, rfl, fun j u hj => ?_⟩
  simp only [List.getElem?_toArray]
  rw [← hp, List.getElem?_append_right (by omega), Nat.add_sub_cancel_left, List.getElem?_append_left (List.getElem?_eq_some_iff.1 hj).1]
  exact hj
/-- The load of a cell. -/
theorem Hold.load1 (hd : Hold c val b off) {t n i j : Nat} {x : List Dt} {d : Dt} (ht : tyS P t = some (false, n)) (m : My h0 h ((c x, val) :: bag)) (hi : x[i]? = some d) (hj : j = off + i) (k : ∀ v, Rd h d v → K v h) : HPure P (ldI t (.pointer (some ⟨b, j, none⟩))) h K := by
  obtain ⟨xs, hr, hat⟩ := hd.rd m
  exact hsem_get1 ht hat hr hi hj k
/-- The load of a struct. -/
theorem Hold.loadN (hd : Hold c val b off) {t n i j : Nat} {x ds : List Dt} (ht : tyS P t = some (true, n)) (m : My h0 h ((c x, val) :: bag)) (hi : (x.drop i).take n = ds) (hl : ds.length = n) (hj : j = off + i) (k : ∀ ys, RdL h ds ys → K (.agg ys.toArray) h) : HPure P (ldI t (.pointer (some ⟨b, j, none⟩))) h K := by
  obtain ⟨xs, hr, hat⟩ := hd.rd m
  exact hsem_getN ht hat hr hi hl hj k
/-- The store of all the cells. -/
theorem Hold.store (hd : Hold c val b off) {t n j : Nat} {ag : Bool} {x es : List Dt} {u : Value} (ht : tyS P t = some (ag, n)) (m : My h0 h (es.zip u.cells.toList ++ ((c x, val) :: bag))) (hx : x.length = n) (he : es.length = n) (hu : u.cells.toList.length = n) (hj : j = off)
    (k : ∀ h', My h0 h' ((c es, val) :: bag) → K undef h') : HSem P (stI t (.pointer (some ⟨b, j, none⟩)) u) h K := by
  subst hj
  obtain ⟨B1, B2, l1, l2, k2, k3, k4⟩ := My.cons_iff.1 (m.perm List.perm_middle)
  have z1 : (es.zip u.cells.toList).map (·.1) = es := List.map_fst_zip (by omega)
  have z2 : (es.zip u.cells.toList).map (·.2) = u.cells.toList := List.map_snd_zip (by omega)
  rw [List.map_append, List.map_append, z1, z2] at l2
  obtain ⟨F1, F2, rfl, q1, q2⟩ := l2.split' (by omega)
  obtain ⟨e, xp, xs, xq, Bp, Bx, Bq, hb, hp, ox, rfl, put⟩ := hd h x B1 l1
  have hxs := ox.len
  refine hsem_store ht hb hu q1.rd.one (by simp only [List.size_toArray, List.length_append]; omega) ?_
  have hsp : splice (xp ++ (xs ++ xq)) j u.cells.toList = xp ++ (u.cells.toList ++ xq) := by rw [← hp, splice_mid (by omega)]
  show K undef (hset h b (.cells (splice (xp ++ (xs ++ xq)) j u.cells.toList).toArray e (0, 0)))
  rw [hsp]
  refine k _ ?_
  have hnb : ∀ b' ∈ (Bp ++ (Bx ++ Bq)) ++ (F1 ++ F2), b' ≠ b := by
    intro b' hb' he'
    subst he'
    exact (List.nodup_cons.1 (show (b' :: ((Bp ++ (Bx ++ Bq)) ++ (F1 ++ F2))).Nodup by simpa using k2)).1 hb'
  have fr : ∀ {ds : List Dt} {ys : List Value} {B : List Nat}, OwL h ds ys B → (∀ b' ∈ B, b' ∈ (Bp ++ (Bx ++ Bq)) ++ (F1 ++ F2)) → OwL (hset h b (.cells (xp ++ (u.cells.toList ++ xq)).toArray e (0, 0))) ds ys B :=
    fun k hB => k.frame fun b' hb' => hset_other (hnb b' (hB b' hb'))
  rw [My.cons_iff]
  refine ⟨b :: (Bp ++ (F1 ++ Bq)), F2, put _ es u.cells.toList F1 (hset_same _ _ _) (fr q1 (by simp +contextual)) (by omega) (fun b' hb' => hset_other (hnb b' ?_)), fr q2 (by simp +contextual), ?_, ?_, ?_⟩
  · rcases List.mem_append.1 hb' with h | h <;> simp [h]
  · have hp2 : (b :: (Bp ++ (Bx ++ Bq)) ++ (F1 ++ F2)).Perm ((b :: (Bp ++ (F1 ++ Bq)) ++ F2) ++ Bx) := by
      simp only [List.cons_append, List.append_assoc]
      refine List.Perm.cons b (List.Perm.append_left Bp ?_)
      have e1 : (Bx ++ (Bq ++ (F1 ++ F2))).Perm ((Bq ++ (F1 ++ F2)) ++ Bx) := List.perm_append_comm
      refine e1.trans ?_
      have e2 : (Bq ++ (F1 ++ F2)).Perm (F1 ++ (Bq ++ F2)) := by
        rw [← List.append_assoc, ← List.append_assoc]
        exact List.perm_append_comm.append_right F2
      simpa using e2.append_right Bx
    exact (List.nodup_append.1 (hp2.nodup_iff.1 (by simpa using k2))).1
  · intro b' hb'
    refine k3 b' ?_
    simp only [List.cons_append, List.mem_cons, List.mem_append] at hb' ⊢
    rcases hb' with h | (h | h | h) | h <;> simp [h]
  · intro i o hi
    have hne : i ≠ b := by
      rintro rfl
      rw [k3 i (by simp)] at hi
      cases hi
    rw [hset_other hne]
    exact k4 i o hi
/-- A cell is taken out. -/
theorem Hold.open_ (hd : Hold c val b off) {X Y : List Dt} {d : Dt} (m : My h0 h ((c (X ++ d :: Y), val) :: bag)) : ∃ u, My h0 h ((d, u) :: (c (X ++ .raw u :: Y), val) :: bag) := by
  obtain ⟨B1, B2, l1, l2, k2, k3, k4⟩ := My.cons_iff.1 m
  obtain ⟨e, xp, xs, xq, Bp, Bx, Bq, hb, hp, ox, rfl, put⟩ := hd h _ B1 l1
  obtain ⟨ys, zs, D1, D2, rfl, rfl, o3, o4⟩ := ox.split
  simp only [OwL] at o4
  obtain ⟨u, ws, E1, E2, rfl, o5, o6, rfl⟩ := o4
  refine ⟨u, My.perm (List.Perm.swap _ _ _) ?_⟩
  rw [My.cons_iff]
  refine ⟨b :: (Bp ++ ((D1 ++ E2) ++ Bq)), E1 ++ B2, put h _ (ys ++ u :: ws) (D1 ++ E2) hb (o3.append (by simp only [OwL, Ow]; exact ⟨u, ws, [], E2, rfl, ⟨rfl, o5.rd.one, rfl⟩, o6, rfl⟩)) rfl (fun _ _ => rfl), ?_, ?_, ?_, k4⟩
  · simp only [List.map_cons, OwL_cc]
    exact ⟨E1, B2, o5, l2, rfl⟩
  · have : (b :: (Bp ++ ((D1 ++ (E1 ++ E2)) ++ Bq)) ++ B2).Perm (b :: (Bp ++ ((D1 ++ E2) ++ Bq)) ++ (E1 ++ B2)) := by
      simp only [List.cons_append, List.append_assoc]
      refine List.Perm.cons b (List.Perm.append_left Bp (List.Perm.append_left D1 ?_))
      have e1 : (E1 ++ (E2 ++ (Bq ++ B2))).Perm ((E2 ++ Bq) ++ (E1 ++ B2)) := by
        have := (List.perm_append_comm (l₁ := E1) (l₂ := E2 ++ Bq)).append_right B2
        simpa using this
      simpa using e1
    exact this.nodup_iff.1 k2
  · intro b' hb'
    refine k3 b' ?_
    simp only [List.cons_append, List.mem_cons, List.mem_append] at hb' ⊢
    rcases hb' with h | (h | (h | h) | h) | h | h <;> simp [h]
theorem Hold.close (hd : Hold c val b off) {X Y : List Dt} {d : Dt} {u : Value} (m : My h0 h ((d, u) :: (c (X ++ .raw u :: Y), val) :: bag)) : My h0 h ((c (X ++ d :: Y), val) :: bag) := by
  obtain ⟨B1, B2, l1, l2, k2, k3, k4⟩ := My.cons_iff.1 m.swap
  simp only [List.map_cons, OwL_cc] at l2
  obtain ⟨E1, B2, o5, l2, rfl⟩ := l2
  obtain ⟨e, xp, xs, xq, Bp, Bx, Bq, hb, hp, ox, rfl, put⟩ := hd h _ B1 l1
  obtain ⟨ys, zs, D1, D2, rfl, rfl, o3, o4⟩ := ox.split
  simp only [OwL, Ow] at o4
  obtain ⟨_, ws, b0, E2, rfl, ⟨rfl, _, hb0⟩, o6, hD⟩ := o4
  subst hb0
  rw [List.nil_append] at hD
  subst hD
  rw [My.cons_iff]
  refine ⟨b :: (Bp ++ ((D1 ++ (E1 ++ D2)) ++ Bq)), B2, put h _ (ys ++ _ :: ws) (D1 ++ (E1 ++ D2)) hb (o3.append (by simp only [OwL]; exact ⟨_, ws, E1, D2, rfl, o5, o6, rfl⟩)) rfl (fun _ _ => rfl), l2, ?_, ?_, k4⟩
  · have : (b :: (Bp ++ ((D1 ++ (E1 ++ D2)) ++ Bq)) ++ B2).Perm (b :: (Bp ++ ((D1 ++ D2) ++ Bq)) ++ (E1 ++ B2)) := by
      simp only [List.cons_append, List.append_assoc]
      refine List.Perm.cons b (List.Perm.append_left Bp (List.Perm.append_left D1 ?_))
      have e1 : (E1 ++ (D2 ++ (Bq ++ B2))).Perm ((D2 ++ Bq) ++ (E1 ++ B2)) := by
        have := (List.perm_append_comm (l₁ := E1) (l₂ := D2 ++ Bq)).append_right B2
        simpa using this
      simpa using e1
    exact this.nodup_iff.2 k2
  · intro b' hb'
    refine k3 b' ?_
    simp only [List.cons_append, List.mem_cons, List.mem_append] at hb' ⊢
    rcases hb' with h | (h | (h | h | h) | h) | h <;> simp [h]
/-- A new variable in the heap that holds things of the bag. -/
theorem my_var {es : List Dt} {us : List Value} {e : Nat} (my : My h0 h (es.zip us ++ bag)) (hb : h b = none) (hl : es.length = us.length) : My h0 (hset h b (.cells us.toArray e (0, 0))) ((.ptr [] es [], .pointer (some ⟨b, 0, none⟩)) :: bag) := by
  obtain ⟨⟨B, k1, k2, k3⟩, k4⟩ := my
  rw [List.map_append, List.map_append, List.map_fst_zip (by omega), List.map_snd_zip (by omega)] at k1
  obtain ⟨C, D, rfl, k5, k6⟩ := k1.split' hl.symm
  have e1 := ext_set hb (.cells us.toArray e (0, 0))
  rw [My.cons_iff]
  refine ⟨b :: C, D, ?_, k6.ext e1, ?_, ?_, k4.trans e1⟩
  · simp only [Ow, OwL]
    exact ⟨b, _, e, [], us, [], [], C, [], rfl, hset_same _ _ _, by simp, ⟨rfl, rfl⟩, k5.ext e1, ⟨rfl, rfl⟩, by simp⟩
  · refine List.nodup_cons.2 ⟨fun hb' => ?_, k2⟩
    have hb' : b ∈ C ++ D := hb'
    have : ∃ o, h b = some o := by
      rcases List.mem_append.1 hb' with h1 | h1
      · exact k5.there b h1
      · exact k6.there b h1
    obtain ⟨o, ho⟩ := this
    rw [hb] at ho
    cases ho
  · intro b' hb'
    simp only [List.cons_append, List.mem_cons] at hb'
    rcases hb' with rfl | h1
    · exact none_of_ext k4 hb
    · exact k3 b' h1
theorem raws_zip : ∀ {us : List Value}, oneCells us = true → My h0 h bag → My h0 h ((us.map Dt.raw).zip us ++ bag)
  | [], _, m => m
  | u :: us, hu, m => by
    simp only [oneCells, Bool.and_eq_true] at hu
    exact (raws_zip hu.2 m).raw hu.1
theorem hsem_my_alloc {t : Nat} {z : List Value} (hz : zeroC P t = some z) (h1 : oneCells z = true) (my : My h0 h bag) (k : ∀ b h', My h0 h' ((.ptr [] (z.map .raw) [], .pointer (some ⟨b, 0, none⟩)) :: bag) → K (.pointer (some ⟨b, 0, none⟩)) h') : HSem P (alI t) h K := by
  unfold zeroC at hz
  cases hi : P.info? t with
  | none => rw [hi] at hz; cases hz
  | some i =>
    rw [hi] at hz
    simp only [Option.bind_some, Option.map_eq_some_iff] at hz
    obtain ⟨v, hv, rfl⟩ := hz
    refine hsem_alloc (v := fun b => .pointer (some ⟨b, 0, none⟩)) (o := .cells v.cells t (0, 0)) (fun w _ => ?_) fun b hb => k b _ ?_
    · simp [alI, Instr.alloc, zeroValue, run_info hi, hv, newVar, newRow]
    · have := my_var (e := t) (raws_zip h1 my) hb (by simp)
      simpa using this
theorem hsem_my_box {t : Nat} {v : Value} {es : List Dt} (my : My h0 h (es.zip v.cells.toList ++ bag)) (hl : es.length = v.cells.toList.length) (k : ∀ b h', My h0 h' ((.ptr [] es [], .pointer (some ⟨b, 0, none⟩)) :: bag) → K (.pointer (some ⟨b, 0, none⟩)) h') : HSem P (bxI t v) h K := by
  refine hsem_alloc (v := fun b => .pointer (some ⟨b, 0, none⟩)) (o := .cells v.cells t (0, 0)) (fun w _ => ?_) fun b hb => k b _ ?_
  · simp [bxI, Instr.box, newVar, newRow]
  · have := my_var (e := t) my hb hl
    simpa using this
end
end Go.Sx
/-! A cursor: three cells in the heap (bytes, place, state) that draws read and write. -/
namespace Go.Sx
open Go
variable {P : Program} {h0 h : Hp} {K : Value → Hp → Prop} {bag : Bag} {p : Nat} {sl : Value} {i hh : Int}
def cuDt (sl : Value) (i hh : Int) : Dt := .ptr [] [.raw sl, .raw (.int .i64 i), .raw (.int .i64 hh)] []
def pv (p : Nat) : Value := .pointer (some ⟨p, 0, none⟩)
/-- The walk owns a cursor over the bytes 'l', and the rest. -/
def CurM (h0 h : Hp) (l : List UInt8) (p : Nat) (bag : Bag) : Prop :=
  ∃ (a : Option Addr) (c i : Nat) (hh : Int), i ≤ l.length ∧ RdS h0 1 (.slice a l.length c) (bcells l) ∧ My h0 h ((cuDt (.slice a l.length c) i hh, pv p) :: bag)
theorem cu_ldB {t n j : Nat} (ht : tyS P t = some (false, n)) (m : My h0 h ((cuDt sl i hh, pv p) :: bag)) (hj : j = 0) (k : K sl h) : HPure P (ldI t (.pointer (some ⟨p, j, none⟩))) h K := by
  refine (Hold.ptr (p := []) (q := [])).load1 (i := 0) (d := .raw sl) ht m rfl (by simpa using hj) fun u ru => ?_
  obtain ⟨rfl, _⟩ := Rd_raw.1 ru
  exact k
theorem cu_ldI {t n j : Nat} (ht : tyS P t = some (false, n)) (m : My h0 h ((cuDt sl i hh, pv p) :: bag)) (hj : j = 1) (k : K (.int .i64 i) h) : HPure P (ldI t (.pointer (some ⟨p, j, none⟩))) h K := by
  refine (Hold.ptr (p := []) (q := [])).load1 (i := 1) (d := .raw (.int .i64 i)) ht m rfl (by simpa using hj) fun u ru => ?_
  obtain ⟨rfl, _⟩ := Rd_raw.1 ru
  exact k
theorem cu_ldH {t n j : Nat} (ht : tyS P t = some (false, n)) (m : My h0 h ((cuDt sl i hh, pv p) :: bag)) (hj : j = 2) (k : K (.int .i64 hh) h) : HPure P (ldI t (.pointer (some ⟨p, j, none⟩))) h K := by
  refine (Hold.ptr (p := []) (q := [])).load1 (i := 2) (d := .raw (.int .i64 hh)) ht m rfl (by simpa using hj) fun u ru => ?_
  obtain ⟨rfl, _⟩ := Rd_raw.1 ru
  exact k
theorem cu_stI {t j : Nat} {n : Int} (ht : tyS P t = some (false, 1)) (m : My h0 h ((cuDt sl i hh, pv p) :: bag)) (hj : j = 1) (k : ∀ h', My h0 h' ((cuDt sl n hh, pv p) :: bag) → K undef h') : HSem P (stI t (.pointer (some ⟨p, j, none⟩)) (.int .i64 n)) h K := by
  have m1 : My h0 h ((.raw (.int .i64 n), .int .i64 n) :: ((fun x => Dt.ptr [] x []) ([.raw sl] ++ ([.raw (.int .i64 i)] ++ [.raw (.int .i64 hh)])), pv p) :: bag) := m.raw rfl
  exact ((Hold.ptr (p := []) (q := [])).sub [.raw sl] [.raw (.int .i64 hh)]).store (h0 := h0) (bag := bag) (x := [.raw (.int .i64 i)]) (es := [.raw (.int .i64 n)]) ht m1 rfl rfl rfl (by simpa using hj) fun h' m' => k h' m'
theorem cu_stH {t j : Nat} {n : Int} (ht : tyS P t = some (false, 1)) (m : My h0 h ((cuDt sl i hh, pv p) :: bag)) (hj : j = 2) (k : ∀ h', My h0 h' ((cuDt sl i n, pv p) :: bag) → K undef h') : HSem P (stI t (.pointer (some ⟨p, j, none⟩)) (.int .i64 n)) h K := by
  have m1 : My h0 h ((.raw (.int .i64 n), .int .i64 n) :: ((fun x => Dt.ptr [] x []) ([.raw sl, .raw (.int .i64 i)] ++ ([.raw (.int .i64 hh)] ++ [])), pv p) :: bag) := m.raw rfl
  exact ((Hold.ptr (p := []) (q := [])).sub [.raw sl, .raw (.int .i64 i)] []).store (h0 := h0) (bag := bag) (x := [.raw (.int .i64 hh)]) (es := [.raw (.int .i64 n)]) ht m1 rfl rfl rfl (by simpa using hj) fun h' m' => k h' m'
/-- .. and what is below the cursor in the bag may change. -/
theorem CurM.upd {l : List UInt8} {bag' : Bag} {h' : Hp} (c : CurM h0 h l p bag) (f : ∀ d, My h0 h ((d, pv p) :: bag) → My h0 h' ((d, pv p) :: bag')) : CurM h0 h' l p bag' := by
  obtain ⟨a, c, i, hh, h1, h2, h3⟩ := c
  exact ⟨a, c, i, hh, h1, h2, f _ h3⟩
theorem My.raws3 {a : Option Addr} {n c : Nat} {x y : Int} (m : My h0 h bag) : My h0 h ([Dt.raw (.slice a n c), .raw (.int .i64 x), .raw (.int .i64 y)].zip (Value.agg #[.slice a n c, .int .i64 x, .int .i64 y]).cells.toList ++ bag) :=
  ((m.raw (u := .int .i64 y) rfl).raw (u := .int .i64 x) rfl).raw (u := .slice a n c) rfl
theorem CurM.mono {l : List UInt8} {h' : Hp} (c : CurM h0 h l p bag) (e : Ext h h') : CurM h0 h' l p bag := c.upd fun _ m => m.mono e
theorem CurM.my {l : List UInt8} (c : CurM h0 h l p bag) : My h0 h bag := by
  obtain ⟨a, c, i, hh, h1, h2, h3⟩ := c
  exact h3.drop
theorem CurM.add {l : List UInt8} {bag' : Bag} {h' : Hp} (c : CurM h0 h l p bag) (n : My h h' bag') : CurM h0 h' l p (bag' ++ bag) := c.upd fun d m => (m.add n).perm List.perm_middle
theorem CurM.drop {l : List UInt8} {x : Dt × Value} (c : CurM h0 h l p (x :: bag)) : CurM h0 h l p bag := c.upd fun d m => m.swap.drop
/-- a step that changes the rest alone, seen with the cursor behind the things that the step is about -/
theorem CurM.fst {l : List UInt8} {x : Dt × Value} (c : CurM h0 h l p (x :: bag)) : ∃ y, My h0 h (x :: y :: bag) ∧ ∀ h' x', My h0 h' (x' ++ y :: bag) → CurM h0 h' l p (x' ++ bag) := by
  obtain ⟨a, c, i, hh, h1, h2, h3⟩ := c
  exact ⟨_, h3.swap, fun h' x' m => ⟨a, c, i, hh, h1, h2, m.perm List.perm_middle⟩⟩
/-- the same with nothing ahead -/
theorem CurM.top {l : List UInt8} (c : CurM h0 h l p bag) : ∃ y, My h0 h (y :: bag) ∧ ∀ h' x', My h0 h' (x' ++ y :: bag) → CurM h0 h' l p (x' ++ bag) := by
  obtain ⟨a, c, i, hh, h1, h2, h3⟩ := c
  exact ⟨_, h3, fun h' x' m => ⟨a, c, i, hh, h1, h2, m.perm List.perm_middle⟩⟩
theorem CurM.row0 {l : List UInt8} {z n : Nat} {cs : List Dt} {v : Value} (c : CurM h0 h l p ((.row z cs, v) :: bag)) (hn : 0 < n) (hc : cs.length = n * z) (hz : 0 < z := by decide) : ∃ b k, v = .slice (some ⟨b, 0, none⟩) n k := by
  obtain ⟨a, k, rfl, _, _, hat⟩ := c.my.row_shape hz n hc
  obtain ⟨b, rfl⟩ := hat hn
  exact ⟨b, k, rfl⟩
/-- A draw of a number. -/
def NumP (lo hi : Int) (h0 : Hp) (l : List UInt8) (p : Nat) (bag : Bag) (u : Value) (h' : Hp) : Prop := ∃ n : Int, u = .int .i64 n ∧ lo ≤ n ∧ n ≤ hi ∧ CurM h0 h' l p bag
def BoolP (h0 : Hp) (l : List UInt8) (p : Nat) (bag : Bag) (u : Value) (h' : Hp) : Prop := ∃ b : Bool, u = .bool b ∧ CurM h0 h' l p bag
def IntP (ns : List Int) (h0 : Hp) (l : List UInt8) (p : Nat) (bag : Bag) (u : Value) (h' : Hp) : Prop := ∃ n ∈ ns, u = .int .i64 n ∧ CurM h0 h' l p bag
def StrP (ss : List ByteArray) (h0 : Hp) (l : List UInt8) (p : Nat) (bag : Bag) (u : Value) (h' : Hp) : Prop := ∃ s ∈ ss, u = .string s ∧ CurM h0 h' l p bag
def sdt (s : ByteArray) : List Dt := [.raw (.string s)]
theorem sdt_len (s : ByteArray) : (sdt s).length = 1 := rfl
theorem and255 (a : Int) : ∃ n : Nat, n < 256 ∧ IntKind.i64.wrap ((BitVec.ofInt IntKind.i64.bits a &&& BitVec.ofInt IntKind.i64.bits 255).toNat : Int) = n := by
  have h1 : (BitVec.ofInt 64 a &&& BitVec.ofInt 64 255).toNat = (BitVec.ofInt 64 a).toNat % 256 := by
    rw [BitVec.toNat_and]
    have : (BitVec.ofInt 64 255).toNat = 2 ^ 8 - 1 := by decide
    rw [this, Nat.and_two_pow_sub_one_eq_mod]
  have h2 : IntKind.i64.bits = 64 := rfl
  rw [h2, h1]
  exact ⟨(BitVec.ofInt 64 a).toNat % 256, Nat.mod_lt _ (by decide), IntWalk.i64_in _ (by omega)⟩
theorem vbin_shr33 {t : Nat} {nc : Bool} (x : Int) : vbin P .shr t nc (.int .i64 x) (.int .u64 33) = some (.int .i64 (x.fdiv 8589934592)) := by
  show (if (33 : Int) < 0 then none else _) = _
  rw [if_neg (by decide)]
  rfl
theorem vbin_shr47 {t : Nat} {nc : Bool} (x : Int) : vbin P .shr t nc (.int .i64 x) (.int .u64 47) = some (.int .i64 (x.fdiv 140737488355328)) := by
  show (if (47 : Int) < 0 then none else _) = _
  rw [if_neg (by decide)]
  rfl
theorem vbin_and255 {t : Nat} {nc : Bool} (x : Int) : ∃ n : Nat, n < 256 ∧ vbin P .and t nc (.int .i64 x) (.int .i64 255) = some (.int .i64 n) := by
  obtain ⟨n, h1, h2⟩ := and255 x
  exact ⟨n, h1, by rw [← h2]; rfl⟩
def xr (x y : Int) : Int := IntKind.i64.wrap ((BitVec.ofInt IntKind.i64.bits x ^^^ BitVec.ofInt IntKind.i64.bits y).toNat : Int)
theorem vbin_xor {t : Nat} {nc : Bool} (x y : Int) : vbin P .xor t nc (.int .i64 x) (.int .i64 y) = some (.int .i64 (xr x y)) := rfl
def an (x y : Int) : Int := IntKind.i64.wrap ((BitVec.ofInt IntKind.i64.bits x &&& BitVec.ofInt IntKind.i64.bits y).toNat : Int)
theorem vbin_an {t : Nat} {nc : Bool} (x y : Int) : vbin P .and t nc (.int .i64 x) (.int .i64 y) = some (.int .i64 (an x y)) := rfl
/-- the bytes, their place named ahead -/
theorem RdS.bytes {l : List UInt8} (rd : RdS h0 1 sl (bcells l)) : ∃ (a : Option Addr) (c b off : Nat), sl = .slice a l.length c ∧ ∀ i, i < l.length → ∀ (h : Hp), Ext h0 h → At h ⟨b, off, none⟩ (bcells l) ∧ ixA (some 1) a l.length (i : Int) = some (.pointer (some ⟨b, off + i * 1, none⟩)) ∧ (bcells l)[i]? = some (.int .u8 ((l.getD i 0).toNat : Nat)) := by
  have hbl : (bcells l).length = l.length * 1 := by simp [bcells]
  obtain ⟨a, c, rfl, hc, hat⟩ := rd.slice l.length (by decide) hbl
  by_cases h1 : 0 < l.length
  · obtain ⟨b, off, rfl, hat'⟩ := hat h1
    refine ⟨_, c, b, off, rfl, fun i hi h e => ⟨hat'.mono e, ix_nat hi, ?_⟩⟩
    unfold bcells
    rw [List.getElem?_map, List.getElem?_eq_getElem hi, List.getD_eq_getElem?_getD, List.getElem?_eq_getElem hi]
    rfl
  · exact ⟨a, c, 0, 0, rfl, fun i hi => absurd hi (by omega)⟩
theorem flat_map {α : Type} (g : α → Value) (hg : ∀ a, (g a).cells.toList = [g a]) : ∀ (ns : List α) (k : Nat), flat ((ns.zipIdx k).map fun x => (x.2, g x.1)) = ns.map g
  | [], _ => rfl
  | a :: r, k => by
    simp only [List.zipIdx_cons, List.map_cons, flat, List.flatMap_cons, hg]
    exact congrArg (g a :: ·) (flat_map g hg r (k + 1))
theorem raws_fm {α : Type} (g : α → Value) : ∀ ns : List α, (ns.map g).map Dt.raw = ns.flatMap fun a => [Dt.raw (g a)]
  | [] => rfl
  | a :: r => by
    simp only [List.map_cons, List.flatMap_cons, List.cons_append, List.nil_append]
    exact congrArg (Dt.raw (g a) :: ·) (raws_fm g r)
theorem ones_map {α : Type} (g : α → Value) (hg : ∀ a, oneCell (g a) = true) : ∀ ns : List α, oneCells (ns.map g) = true
  | [] => rfl
  | a :: r => by
    simp only [List.map_cons, oneCells, Bool.and_eq_true]
    exact ⟨hg a, ones_map g hg r⟩
/-- A literal slice of one-celled things. -/
theorem cur_lit {α : Type} (g : α → Value) (hg : ∀ a, (g a).cells.toList = [g a]) (ho : ∀ a, oneCell (g a) = true) {t n : Nat} {s : SlT} {parts : List (Nat × Value)} (ns : List α) (hs : slT P t = some s) (hz : s.z = 1)
    (hp : parts = ns.zipIdx.map fun x => (x.2, g x.1)) (hn : ns.length = n) (hn0 : 0 < n) (hn2 : n ≤ 1000) {l : List UInt8} (c : CurM h0 h l p bag)
    (k : ∀ v h', CurM h0 h' l p ((.row 1 (ns.flatMap fun a => [.raw (g a)]), v) :: bag) → K v h') : HSem P (bsI t n parts.toArray) h K := by
  obtain ⟨y, m, back⟩ := c.top
  have hc : ∀ a, (g a).cells.size = 1 := fun a => by rw [← Array.length_toList, hg]; rfl
  have hfl : flat parts = ns.map g := by rw [hp]; exact flat_map g hg ns 0
  have my := raws_zip (ones_map g ho ns) m
  rw [raws_fm, ← hfl] at my
  refine hsem_my_lit hs (by omega) hn0 (by rw [hz]; omega) ?_ ?_ ?_ my ?_ ?_ fun v h' m' => ?_
  · rw [hp, List.length_map, List.length_zipIdx, hn]
  · rw [hp, List.map_map]
    have : ((fun x : Nat × Value => x.1) ∘ fun x : α × Nat => (x.2, g x.1)) = Prod.snd := rfl
    rw [this, List.zipIdx_map_snd, hn, List.range_eq_range']
  · intro q hq
    rw [hp] at hq
    obtain ⟨x, _, rfl⟩ := List.mem_map.1 hq
    rw [hc, hz]
  · rw [hfl, List.length_map, hn, hz, Nat.mul_one]
  · rw [fm_len (z := 1) (fun a => rfl), hn, hz]
  · rw [hz] at m'
    exact k v h' (back h' [_] m')
theorem cur_ints {t n : Nat} {s : SlT} {parts : List (Nat × Value)} (ns : List Int) (hs : slT P t = some s) (hz : s.z = 1) (hp : parts = ns.zipIdx.map fun x => (x.2, .int .i64 x.1)) (hn : ns.length = n) (hn0 : 0 < n) (hn2 : n ≤ 1000) {l : List UInt8} (c : CurM h0 h l p bag)
    (k : ∀ v h', CurM h0 h' l p ((.row 1 (ns.flatMap idt), v) :: bag) → K v h') : HSem P (bsI t n parts.toArray) h K :=
  cur_lit (fun n => .int .i64 n) (fun _ => rfl) (fun _ => rfl) ns hs hz hp hn hn0 hn2 c k
theorem cur_strs {t n : Nat} {s : SlT} {parts : List (Nat × Value)} (ns : List ByteArray) (hs : slT P t = some s) (hz : s.z = 1) (hp : parts = ns.zipIdx.map fun x => (x.2, .string x.1)) (hn : ns.length = n) (hn0 : 0 < n) (hn2 : n ≤ 1000) {l : List UInt8} (c : CurM h0 h l p bag)
    (k : ∀ v h', CurM h0 h' l p ((.row 1 (ns.flatMap sdt), v) :: bag) → K v h') : HSem P (bsI t n parts.toArray) h K :=
  cur_lit (fun n => .string n) (fun _ => rfl) (fun _ => rfl) ns hs hz hp hn hn0 hn2 c k
end Go.Sx
/-! What the functions on values compute, in plain Lean. -/
namespace Go.Sx
open Go
/-- where the key stands -/
def fk : List (Ky × V) → Ky → Nat → Option Nat
  | [], _, _ => none
  | e :: r, k, i => if e.1 = k then some i else fk r k (i + 1)
def V.find (v : V) (k : Ky) : Option Nat := if v.kind = 4 then fk v.items k 0 else none
def ixI : Option Nat → Int
  | some i => (i : Nat)
  | none => -1
def V.null : V := ⟨0, 0, ⟨#[]⟩, 0, []⟩
theorem fk_spec : ∀ (es : List (Ky × V)) (k : Ky) (i j : Nat), fk es k i = some j → i ≤ j ∧ ∃ v, es[j - i]? = some (k, v)
  | [], _, _, _, h => by simp [fk] at h
  | e :: r, k, i, j, h => by
    simp only [fk] at h
    split at h
    · rename_i he
      simp at h
      subst h
      exact ⟨Nat.le_refl _, e.2, by simp [← he]⟩
    · obtain ⟨h1, v, h2⟩ := fk_spec r k (i + 1) j h
      refine ⟨by omega, v, ?_⟩
      rw [show j - i = (j - (i + 1)) + 1 by omega]
      simpa using h2
def V.get (v : V) (k : Ky) : Option V := (v.find k).bind fun i => (v.items[i]?).map (·.2)
theorem V.find_get {v : V} {k : Ky} {i : Nat} (h : v.find k = some i) : ∃ x, v.items[i]? = some (k, x) ∧ v.get k = some x ∧ i < v.items.length := by
  have h0 := h
  unfold V.find at h
  split at h
  · obtain ⟨_, x, hx⟩ := fk_spec _ _ _ _ h
    have hx : v.items[i]? = some (k, x) := hx
    exact ⟨x, hx, by unfold V.get; rw [h0]; simp [hx], (List.getElem?_eq_some_iff.1 hx).1⟩
  · simp at h
theorem V.find_none {v : V} {k : Ky} (h : v.find k = none) : v.get k = none := by unfold V.get; rw [h]; rfl
theorem key_dec (a b : Ky) : decide (a.text = b.text ∧ a.num = b.num ∧ a.str = b.str) = decide (a = b) := by
  apply decide_eq_decide.2
  cases a; cases b
  simp
theorem ixI_neg (o : Option Nat) : decide (ixI o < 0) = o.isNone := by
  cases o with
  | none => rfl
  | some i =>
    apply decide_eq_false
    show ¬ ((i : Nat) : Int) < 0
    omega
theorem ixI_some (i : Nat) : ixI (some i) = (i : Int) := rfl
theorem ixI_none : ixI none = -1 := rfl
theorem V.bulk_mem : ∀ {es : List (Ky × V)} {e : Ky × V}, e ∈ es → V.bulks e.2.items + 1 ≤ V.bulks es
  | (k, v) :: r, e, he => by
    simp only [V.bulks, V.bulk_eq]
    cases he with
    | head => simp only; omega
    | tail _ he => have := V.bulk_mem he; omega
theorem V.bulks_len : ∀ es : List (Ky × V), es.length ≤ V.bulks es
  | [] => Nat.le_refl _
  | (k, v) :: r => by
    have := V.bulks_len r
    simp only [V.bulks, List.length_cons]
    omega
theorem V.get_bulk {v x : V} {k : Ky} (h : v.get k = some x) : V.bulks x.items ≤ V.bulks v.items := by
  unfold V.get at h
  cases hf : v.find k with
  | none => simp [hf] at h
  | some i =>
    obtain ⟨y, hy, hg, _⟩ := V.find_get hf
    unfold V.get at hg
    rw [h] at hg
    simp at hg
    subst hg
    have := V.bulk_mem (List.mem_of_getElem? hy)
    simp only at this
    omega
end Go.Sx
/-! Arrays with an entry dropped or set. -/
namespace Go.Sx
open Go
namespace V
def withItems (v : V) (es : List (Ky × V)) : V := ⟨v.kind, v.num, v.str, v.next, es⟩
def setAt (v : V) (i : Nat) (x : V) : V := match v.items[i]? with
  | none => v
  | some e => v.withItems (v.items.take i ++ (e.1, x) :: v.items.drop (i + 1))
def setKey (v : V) (k : Ky) (x : V) : V := match v.find k with
  | some i => v.setAt i x
  | none => ⟨v.kind, v.num, v.str, if k.text then v.next else max v.next (IntKind.i64.wrap (k.num + 1)), v.items ++ [(k, x)]⟩
theorem withItems_items {v : V} {es : List (Ky × V)} : (v.withItems es).items = es := (rfl)
end V
end Go.Sx
namespace Go.Proofs.YtccjkhnefiikaaaGreatDoor
set_option maxRecDepth 8000
open Go Go.Sx
section
variable {h0 h : Hp} {bag : Bag} {l : List UInt8} {p : Nat}
def NewP (h0 : Hp) (l : List UInt8) (bag : Bag) (u : Value) (h' : Hp) : Prop := ∃ p, u = pv p ∧ CurM h0 h' l p bag
theorem l1New_c (hl : l.length ≤ 1048576) {sl : Value} (rd : RdS h0 1 sl (bcells l)) (m : My h0 h bag) : ACalls Tryz.prog 11 #[sl] h (NewP h0 l bag) := by
  obtain ⟨a, c, b, off, rfl, hat⟩ := rd.bytes
  have e0 := m.ext
  have hat : ∀ i, i < l.length → At h ⟨b, off, none⟩ (bcells l) ∧ ixA (some 1) a l.length (i : Int) = some (.pointer (some ⟨b, off + i * 1, none⟩)) ∧ (bcells l)[i]? = some (.int .u8 ((l.getD i 0).toNat : Nat)) := fun i hi => hat i hi h e0
  (refine enter Tryz.func11 rfl rfl (by kernel_rfl) [31] ?_; simp only [go_sem, Nat.reduceBEq])
  generalize IntKind.i64.wrap (193017 + (l.length : Nat)) = hh0
  refine aloop (ι := Nat × Int) (fun x => [(4, .val (.int .i64 (x.1 : Nat))), (3, .val (.int .i64 x.2)), (0, .val (.slice a l.length c))]) (fun _ => [])
    (fun x h' => x.1 ≤ l.length ∧ h' = h) (fun x => l.length - x.1) (0, hh0) ⟨Nat.zero_le _, rfl⟩ (by repeat (first | exact wkF_e | refine wkF_c rfl ?_)) wkB_e rfl ?_
  rintro ⟨i, hh⟩ _ ⟨hi, rfl⟩
  have hi : i ≤ l.length := hi
  have fin : ∀ {p : Nat} {h' : Hp}, My h0 h' ((.ptr [] [.raw (.slice a l.length c), .raw (.int .i64 0), .raw (.int .i64 hh)] [], .pointer (some ⟨p, 0, none⟩)) :: bag) → NewP h0 l bag (.pointer (some ⟨p, 0, none⟩)) h' := fun {p h'} m' => ⟨p, rfl, a, c, 0, hh, Nat.zero_le _, rd, m'⟩
  have wsu := wrap_succ (i := i) (by omega)
  by_cases hb2 : i < l.length
  case neg =>
    simp only [show decide ((i : Int) < (l.length : Nat)) = false from decide_eq_false (by omega), go_sem, Nat.reduceBEq, Nat.reduceAdd, Nat.reduceLeDiff]
    refine hsem_my_box (es := [.raw (.slice a l.length c), .raw (.int .i64 0), .raw (.int .i64 hh)]) (m.raws3) rfl fun p h' m' => ?_
    simp only [go_sem, Nat.reduceBEq]
    exact fin m'
  obtain ⟨h1, h2, h3⟩ := hat i hb2
  by_cases h4 : (i : Int) < 4000
  case neg =>
    simp only [show decide ((i : Int) < (l.length : Nat)) = true from decide_eq_true (by omega), decide_eq_false h4, go_sem, Nat.reduceBEq, Nat.reduceAdd, Nat.reduceLeDiff]
    refine hsem_my_box (es := [.raw (.slice a l.length c), .raw (.int .i64 0), .raw (.int .i64 hh)]) (m.raws3) rfl fun p h' m' => ?_
    simp only [go_sem, Nat.reduceBEq]
    exact fin m'
  simp only [show decide ((i : Int) < (l.length : Nat)) = true from decide_eq_true (by omega), decide_eq_true h4, h2, go_sem, Nat.reduceBEq]
  refine hsem_at1 tyS5 h1 h3 (by omega) ?_
  simp only [wsu, vbin_an, go_sem, Nat.reduceBEq]
  exact Again.intro (i + 1, _) (by first | omega | (simp only; omega)) ⟨hb2, rfl⟩ (by repeat (first | exact wkF_e | refine wkF_c rfl ?_)) wkB_e rfl
theorem l1Byte_c (hl : l.length ≤ 1048576) (m : CurM h0 h l p bag) : ACalls Tryz.prog 26 #[pv p] h (NumP 0 255 h0 l p bag) := by
  obtain ⟨a, c, i, hh, hi, rd, m⟩ := m
  obtain ⟨a', c', b, off, e', hat⟩ := rd.bytes
  cases e'
  (refine enter Tryz.func26 rfl rfl (by kernel_rfl) [] ?_; simp only [go_sem, Nat.reduceBEq])
  refine cu_ldH tyS3 m rfl ?_
  simp only [go_sem, Nat.reduceBEq, Nat.reduceAdd]
  refine cu_stH tyS3 m rfl fun h1 m => ?_
  try refine ⟨trivial, ?_⟩
  simp only [go_sem, Nat.reduceAdd]
  generalize IntKind.i64.wrap (IntKind.i64.wrap (hh * 6364136223846793005) + 1442695040888963407) = hh1 at m ⊢
  refine regionD_intro (lb := []) (by kernel_rfl) ?_
  simp only [go_sem, Nat.reduceBEq]
  refine cu_ldH tyS3 m rfl ?_
  simp only [vbin_shr33, go_sem, Nat.reduceBEq, Nat.reduceAdd]
  refine cu_ldH tyS3 m rfl ?_
  simp only [vbin_shr47, vbin_xor, go_sem, Nat.reduceBEq, Nat.reduceAdd]
  generalize xr (hh1.fdiv 8589934592) (hh1.fdiv 140737488355328) = y
  have hx := (vbin_and255 (P := Tryz.prog) (t := 3) (nc := false) y).choose_spec
  generalize (vbin_and255 (P := Tryz.prog) (t := 3) (nc := false) y).choose = x at hx
  simp only [hx.2, go_sem, Nat.reduceBEq]
  refine regionD_intro (lb := []) (by kernel_rfl) ?_
  simp only [go_sem, Nat.reduceBEq]
  refine cu_ldI tyS3 m rfl ?_
  simp only [go_sem, Nat.reduceBEq]
  refine cu_ldB tyS22 m rfl ?_
  simp only [go_sem, Nat.reduceBEq]
  refine Br.intro (fun hb => ?_) (fun hb => ?_)
  · have hb1 := of_decide_eq_true hb
    have hb2 : i < l.length := by omega
    have h3 := hat i hb2 h1 m.ext
    have wsu := wrap_succ (i := i) (by omega)
    simp only [hb, go_sem]
    refine regionD_intro (lb := []) (by kernel_rfl) ?_
    simp only [go_sem, Nat.reduceBEq]
    refine cu_ldB tyS22 m rfl ?_
    simp only [go_sem, Nat.reduceBEq]
    refine cu_ldI tyS3 m rfl ?_
    simp only [h3.2.1, go_sem, Nat.reduceBEq]
    refine hsem_at1 tyS5 h3.1 h3.2.2 (by omega) ?_
    simp only [go_sem, Nat.reduceBEq]
    generalize IntKind.i64.wrap ((x : Nat) + IntKind.i64.wrap ((l.getD i 0).toNat : Nat)) = y2
    have hx2 := (vbin_and255 (P := Tryz.prog) (t := 3) (nc := false) y2).choose_spec
    generalize (vbin_and255 (P := Tryz.prog) (t := 3) (nc := false) y2).choose = x2 at hx2
    simp only [hx2.2, go_sem, Nat.reduceBEq]
    refine cu_ldI tyS3 m rfl ?_
    simp only [wsu, go_sem, Nat.reduceBEq]
    refine cu_stI tyS3 m rfl fun h2 m => ?_
    try refine ⟨trivial, ?_⟩
    simp only [go_sem, Nat.reduceBEq]
    exact ⟨(x2 : Nat), rfl, by omega, by omega, a, c, i + 1, hh1, hb2, rd, m⟩
  · simp only [hb, go_sem, Nat.reduceBEq]
    exact ⟨(x : Nat), rfl, by omega, by omega, a, c, i, hh1, hi, rd, m⟩
theorem l1Below_c (hl : l.length ≤ 1048576) (m : CurM h0 h l p bag) (n : Int) (hn : 0 < n) (hn2 : n ≤ 1048576) : ACalls Tryz.prog 13 #[pv p, .int .i64 n] h (NumP 0 (n - 1) h0 l p bag) := by
  have hz : (n = 0) = False := eq_false (by omega)
  have f1 : decide (n ≤ 0) = false := decide_eq_false (by omega)
  (refine enter Tryz.func13 rfl rfl (by kernel_rfl) [] ?_; simp only [go_sem, Nat.reduceBEq])
  simp only [f1, go_sem, Nat.reduceBEq]
  by_cases h2 : n ≤ 256
  · simp only [decide_eq_true h2, go_sem, Nat.reduceBEq]
    refine (l1Byte_c hl m).mono ?_
    rintro _ h1 ⟨x, rfl, x0, x1, m1⟩
    simp only [hz, if_false, go_sem, Nat.reduceBEq]
    exact ⟨x.tmod n, rfl, Int.tmod_nonneg _ x0, by have := Int.tmod_lt_of_pos x hn; omega, m1⟩
  · simp only [decide_eq_false h2, go_sem, Nat.reduceBEq]
    refine (l1Byte_c hl m).mono ?_
    rintro _ h1 ⟨x, rfl, x0, x1, m1⟩
    simp only [go_sem, Nat.reduceBEq]
    refine (l1Byte_c hl m1).mono ?_
    rintro _ h2 ⟨y, rfl, y0, y1, m2⟩
    simp only [go_sem, Nat.reduceBEq]
    refine (l1Byte_c hl m2).mono ?_
    rintro _ h3 ⟨z, rfl, z0, z1, m3⟩
    have w1 : IntKind.i64.wrap (x * 65536) = x * 65536 := IntWalk.i64_in _ (by omega)
    have w2 : IntKind.i64.wrap (y * 256) = y * 256 := IntWalk.i64_in _ (by omega)
    have w3 : IntKind.i64.wrap (x * 65536 + y * 256) = x * 65536 + y * 256 := IntWalk.i64_in _ (by omega)
    have w4 : IntKind.i64.wrap (x * 65536 + y * 256 + z) = x * 65536 + y * 256 + z := IntWalk.i64_in _ (by omega)
    simp only [w1, w2, w3, w4, hz, if_false, go_sem, Nat.reduceBEq]
    exact ⟨(x * 65536 + y * 256 + z).tmod n, rfl, Int.tmod_nonneg _ (by omega), by have := Int.tmod_lt_of_pos (x * 65536 + y * 256 + z) hn; omega, m3⟩
theorem l1Once_c (hl : l.length ≤ 1048576) (m : CurM h0 h l p bag) (n : Int) (hn : 0 < n) (hn2 : n ≤ 1048576) : ACalls Tryz.prog 42 #[pv p, .int .i64 n] h (BoolP h0 l p bag) := by
  (refine enter Tryz.func42 rfl rfl (by kernel_rfl) [] ?_; simp only [go_sem, Nat.reduceBEq])
  refine (l1Below_c hl m n hn hn2).mono ?_
  rintro _ h1 ⟨x, rfl, x0, x1, m1⟩
  simp only [go_sem, Nat.reduceBEq]
  exact ⟨_, rfl, m1⟩
theorem l1Int_c (hl : l.length ≤ 1048576) {v : Value} {ns : List Int} (m : CurM h0 h l p ((.row 1 (ns.flatMap idt), v) :: bag)) (hn : 0 < ns.length) (hn2 : ns.length ≤ 1048576) : ACalls Tryz.prog 24 #[pv p, v] h (IntP ns h0 l p ((.row 1 (ns.flatMap idt), v) :: bag)) := by
  obtain ⟨b, c, rfl⟩ := m.row0 hn (fm_len idt_len _)
  (refine enter Tryz.func24 rfl rfl (by kernel_rfl) [] ?_; simp only [go_sem, Nat.reduceBEq])
  refine (l1Below_c hl m ns.length (by omega) (by omega)).mono ?_
  rintro _ h1 ⟨x, rfl, x0, x1, m1⟩
  obtain ⟨j, rfl⟩ := Int.eq_ofNat_of_zero_le x0
  have hj : j < ns.length := by omega
  obtain ⟨xs, hr, hat⟩ := m1.my.at_
  obtain ⟨e, he, hm⟩ := get_lt hj
  simp only [ix_nat hj, go_sem, Nat.reduceBEq]
  refine hsem_cell (f := idt) (o := 0) (d := .raw (.int .i64 e)) idt_len tyS3 (hat hn) hr he (by decide) rfl (by omega) fun v rv => ?_
  obtain ⟨rfl, _⟩ := Rd_raw.1 rv
  simp only [go_sem, Nat.reduceBEq]
  exact ⟨e, hm, rfl, m1⟩
theorem l1Str_c (hl : l.length ≤ 1048576) {v : Value} {ns : List ByteArray} (m : CurM h0 h l p ((.row 1 (ns.flatMap sdt), v) :: bag)) (hn : 0 < ns.length) (hn2 : ns.length ≤ 1048576) : ACalls Tryz.prog 74 #[pv p, v] h (StrP ns h0 l p ((.row 1 (ns.flatMap sdt), v) :: bag)) := by
  obtain ⟨b, c, rfl⟩ := m.row0 hn (fm_len sdt_len _)
  (refine enter Tryz.func74 rfl rfl (by kernel_rfl) [] ?_; simp only [go_sem, Nat.reduceBEq])
  refine (l1Below_c hl m ns.length (by omega) (by omega)).mono ?_
  rintro _ h1 ⟨x, rfl, x0, x1, m1⟩
  obtain ⟨j, rfl⟩ := Int.eq_ofNat_of_zero_le x0
  have hj : j < ns.length := by omega
  obtain ⟨xs, hr, hat⟩ := m1.my.at_
  obtain ⟨e, he, hm⟩ := get_lt hj
  simp only [ix_nat hj, go_sem, Nat.reduceBEq]
  refine hsem_cell (f := sdt) (o := 0) (d := .raw (.string e)) sdt_len tyS9 (hat hn) hr he (by decide) rfl (by omega) fun v rv => ?_
  obtain ⟨rfl, _⟩ := Rd_raw.1 rv
  simp only [go_sem, Nat.reduceBEq]
  exact ⟨e, hm, rfl, m1⟩
end
end Go.Proofs.YtccjkhnefiikaaaGreatDoor
namespace Go.Proofs.YtccjkhnefiikaaaGreatDoor
set_option maxRecDepth 8000
open Go Go.Sx
theorem sFind (v : V) (k : Ky) (hl : v.items.length ≤ 1099511627776) (sl : Value) (h : Hp) (rd : RdE h v.items sl) :
    ACalls Tryz.prog 50 #[.agg #[.int .i64 v.kind, .int .i64 v.num, .string v.str, .int .i64 v.next, sl], .agg #[.bool k.text, .int .i64 k.num, .string k.str]] h (Pu (.int .i64 (ixI (v.find k))) h) := by
  obtain ⟨a, c, xs, rfl, hc, hr, hat⟩ := rd.rows (by decide) v.items.length (fm_len edt_len _)
  (refine enter Tryz.func50 rfl rfl (by kernel_rfl) [] ?_; simp only [go_sem, Nat.reduceBEq])
  refine aloop (ι := Nat) (fun i => [(5, .val (.int .i64 (i : Nat))), (2, .box 2 0), (3, .box 3 0)]) (fun _ => [(3, [.bool k.text, .int .i64 k.num, .string k.str]), (2, [.int .i64 v.kind, .int .i64 v.num, .string v.str, .int .i64 v.next, .slice a v.items.length c])])
    (fun i h' => i ≤ v.items.length ∧ (v.kind = 4 → fk (v.items.drop i) k i = fk v.items k 0) ∧ h' = h) (fun i => v.items.length - i) 0 ⟨Nat.zero_le _, fun _ => rfl, rfl⟩ (by repeat (first | exact wkF_e | refine wkF_c rfl ?_)) (wkB_c rfl (wkB_c rfl wkB_e)) rfl ?_
  rintro i _ ⟨hi, hq, rfl⟩
  simp only [go_sem, Nat.reduceBEq]
  refine Br.intro (fun hk => ?_) (fun hk => ?_) <;> (try simp only [hk, go_sem, Nat.reduceBEq])
  · have hk : v.kind = 4 := by simpa using hk
    have hf : v.find k = fk v.items k 0 := by unfold V.find; rw [if_pos hk]
    have hq := hq hk
    refine Br.intro (fun hb => ?_) (fun hb => ?_) <;> (try simp only [hb, go_sem, Nat.reduceBEq])
    · have hb : i < v.items.length := by simpa using hb
      obtain ⟨b, off, rfl, hat'⟩ := hat (by omega)
      obtain ⟨e, he, hm⟩ := get_lt hb
      have wsu := wrap_succ (i := i) (by omega)
      rw [drop_cons he] at hq
      refine regionD_intro (lb := [19, 24]) (by kernel_rfl) ?_
      simp only [ix_nat hb, go_sem, Nat.reduceBEq]
      refine hsem_ekey tyS57 hat' hr he rfl ?_
      simp only [key_dec, keyT57, go_sem, Nat.reduceBEq, Nat.reduceAdd, Nat.reduceLeDiff]
      refine Br.intro (fun hkk => ?_) (fun hkk => ?_) <;> (try simp only [hkk, go_sem, Nat.reduceBEq])
      · have hkk := of_decide_eq_true hkk
        simp only [fk, hkk, if_true] at hq
        exact ⟨by rw [hf, ← hq]; rfl, rfl⟩
      · have hkk := of_decide_eq_false hkk
        simp only [fk, hkk, if_false] at hq
        rw [wsu]
        exact Again.intro (i + 1) (by first | omega | (simp only; omega)) ⟨hb, fun _ => hq, rfl⟩ (by repeat (first | exact wkF_e | refine wkF_c rfl ?_)) (wkB_c rfl (wkB_c rfl wkB_e)) rfl
    · have hb : i = v.items.length := by simp at hb; omega
      rw [List.drop_eq_nil_of_le (by omega)] at hq
      exact ⟨by rw [hf, ← hq]; rfl, rfl⟩
  · have hk : ¬ v.kind = 4 := by simpa using hk
    exact ⟨by unfold V.find; rw [if_neg hk]; rfl, rfl⟩
/-- a value read, and whether there is one -/
def GotP (h : Hp) (o : Option V) (u : Value) (h' : Hp) : Prop := h = h' ∧ ∃ s, u = .tuple #[.agg #[.int .i64 (o.getD V.null).kind, .int .i64 (o.getD V.null).num, .string (o.getD V.null).str, .int .i64 (o.getD V.null).next, s], .bool o.isSome] ∧ RdE h (o.getD V.null).items s
theorem rd_null (h : Hp) : RdE h V.null.items (.slice none 0 0) := ((My.nil (Ext.refl h)).nilrow (z := 8)).rd
theorem sGet (v : V) (k : Ky) (hl : v.items.length ≤ 1099511627776) (sl : Value) (h : Hp) (rd : RdE h v.items sl) :
    ACalls Tryz.prog 88 #[.agg #[.int .i64 v.kind, .int .i64 v.num, .string v.str, .int .i64 v.next, sl], .agg #[.bool k.text, .int .i64 k.num, .string k.str]] h (GotP h (v.get k)) := by
  obtain ⟨a, c, xs, rfl, hc, hr, hat⟩ := rd.rows (by decide) v.items.length (fm_len edt_len _)
  (refine enter Tryz.func88 rfl rfl (by kernel_rfl) [] ?_; simp only [go_sem, Nat.reduceBEq, Nat.reduceAdd, Nat.reduceLeDiff])
  (refine (sFind v k hl _ _ rd).mono ?_; rintro _ _ ⟨rfl, rfl⟩; simp only [go_sem, Nat.reduceBEq])
  rw [ixI_neg]
  cases hf : v.find k with
  | none =>
    have hg := V.find_none hf
    simp only [Option.isNone_none, go_sem, Nat.reduceBEq, Nat.reduceAdd, Nat.reduceLeDiff]
    rw [hg]
    exact ⟨rfl, _, rfl, rd_null _⟩
  | some i =>
    obtain ⟨x, hx, hg, hlt⟩ := V.find_get hf
    obtain ⟨b, off, rfl, hat'⟩ := hat (by omega)
    simp only [Option.isNone_some, ixI_some, ix_nat hlt, go_sem, Nat.reduceBEq, Nat.reduceAdd]
    refine hsem_eval tyS49 hat' hr hx rfl fun s2 rd2 => ?_
    obtain ⟨a2, c2, _, rfl, _⟩ := rd2.rows (by decide) x.items.length (fm_len edt_len _)
    simp only [go_sem, Nat.reduceBEq, Nat.reduceAdd, Nat.reduceLeDiff]
    rw [hg]
    exact ⟨rfl, _, rfl, rd2⟩
end Go.Proofs.YtccjkhnefiikaaaGreatDoor
namespace Go.Proofs.YtccjkhnefiikaaaGreatDoor
set_option maxRecDepth 8000
open Go Go.Sx
theorem bulks_mem' : ∀ {es : List (Ky × V)} {e : Ky × V}, e ∈ es → V.bulks e.2.items ≤ V.bulks es
  | (k, v) :: r, e, he => by
    simp only [V.bulks, V.bulk_eq]
    cases he with
    | head => simp only; omega
    | tail _ he => have := bulks_mem' he; omega
theorem bulks_len' : ∀ es : List (Ky × V), es.length ≤ V.bulks es
  | [] => Nat.le_refl _
  | (k, v) :: r => by
    have := bulks_len' r
    simp only [V.bulks, List.length_cons]
    omega
def Made (h : Hp) (v : V) (u : Value) (h' : Hp) : Prop := ∃ a c, u = .agg #[.int .i64 v.kind, .int .i64 v.num, .string v.str, .int .i64 v.next, .slice a v.items.length c] ∧ My h h' [(.row 8 (v.items.flatMap edt), .slice a v.items.length c)]
def CopyI (v : V) : Prop := V.bulks v.items ≤ 1099511627776 → ∀ (h : Hp) (sl : Value), RdE h v.items sl →
  ACalls Tryz.prog 53 #[.agg #[.int .i64 v.kind, .int .i64 v.num, .string v.str, .int .i64 v.next, sl]] h (Made h v)
theorem copyValue_c : ∀ v, CopyI v := V.ind fun v ih hbk h sl rd => by
  have hlen := bulks_len' v.items
  obtain ⟨a, c, xs, rfl, hc, hr, hat⟩ := rd.rows (by decide) v.items.length (fm_len edt_len _)
  (refine enter Tryz.func53 rfl rfl (by kernel_rfl) [] ?_; simp only [go_sem, Nat.reduceBEq, Nat.reduceAdd, Nat.reduceLeDiff])
  refine aloop (ι := Nat × Value) (fun x => [(11, .val (.int .i64 (x.1 : Nat))), (10, .val (.int .i64 (v.items.length : Nat))), (9, .val (.slice a v.items.length c)), (3, .box 3 0), (2, .box 2 0)])
    (fun x => [(3, [.int .i64 v.kind, .int .i64 v.num, .string v.str, .int .i64 v.next, x.2]), (2, [.int .i64 0, .int .i64 0, .string ⟨#[]⟩, .int .i64 0, .slice none 0 0])])
    (fun x h' => x.1 ≤ v.items.length ∧ My h h' [(.row 8 ((v.items.take x.1).flatMap edt), x.2)]) (fun x => v.items.length - x.1) (0, .slice none 0 0)
    ⟨Nat.zero_le _, (My.nil (Ext.refl h)).nilrow⟩ (by repeat (first | exact wkF_e | refine wkF_c rfl ?_)) (wkB_c rfl (wkB_c rfl wkB_e)) rfl ?_
  rintro ⟨i, o⟩ h1 ⟨hi, m1⟩
  have hi : i ≤ v.items.length := hi
  have m1 : My h h1 [(.row 8 ((v.items.take i).flatMap edt), o)] := m1
  have htl : ((v.items.take i).flatMap edt).length = i * 8 := by rw [fm_len edt_len, List.length_take, Nat.min_eq_left hi]
  obtain ⟨ao, co, rfl, _⟩ := m1.row_shape (by decide) i htl
  simp only [go_sem, Nat.reduceBEq]
  refine Br.intro (fun hb => ?_) (fun hb => ?_) <;> (try simp only [hb, go_sem, Nat.reduceBEq, Nat.reduceAdd, Nat.reduceLeDiff])
  · have hb : i < v.items.length := by simpa using hb
    obtain ⟨b, off, rfl, hat'⟩ := hat (by omega)
    have hat1 := hat'.mono m1.ext
    have hr1 := hr.mono m1.ext
    obtain ⟨e, he, hm⟩ := get_lt hb
    have wsu := wrap_succ (i := i) (by omega)
    simp only [ix_nat hb, go_sem, Nat.reduceBEq]
    refine hsem_entry tyS81 hat1 hr1 he rfl fun s2 rd2 => ?_
    obtain ⟨a2, c2, _, rfl, _⟩ := rd2.rows (by decide) e.2.items.length (fm_len edt_len _)
    simp only [go_sem, Nat.reduceBEq, Nat.reduceAdd, Nat.reduceLeDiff]
    refine regionD_intro (lb := [16, 18, 20]) (by kernel_rfl) ?_
    simp only [go_sem, Nat.reduceBEq, Nat.reduceAdd, Nat.reduceLeDiff]
    refine (ih e hm (by have := bulks_mem' hm; omega) _ _ rd2).mono ?_
    rintro _ h2 ⟨a3, c3, rfl, m2⟩
    simp only [go_sem, Nat.reduceBEq, Nat.reduceAdd, Nat.reduceLeDiff]
    have m3 := (m1.add m2)
    refine hsem_my_lit (h0 := h) (es := edt e) (parts := [(0, .agg #[.bool e.1.text, .int .i64 e.1.num, .string e.1.str, .int .i64 e.2.kind, .int .i64 e.2.num, .string e.2.str, .int .i64 e.2.next, .slice a3 e.2.items.length c3])]) slT47 (by decide) (by decide) (by decide) rfl rfl (by simp [Value.cells]) (bag := [(.row 8 ((v.items.take i).flatMap edt), .slice ao i co)]) ?_ rfl (edt_len e) fun l4 h4 m4 => ?_
    · simp only [edt_eq, flat, List.flatMap_cons, List.flatMap_nil, List.append_nil, cells_agg, List.zip_cons_cons, List.zip_nil_right, List.cons_append, List.nil_append, My.raw_iff, one_bool, one_int, one_str, and_self, true_and]
      exact m3
    simp only [go_sem, Nat.reduceBEq]
    refine hsem_my_append slT47 (by decide) rfl i 1 m4.swap htl (edt_len e) (by show (i + 1) * 96 ≤ _; omega) (by omega) fun l5 h5 m5 => ?_
    have m5 : My h h5 [(.row 8 ((v.items.take i).flatMap edt ++ edt e), l5)] := m5
    have e5 : (v.items.take i).flatMap edt ++ edt e = (v.items.take (i + 1)).flatMap edt := by rw [take_snoc he, List.flatMap_append, List.flatMap_cons, List.flatMap_nil, List.append_nil]
    rw [e5] at m5
    obtain ⟨a6, c6, rfl, _⟩ := m5.row_shape (by decide) (i + 1) (by rw [fm_len edt_len, List.length_take, Nat.min_eq_left hb])
    simp only [wsu, go_sem, Nat.reduceBEq, Nat.reduceAdd, Nat.reduceLeDiff]
    exact Again.intro (i + 1, .slice a6 (i + 1) c6) (by first | omega | (simp only; omega)) ⟨hb, m5⟩ (by repeat (first | exact wkF_e | refine wkF_c rfl ?_)) (wkB_c rfl (wkB_c rfl wkB_e)) rfl
  · have hb : i = v.items.length := by simp at hb; omega
    subst hb
    rw [List.take_length] at m1
    try simp only [go_sem, Nat.reduceBEq, Nat.reduceAdd, Nat.reduceLeDiff, Nat.reduceEqDiff, Int.reduceEq, not_false_eq_true, Int.reduceToNat]
    exact ⟨_, _, rfl, m1⟩
def CopyS (v : V) : Prop := V.bulks v.items ≤ 1099511627776 → ∀ (h : Hp) (sl : Value), RdE h v.items sl →
  ACalls Tryz.prog 92 #[.agg #[.int .i64 v.kind, .int .i64 v.num, .string v.str, .int .i64 v.next, sl]] h (Made h v)
theorem l5Copy_c : ∀ v, CopyS v := V.ind fun v ih hbk h sl rd => by
  have hlen := bulks_len' v.items
  obtain ⟨a, c, xs, rfl, hc, hr, hat⟩ := rd.rows (by decide) v.items.length (fm_len edt_len _)
  (refine enter Tryz.func92 rfl rfl (by kernel_rfl) [] ?_; simp only [go_sem, Nat.reduceBEq, Nat.reduceAdd, Nat.reduceLeDiff])
  refine aloop (ι := Nat × Value) (fun x => [(4, .val (.int .i64 (x.1 : Nat))), (1, .box 1 0), (3, .box 3 0), (2, .box 2 0)])
    (fun x => [(3, [.int .i64 v.kind, .int .i64 v.num, .string v.str, .int .i64 v.next, x.2]), (1, [.int .i64 v.kind, .int .i64 v.num, .string v.str, .int .i64 v.next, .slice a v.items.length c]), (2, [.int .i64 0, .int .i64 0, .string ⟨#[]⟩, .int .i64 0, .slice none 0 0])])
    (fun x h' => x.1 ≤ v.items.length ∧ My h h' [(.row 8 ((v.items.take x.1).flatMap edt), x.2)]) (fun x => v.items.length - x.1) (0, .slice none 0 0)
    ⟨Nat.zero_le _, (My.nil (Ext.refl h)).nilrow⟩ (by repeat (first | exact wkF_e | refine wkF_c rfl ?_)) (wkB_c rfl (wkB_c rfl (wkB_c rfl wkB_e))) rfl ?_
  rintro ⟨i, o⟩ h1 ⟨hi, m1⟩
  have hi : i ≤ v.items.length := hi
  have m1 : My h h1 [(.row 8 ((v.items.take i).flatMap edt), o)] := m1
  have htl : ((v.items.take i).flatMap edt).length = i * 8 := by rw [fm_len edt_len, List.length_take, Nat.min_eq_left hi]
  obtain ⟨ao, co, rfl, _⟩ := m1.row_shape (by decide) i htl
  simp only [go_sem, Nat.reduceBEq]
  refine Br.intro (fun hb => ?_) (fun hb => ?_) <;> (try simp only [hb, go_sem, Nat.reduceBEq, Nat.reduceAdd, Nat.reduceLeDiff])
  · have hb : i < v.items.length := by simpa using hb
    obtain ⟨b, off, rfl, hat'⟩ := hat (by omega)
    have hat1 := hat'.mono m1.ext
    have hr1 := hr.mono m1.ext
    obtain ⟨e, he, hm⟩ := get_lt hb
    have wsu := wrap_succ (i := i) (by omega)
    refine regionD_still (lb := [15, 17, 23]) (pl := [21]) h m1.ext (by kernel_rfl) ?_
    simp only [ix_nat hb, go_sem, Nat.reduceBEq]
    refine hsem_ekey tyS57 hat' hr he rfl ?_
    simp only [ix_nat hb, go_sem, Nat.reduceBEq, Nat.reduceAdd]
    refine hsem_eval tyS49 hat1 hr1 he rfl fun s2 rd2 => ?_
    simp only [go_sem, Nat.reduceBEq]
    refine (ih e hm (by have := bulks_mem' hm; omega) _ _ rd2).mono ?_
    rintro _ h2 ⟨a3, c3, rfl, m2⟩
    simp only [go_sem, Nat.reduceBEq, Nat.reduceAdd, Nat.reduceLeDiff]
    refine ⟨m1.ext.trans m2.ext, ?_⟩
    have m3 := (m1.add m2)
    refine hsem_my_lit (h0 := h) (es := edt e) (parts := [(0, .agg #[.bool e.1.text, .int .i64 e.1.num, .string e.1.str, .int .i64 e.2.kind, .int .i64 e.2.num, .string e.2.str, .int .i64 e.2.next, .slice a3 e.2.items.length c3])]) slT47 (by decide) (by decide) (by decide) rfl rfl (by simp [Value.cells]) (bag := [(.row 8 ((v.items.take i).flatMap edt), .slice ao i co)]) ?_ rfl (edt_len e) fun l4 h4 m4 => ?_
    · simp only [edt_eq, flat, List.flatMap_cons, List.flatMap_nil, List.append_nil, cells_agg, List.zip_cons_cons, List.zip_nil_right, List.cons_append, List.nil_append, My.raw_iff, one_bool, one_int, one_str, and_self, true_and]
      exact m3
    simp only [go_sem, Nat.reduceBEq]
    refine ⟨m4.ext, ?_⟩
    refine hsem_my_append slT47 (by decide) rfl i 1 m4.swap htl (edt_len e) (by show (i + 1) * 96 ≤ _; omega) (by omega) fun l5 h5 m5 => ?_
    have m5 : My h h5 [(.row 8 ((v.items.take i).flatMap edt ++ edt e), l5)] := m5
    have e5 : (v.items.take i).flatMap edt ++ edt e = (v.items.take (i + 1)).flatMap edt := by rw [take_snoc he, List.flatMap_append, List.flatMap_cons, List.flatMap_nil, List.append_nil]
    rw [e5] at m5
    obtain ⟨a6, c6, rfl, _⟩ := m5.row_shape (by decide) (i + 1) (by rw [fm_len edt_len, List.length_take, Nat.min_eq_left hb])
    simp only [wsu, go_sem, Nat.reduceBEq, Nat.reduceAdd, Nat.reduceLeDiff]
    refine ⟨m5.ext, ?_⟩
    exact Again.intro (i + 1, .slice a6 (i + 1) c6) (by first | omega | (simp only; omega)) ⟨hb, m5⟩ (by repeat (first | exact wkF_e | refine wkF_c rfl ?_)) (wkB_c rfl (wkB_c rfl (wkB_c rfl wkB_e))) rfl
  · have hb : i = v.items.length := by simp at hb; omega
    subst hb
    rw [List.take_length] at m1
    try simp only [go_sem, Nat.reduceBEq, Nat.reduceAdd, Nat.reduceLeDiff, Nat.reduceEqDiff, Int.reduceEq, not_false_eq_true, Int.reduceToNat]
    exact ⟨_, _, rfl, m1⟩
end Go.Proofs.YtccjkhnefiikaaaGreatDoor
namespace Go.Proofs.YtccjkhnefiikaaaGreatDoor
set_option maxRecDepth 8000
open Go Go.Sx
section
variable {h0 h : Hp} {bag : Bag} {l : List UInt8} {p : Nat}
theorem i64_lo : IntKind.i64.min = -9223372036854775808 := by decide
theorem i64_hi : IntKind.i64.max = 9223372036854775807 := by decide
theorem wrap_ok (x : Int) : IntKind.i64.min ≤ IntKind.i64.wrap x ∧ IntKind.i64.wrap x ≤ IntKind.i64.max := by
  rw [i64_lo, i64_hi]
  unfold IntKind.wrap
  have hb : IntKind.i64.bits = 64 := rfl
  have hs : IntKind.i64.signed = true := rfl
  have hp : (2 : Int) ^ 64 = 18446744073709551616 := by decide
  have hq : (2 : Int) ^ (64 - 1) = 9223372036854775808 := by decide
  simp only [hb, hs, hp, hq, Bool.true_and, decide_eq_true_eq]
  split <;> omega
def AnyP (h0 : Hp) (l : List UInt8) (p : Nat) (bag : Bag) (u : Value) (h' : Hp) : Prop := ∃ n : Int, u = .int .i64 n ∧ (IntKind.i64.min ≤ n ∧ n ≤ IntKind.i64.max) ∧ CurM h0 h' l p bag
theorem l1Odd_c (hl : l.length ≤ 1048576) (m : CurM h0 h l p bag) : ACalls Tryz.prog 47 #[pv p] h (AnyP h0 l p bag) := by
  (refine enter Tryz.func47 rfl rfl (by kernel_rfl) [] ?_; simp only [go_sem, Nat.reduceBEq])
  refine cur_ints [-1, 0, 1, 2, 255, 256, 65535, 2147483647, 2147483648, 4294967295, 4294967296, -2147483648, 9223372036854775807, -9223372036854775808] slT34 rfl rfl rfl (by decide) (by decide) m fun v h1 m1 => ?_
  simp only [go_sem, Nat.reduceBEq]
  refine (l1Int_c hl m1 (by decide) (by decide)).mono ?_
  rintro _ h2 ⟨n, hn, rfl, m2⟩
  simp only [go_sem, Nat.reduceBEq]
  have hr : ∀ n ∈ ([-1, 0, 1, 2, 255, 256, 65535, 2147483647, 2147483648, 4294967295, 4294967296, -2147483648, 9223372036854775807, -9223372036854775808] : List Int), IntKind.i64.min ≤ n ∧ n ≤ IntKind.i64.max := by decide
  exact ⟨n, rfl, hr n hn, m2.drop⟩
def WordP (h0 : Hp) (l : List UInt8) (p : Nat) (bag : Bag) (u : Value) (h' : Hp) : Prop := ∃ s : ByteArray, u = .string s ∧ s.size ≤ 16 ∧ CurM h0 h' l p bag
theorem l5Word_c (hl : l.length ≤ 1048576) (m : CurM h0 h l p bag) : ACalls Tryz.prog 85 #[pv p] h (WordP h0 l p bag) := by
  (refine enter Tryz.func85 rfl rfl (by kernel_rfl) [] ?_; simp only [go_sem, Nat.reduceBEq])
  refine cur_strs [⟨#[]⟩, ⟨#[97]⟩, ⟨#[98]⟩, ⟨#[120, 49]⟩, ⟨#[48]⟩, ⟨#[53]⟩, ⟨#[45, 53]⟩, ⟨#[48, 53]⟩, ⟨#[45, 48]⟩, ⟨#[49, 50, 97]⟩, ⟨#[48, 48, 55]⟩, ⟨#[49, 48, 48, 48, 48, 48, 48, 48, 48, 48]⟩, ⟨#[49, 48, 48, 48, 48, 48, 48, 48, 48, 49]⟩, ⟨#[32, 49]⟩, ⟨#[105, 116, 39, 115]⟩, ⟨#[10]⟩, ⟨#[60, 105, 62]⟩, ⟨#[255, 59]⟩, ⟨#[110, 97, 109, 101]⟩, ⟨#[115, 58, 49, 58]⟩] slT101 rfl rfl rfl (by decide) (by decide) m fun v h1 m1 => ?_
  simp only [go_sem, Nat.reduceBEq]
  refine (l1Str_c hl m1 (by decide) (by decide)).mono ?_
  rintro _ h2 ⟨s, hs, rfl, m2⟩
  simp only [go_sem, Nat.reduceBEq]
  refine ⟨s, rfl, ?_, m2.drop⟩
  simp only [List.mem_cons, List.not_mem_nil, or_false] at hs
  rcases hs with h | h | h | h | h | h | h | h | h | h | h | h | h | h | h | h | h | h | h | h <;> (rw [h]; decide)
/-- A draw of a value. -/
def ValP (B : Nat) (h0 : Hp) (l : List UInt8) (p : Nat) (bag : Bag) (u : Value) (h' : Hp) : Prop := ∃ (v : V) (a : Option Addr) (c : Nat), u = .agg #[.int .i64 v.kind, .int .i64 v.num, .string v.str, .int .i64 v.next, .slice a v.items.length c] ∧ v.ok ∧ v.bulk ≤ B ∧ CurM h0 h' l p ((.row 8 (v.items.flatMap edt), .slice a v.items.length c) :: bag)
theorem ValP.plain {B : Nat} {h' : Hp} (k n : Int) (s : ByteArray) (hk : IntKind.i64.min ≤ k ∧ k ≤ IntKind.i64.max) (hn : IntKind.i64.min ≤ n ∧ n ≤ IntKind.i64.max) (hs : s.size ≤ B) (hB : B ≤ 1000000) (m : CurM h0 h' l p bag) : ValP B h0 l p bag (.agg #[.int .i64 k, .int .i64 n, .string s, .int .i64 0, .slice none 0 0]) h' := by
  refine ⟨⟨k, n, s, 0, []⟩, none, 0, rfl, ?_, by rw [V.bulk_eq]; simpa [V.bulks, V.items, V.str] using hs, m.upd fun d m => (m.nilrow).swap⟩
  simp only [V.ok, V.oks, and_true]
  exact ⟨hk, hn, by unfold maxLen; omega, by decide, Nat.zero_le _⟩
theorem dBoolV (b : Bool) (h : Hp) : ACalls Tryz.prog 83 #[.bool b] h (Pu (.agg #[.int .i64 1, .int .i64 (if b then 1 else 0), .string ⟨#[]⟩, .int .i64 0, .slice none 0 0]) h) := by
  cases b with
  | false =>
    (refine enter Tryz.func83 rfl rfl (by kernel_rfl) [] ?_; simp only [go_sem, Nat.reduceBEq, Nat.reduceAdd, Nat.reduceLeDiff])
    exact ⟨rfl, rfl⟩
  | true =>
    (refine enter Tryz.func83 rfl rfl (by kernel_rfl) [] ?_; simp only [go_sem, Nat.reduceBEq, Nat.reduceAdd, Nat.reduceLeDiff])
    exact ⟨rfl, rfl⟩
theorem dIntV (n : Int) (h : Hp) : ACalls Tryz.prog 86 #[.int .i64 n] h (Pu (.agg #[.int .i64 2, .int .i64 n, .string ⟨#[]⟩, .int .i64 0, .slice none 0 0]) h) := by
  (refine enter Tryz.func86 rfl rfl (by kernel_rfl) [] ?_; simp only [go_sem, Nat.reduceBEq, Nat.reduceAdd, Nat.reduceLeDiff])
  exact ⟨rfl, rfl⟩
theorem dTextV (s : ByteArray) (h : Hp) : ACalls Tryz.prog 84 #[.string s] h (Pu (.agg #[.int .i64 3, .int .i64 0, .string s, .int .i64 0, .slice none 0 0]) h) := by
  (refine enter Tryz.func84 rfl rfl (by kernel_rfl) [] ?_; simp only [go_sem, Nat.reduceBEq, Nat.reduceAdd, Nat.reduceLeDiff])
  exact ⟨rfl, rfl⟩
theorem dArrV (h : Hp) : ACalls Tryz.prog 67 #[] h (Pu (.agg #[.int .i64 4, .int .i64 0, .string ⟨#[]⟩, .int .i64 0, .slice none 0 0]) h) := by
  (refine enter Tryz.func67 rfl rfl (by kernel_rfl) [] ?_; simp only [go_sem, Nat.reduceBEq, Nat.reduceAdd, Nat.reduceLeDiff])
  exact ⟨rfl, rfl⟩
end
end Go.Proofs.YtccjkhnefiikaaaGreatDoor
namespace Go.Proofs.YtccjkhnefiikaaaGreatDoor
set_option maxRecDepth 8000
open Go Go.Sx
section
variable {h0 h : Hp} {K : Value → Hp → Prop} {bag : Bag} {c : List Dt → Dt} {val : Value} {b off : Nat}
/-- a value of the walk's own is written -/
theorem var_store (hd : Hold c val b off) {w : V} {sl : Value} {j : Nat} {x : List Dt} (hx : x.length = 5) (m : My h0 h ((.row 8 (w.items.flatMap edt), sl) :: (c x, val) :: bag)) (hj : j = off) (k : ∀ h', My h0 h' ((c w.dt, val) :: bag) → K undef h') :
    HSem Tryz.prog (stI 49 (.pointer (some ⟨b, j, none⟩)) (.agg #[.int .i64 w.kind, .int .i64 w.num, .string w.str, .int .i64 w.next, sl])) h K := by
  refine hd.store (x := x) (es := w.dt) tyS49 ?_ hx (V.dt_len w) rfl hj k
  rw [V.dt_eq]
  simp only [cells_agg, List.zip_cons_cons, List.zip_nil_right, List.cons_append, List.nil_append, My.raw_iff, one_int, one_str, and_self, true_and]
  exact m
end
end Go.Proofs.YtccjkhnefiikaaaGreatDoor
/-! Calls into Go's library by the shelf's contracts: what they make stays out of sight; tables of the library's. -/
namespace Go.Sx
open Go
section
variable {P : Program} {f : Nat} {args : Array Value} {h h' : Hp}
/-- A contract that ends below the heap is a call that changes nothing visible. -/
theorem acalls_below {v : Value} (hp : plainFn P f = true) (hc : ∀ w, Sim h w → Calls P f args w fun e w' => e = .returned v ∧ RowKit.Below w.heap.size w w') : ACalls P f args h (Pu v h) :=
  .inl ⟨hp, fun w s => (hc w s).mono fun e w' ⟨he, hb⟩ => ⟨v, h, he, ⟨fun b o ho => (hb.block b (by
    have := s.vis b o ho
    exact (Array.getElem?_eq_some_iff.1 this).1)).trans (s.vis b o ho)⟩, ⟨hb.os, hb.tape, hb.output, hb.size, fun b hlt hn => ⟨hb.block b hlt, hn⟩⟩, rfl, rfl⟩⟩
theorem below_grow (w : World) (k : Nat) (os : Array Obj) : RowKit.Below w.heap.size w (Sort.grow (w.drewN k) os) :=
  ⟨rfl, rfl, rfl, by simp [Sort.grow, World.drewN], fun b hb => by
    show (w.heap ++ os)[b]? = w.heap[b]?
    rw [Array.getElem?_append_left hb]⟩
/-- A table of the library's lies in the visible heap. -/
def TabH (P : Program) (h : Hp) (name : String) (k : IntKind) (zs : List Int) : Prop := ∃ g e x, P.globalNamed name = some g ∧ h g = some (.cells (zs.map fun z => Value.int k z).toArray e x)
theorem TabH.ext {name : String} {k : IntKind} {zs : List Int} (e : Ext h h') (t : TabH P h name k zs) : TabH P h' name k zs := by
  obtain ⟨g, a, x, h1, h2⟩ := t
  exact ⟨g, a, x, h1, e g _ h2⟩
theorem TabH.is {name : String} {k : IntKind} {zs : List Int} {w : World} (s : Sim h w) (t : TabH P h name k zs) : Lib.TabIs P w name k zs := by
  obtain ⟨g, a, x, h1, h2⟩ := t
  unfold Lib.TabIs World.var?
  rw [h1]
  simp only [Option.bind_some, s.vis g _ h2]
theorem TabH.of {name : String} {k : IntKind} {zs : List Int} {w : World} (t : Lib.TabIs P w name k zs) : TabH P (vis w) name k zs := by
  unfold Lib.TabIs World.var? at t
  cases hg : P.globalNamed name with
  | none => rw [hg] at t; cases t
  | some g =>
    rw [hg] at t
    simp only [Option.bind_some] at t
    split at t
    · rename_i cs e x hb
      cases t
      exact ⟨g, e, x, hg, hb⟩
    · cases t
end
end Go.Sx
/-! Canonical decimal numerals: a numeral read is the numeral written. -/
namespace Go.Sx
open Go
theorem decFrom_snoc : ∀ (l : List UInt8) (acc m d : Nat) (b : UInt8), Lib.decFrom acc l = some m → Lib.digitVal b = some d → Lib.decFrom acc (l ++ [b]) = some (m * 10 + d)
  | [], acc, m, d, b, h, hd => by
    simp only [Lib.decFrom, Option.some.injEq] at h
    subst h
    simp [Lib.decFrom, hd]
  | a :: r, acc, m, d, b, h, hd => by
    simp only [List.cons_append, Lib.decFrom] at h ⊢
    cases ha : Lib.digitVal a with
    | none => rw [ha] at h; cases h
    | some e =>
      rw [ha] at h
      simp only at h ⊢
      exact decFrom_snoc r _ m d b h hd
theorem digitVal_of {d : Nat} (h : d < 10) : Lib.digitVal (UInt8.ofNat (48 + d)) = some d := by
  have : ∀ d : Nat, d < 10 → Lib.digitVal (UInt8.ofNat (48 + d)) = some d := by decide
  exact this d h
theorem decFrom_dec (u : Nat) : Lib.decFrom 0 (Lib.decDigits u) = some u := by
  induction u using Nat.strongRecOn with
  | _ u ih =>
    rw [Lib.decDigits]
    by_cases h : u < 10
    · rw [dif_pos h]
      simp only [Lib.decFrom, digitVal_of h, Nat.zero_mul, Nat.zero_add]
    · rw [dif_neg h, decFrom_snoc _ _ _ (u % 10) _ (ih (u / 10) (by omega)) (digitVal_of (by omega))]
      congr 1
      omega
theorem dec_ne (u : Nat) : Lib.decDigits u ≠ [] := by
  rw [Lib.decDigits]
  split <;> simp
theorem dec_head (u : Nat) : ∃ b r, Lib.decDigits u = b :: r ∧ 48 ≤ b.toNat ∧ b.toNat ≤ 57 := by
  cases h : Lib.decDigits u with
  | nil => exact absurd h (dec_ne u)
  | cons b r =>
    obtain ⟨d, hd⟩ := Lib.digit_of_decFrom _ _ _ (decFrom_dec u) 0 b (by rw [h]; rfl)
    unfold Lib.digitVal at hd
    split at hd
    · rename_i hb; exact ⟨b, r, rfl, hb⟩
    · cases hd
theorem atoi_itoa (n : Int) : Lib.atoi (Lib.itoa n) = some n := by
  have hd : ∀ u, Lib.decNat (Lib.decDigits u) = some u := fun u => by
    unfold Lib.decNat
    rw [if_neg (by simpa using dec_ne u), decFrom_dec]
  unfold Lib.itoa
  by_cases h : n < 0
  · rw [if_pos h]
    simp only [Lib.atoi, hd]
    simp
    omega
  · rw [if_neg h]
    obtain ⟨b, r, hb, h1, h2⟩ := dec_head n.toNat
    rw [hb]
    have e45 : (b == 45) = false := by
      rw [beq_eq_false_iff_ne]; rintro rfl; exact absurd h1 (by decide)
    have e43 : (b == 43) = false := by
      rw [beq_eq_false_iff_ne]; rintro rfl; exact absurd h1 (by decide)
    simp only [Lib.atoi, e45, e43, Bool.false_eq_true, if_false]
    rw [← hb, hd]
    simp
    omega
theorem itoa_inj {a b : Int} (h : Lib.itoa a = Lib.itoa b) : a = b := by
  have := atoi_itoa a
  rw [h, atoi_itoa b] at this
  exact (Option.some.inj this).symm
theorem nDigits_le : ∀ (k u : Nat), u < 10 ^ (k + 1) → Lib.nDigits u ≤ k + 1
  | 0, u, h => by rw [Lib.nDigits_small (by simpa using h)]; exact Nat.le_refl _
  | k + 1, u, h => by
    by_cases hu : u < 10
    · rw [Lib.nDigits_small hu]; omega
    · rw [Lib.nDigits_big hu]
      have := nDigits_le k (u / 10) (by rw [Nat.pow_succ] at h; omega)
      omega
theorem itoa_len {n : Int} {k : Nat} (h : n.natAbs < 10 ^ (k + 1)) : (Lib.itoa n).length ≤ k + 2 ∧ (0 ≤ n → (Lib.itoa n).length ≤ k + 1) := by
  unfold Lib.itoa
  by_cases hn : n < 0
  · rw [if_pos hn]
    have := nDigits_le k n.natAbs h
    rw [List.length_cons, Lib.decDigits_length]
    exact ⟨by omega, by omega⟩
  · rw [if_neg hn]
    have := nDigits_le k n.toNat (by rw [show n.toNat = n.natAbs by omega]; exact h)
    rw [Lib.decDigits_length]
    exact ⟨by omega, fun _ => this⟩
theorem itoa_pos_len (n : Int) : 1 ≤ (Lib.itoa n).length := by
  unfold Lib.itoa
  split
  · simp
  · have := dec_ne n.toNat
    cases h : Lib.decDigits n.toNat with
    | nil => exact absurd h this
    | cons => simp
theorem atoiAll_itoa {n : Int} (h : n.natAbs < 10 ^ 17) : Lib.atoiAll (Lib.itoa n) = .ok n := by
  rw [Lib.atoiAll_short _ (by have := (itoa_len (k := 16) h).1; omega), atoi_itoa]
  rfl
/-- The canonical numeral of a number of at most nine zeros. -/
def canonP (s : ByteArray) : Prop := ∃ n : Int, -1000000000 ≤ n ∧ n ≤ 1000000000 ∧ s.data.toList = Lib.itoa n
def canonB (s : ByteArray) : Bool := match Lib.atoiAll s.data.toList with
  | .ok n => decide (-1000000000 ≤ n ∧ n ≤ 1000000000) && decide (s.data.toList = Lib.itoa n)
  | _ => false
theorem canonB_iff {s : ByteArray} : canonB s = true ↔ canonP s := by
  unfold canonB
  constructor
  · intro h
    split at h
    · rename_i n hn
      simp only [Bool.and_eq_true, decide_eq_true_eq] at h
      exact ⟨n, h.1.1, h.1.2, h.2⟩
    · cases h
  · rintro ⟨n, h1, h2, h3⟩
    rw [h3, atoiAll_itoa (by omega)]
    simp [h1, h2]
theorem canonB_true {s : ByteArray} (h : canonP s) : canonB s = true := canonB_iff.2 h
theorem canonB_false {s : ByteArray} (h : ¬ canonP s) : canonB s = false := by
  cases hb : canonB s with
  | false => rfl
  | true => exact absurd (canonB_iff.1 hb) h
def keyOk (k : Ky) : Bool := if k.text then decide (k.num = 0) && (decide (k.str.size ≤ 400) && !canonB k.str) else decide (k.str = ⟨#[]⟩) && decide (-1000000000 ≤ k.num ∧ k.num ≤ 1000000000)
theorem ba_of {s : ByteArray} {l : List UInt8} (h : s.data.toList = l) : s = ⟨l.toArray⟩ := by
  cases s
  subst h
  simp
end Go.Sx
/-! The weight of a value; what a value must be like. -/
namespace Go.Sx
open Go
mutual
def V.weight : V → Nat
  | ⟨k, _, _, _, es⟩ => if k = 4 then 1 + V.weights es else 1
def V.weights : List (Ky × V) → Nat
  | [] => 0
  | (_, v) :: r => V.weight v + V.weights r
end
theorem V.weight_eq (v : V) : v.weight = if v.kind = 4 then 1 + V.weights v.items else 1 := by cases v; simp only [V.weight]; rfl
theorem V.weights_cons (e : Ky × V) (r : List (Ky × V)) : V.weights (e :: r) = e.2.weight + V.weights r := by obtain ⟨k, v⟩ := e; simp only [V.weights]
theorem V.weights_nil : V.weights [] = 0 := by simp only [V.weights]
theorem V.weights_append : ∀ p q : List (Ky × V), V.weights (p ++ q) = V.weights p + V.weights q
  | [], q => by simp [V.weights_nil]
  | e :: p, q => by rw [List.cons_append, V.weights_cons, V.weights_cons, V.weights_append p q]; omega
theorem V.weights_snoc {es : List (Ky × V)} {i : Nat} {e : Ky × V} (hi : es[i]? = some e) : V.weights (es.take (i + 1)) = V.weights (es.take i) + e.2.weight := by
  rw [take_snoc hi, V.weights_append, V.weights_cons, V.weights_nil]; omega
theorem V.weights_take (es : List (Ky × V)) (i : Nat) : V.weights (es.take i) ≤ V.weights es := by
  conv => rhs; rw [← List.take_append_drop i es, V.weights_append]
  omega
mutual
theorem V.weight_bulk : ∀ v : V, v.weight ≤ 1 + v.bulk
  | ⟨k, _, s, _, es⟩ => by
    have := V.weights_bulk es
    simp only [V.weight, V.bulk]
    split <;> omega
theorem V.weights_bulk : ∀ es : List (Ky × V), V.weights es ≤ V.bulks es
  | [] => by simp [V.weights]
  | (k, v) :: r => by
    have := V.weight_bulk v
    have := V.weights_bulk r
    simp only [V.weights, V.bulks]
    omega
end
/-- whether the parts of a value are right, the array's entries given -/
def wf0 (v : V) (arr : Bool) : Bool :=
  (!(decide (¬ v.kind = 3) && decide (¬ v.str = ⟨#[]⟩)) && !(decide (¬ v.kind = 4) && (decide (¬ v.next = 0) || decide (0 < v.items.length)))) &&
  (if v.kind = 0 then decide (v.num = 0) else if v.kind = 1 then decide (0 ≤ v.num ∧ v.num ≤ 1) else if v.kind = 2 then decide (-1000000000 ≤ v.num ∧ v.num ≤ 1000000000)
    else if v.kind = 3 then decide (v.num = 0) && decide (v.str.size ≤ 400) else if v.kind = 6 ∨ v.kind = 7 ∨ v.kind = 8 then decide (0 ≤ v.num ∧ v.num ≤ 255)
    else if v.kind = 4 then decide (v.num = 0) && (decide (0 ≤ v.next ∧ v.next ≤ 1000000001) && arr) else false)
mutual
def V.wf : V → Bool
  | ⟨k, n, s, x, es⟩ => wf0 ⟨k, n, s, x, es⟩ (wfEs x es [])
def wfEs : Int → List (Ky × V) → List Ky → Bool
  | _, [], _ => true
  | x, (k, v) :: r, seen => keyOk k && (!decide (k ∈ seen) && (!(!k.text && decide (x ≤ k.num)) && (V.wf v && wfEs x r (seen ++ [k]))))
end
theorem V.wf_eq (v : V) : v.wf = wf0 v (wfEs v.next v.items []) := by cases v; rw [V.wf]; rfl
theorem wfEs_nil (x : Int) (seen : List Ky) : wfEs x [] seen = true := by rw [wfEs]
theorem wfEs_cons (x : Int) (e : Ky × V) (r : List (Ky × V)) (seen : List Ky) : wfEs x (e :: r) seen = (keyOk e.1 && (!decide (e.1 ∈ seen) && (!(!e.1.text && decide (x ≤ e.1.num)) && (e.2.wf && wfEs x r (seen ++ [e.1]))))) := by
  obtain ⟨k, v⟩ := e
  rw [wfEs]
def V.valid (v : V) : Bool := decide (v.weight ≤ 200) && v.wf
/-- where a key stands first -/
theorem fk_first : ∀ (es : List (Ky × V)) (k : Ky) (n : Nat), (k ∈ es.map (·.1) → ∃ j, j < es.length ∧ fk es k n = some (n + j) ∧ k ∉ (es.take j).map (·.1)) ∧ (k ∉ es.map (·.1) → fk es k n = none)
  | [], k, n => ⟨by simp, by simp [fk]⟩
  | e :: r, k, n => by
    obtain ⟨h1, h2⟩ := fk_first r k (n + 1)
    by_cases he : e.1 = k
    · refine ⟨fun _ => ⟨0, by simp, by simp [fk, he], by simp⟩, fun hn => absurd (by simp [he]) hn⟩
    · constructor
      · intro hm
        simp only [List.map_cons, List.mem_cons] at hm
        obtain ⟨j, q1, q2, q3⟩ := h1 (hm.resolve_left fun k => he k.symm)
        refine ⟨j + 1, by simp; omega, by rw [fk, if_neg he, q2]; congr 1; omega, ?_⟩
        simp only [List.take_succ_cons, List.map_cons, List.mem_cons, not_or]
        exact ⟨fun k => he k.symm, q3⟩
      · intro hn
        rw [fk, if_neg he]
        exact h2 fun hm => hn (by simp only [List.map_cons, List.mem_cons]; exact .inr hm)
/-- An entry's key stands first there, and only if no entry before has it. -/
theorem fk_at {es : List (Ky × V)} {i : Nat} {e : Ky × V} (he : es[i]? = some e) : ∃ j, fk es e.1 0 = some j ∧ (j = i ↔ e.1 ∉ (es.take i).map (·.1)) := by
  obtain ⟨h1, _⟩ := fk_first es e.1 0
  obtain ⟨j, q1, q2, q3⟩ := h1 (List.mem_map.2 ⟨e, List.mem_of_getElem? he, rfl⟩)
  rw [Nat.zero_add] at q2
  refine ⟨j, q2, fun h => by subst h; exact q3, fun hn => ?_⟩
  obtain ⟨_, x, hx⟩ := fk_spec _ _ _ _ q2
  rw [Nat.sub_zero] at hx
  rcases Nat.lt_trichotomy i j with h | h | h
  · exact absurd (List.mem_map.2 ⟨e, List.mem_of_getElem? (i := i) (by rw [List.getElem?_take, if_pos h]; exact he), rfl⟩) q3
  · exact h.symm
  · exact absurd (List.mem_map.2 ⟨(e.1, x), List.mem_of_getElem? (i := j) (by rw [List.getElem?_take, if_pos h]; exact hx), rfl⟩) hn
end Go.Sx
/-! The union of two arrays, in plain Lean. -/
namespace Go.Sx
open Go
namespace V
def withNext (v : V) (n : Int) : V := ⟨v.kind, v.num, v.str, n, v.items⟩
end V
theorem bulks_append : ∀ p q : List (Ky × V), V.bulks (p ++ q) = V.bulks p + V.bulks q
  | [], q => by simp [V.bulks]
  | (k, v) :: r, q => by simp only [List.cons_append, V.bulks, bulks_append r q]; omega
theorem setKey_bulk (o : V) (k : Ky) (x : V) : V.bulks (o.setKey k x).items ≤ V.bulks o.items + (1 + (k.str.size + x.bulk)) ∧ (o.setKey k x).str = o.str ∧ (o.setKey k x).items.length ≤ o.items.length + 1 ∧ (o.setKey k x).kind = o.kind := by
  unfold V.setKey
  cases hf : o.find k with
  | none =>
    refine ⟨?_, rfl, ?_, rfl⟩
    · show V.bulks (o.items ++ [(k, x)]) ≤ _
      rw [bulks_append]
      simp only [V.bulks]
      omega
    · show (o.items ++ [(k, x)]).length ≤ _
      simp
  | some i =>
    simp only [V.setAt]
    cases hi : o.items[i]? with
    | none => exact ⟨by simp only; omega, rfl, by simp only; omega, rfl⟩
    | some e =>
      obtain ⟨y, hy, hg, hlt⟩ := V.find_get hf
      have e1 : e = (k, y) := by rw [hi] at hy; exact Option.some.inj hy
      subst e1
      refine ⟨?_, rfl, ?_, rfl⟩
      · have hs : V.bulks o.items = V.bulks (o.items.take i) + (1 + (k.str.size + y.bulk) + V.bulks (o.items.drop (i + 1))) := by
          conv => lhs; rw [← List.take_append_drop i o.items, drop_cons hi, bulks_append]
          simp only [V.bulks]
        show V.bulks (o.items.take i ++ (k, x) :: o.items.drop (i + 1)) ≤ _
        rw [bulks_append]
        simp only [V.bulks]
        omega
      · show (o.items.take i ++ (k, x) :: o.items.drop (i + 1)).length ≤ _
        rw [List.length_append, List.length_cons, List.length_take, List.length_drop]
        omega
end Go.Sx
/-! Entries that a draw makes and appends, with the cursor beside them. -/
namespace Go.Sx
open Go
variable {P : Program} {h0 h : Hp} {K : Value → Hp → Prop} {bag : Bag} {p : Nat} {l : List UInt8}
theorem CurM.two {x1 x2 : Dt × Value} (c : CurM h0 h l p (x1 :: x2 :: bag)) : ∃ y, My h0 h (x1 :: x2 :: y :: bag) ∧ ∀ h' x', My h0 h' (x' ++ y :: bag) → CurM h0 h' l p (x' ++ bag) := by
  obtain ⟨a, c, i, hh, h1, h2, h3⟩ := c
  exact ⟨_, h3.perm (List.perm_middle (l₁ := [x1, x2])).symm, fun h' x' m => ⟨a, c, i, hh, h1, h2, m.perm List.perm_middle⟩⟩
/-- one entry's literal -/
theorem cur_ent {t : Nat} {s : SlT} (hs : slT P t = some s) (hz : s.z = 8) {k : Ky} {w : V} {sl : Value} (c : CurM h0 h l p ((.row 8 (w.items.flatMap edt), sl) :: bag))
    (kk : ∀ v h', CurM h0 h' l p ((.row 8 (edt (k, w)), v) :: bag) → K v h') : HSem P (bsI t 1 #[(0, .agg #[.bool k.text, .int .i64 k.num, .string k.str, .int .i64 w.kind, .int .i64 w.num, .string w.str, .int .i64 w.next, sl])]) h K := by
  obtain ⟨y, m, back⟩ := c.fst
  refine hsem_my_lit (h0 := h0) (es := edt (k, w)) (parts := [(0, .agg #[.bool k.text, .int .i64 k.num, .string k.str, .int .i64 w.kind, .int .i64 w.num, .string w.str, .int .i64 w.next, sl])]) hs (by omega) (by decide) (by omega) rfl rfl (by simp [Value.cells, hz]) (bag := y :: bag) ?_ (by rw [hz]; rfl) (by rw [hz]; exact edt_len _) fun v h' m' => ?_
  · simp only [edt_eq, flat, List.flatMap_cons, List.flatMap_nil, List.append_nil, cells_agg, List.zip_cons_cons, List.zip_nil_right, List.cons_append, List.nil_append, My.raw_iff, one_bool, one_int, one_str, and_self, true_and]
    exact m
  · rw [hz] at m'
    exact kk v h' (back h' [_] m')
/-- .. and its append -/
theorem cur_push {t ty : Nat} {s : SlT} (hs : slT P t = some s) (hz : s.z = 8) (hzl : s.zero.length = 8) (hby : s.by_ ≤ 1000) {es : List (Ky × V)} {e : Ky × V} {v x : Value} (c : CurM h0 h l p ((.row 8 (edt e), x) :: (.row 8 (es.flatMap edt), v) :: bag)) (hlen : es.length ≤ 100000)
    (kk : ∀ (a : Option Addr) (c : Nat) (h' : Hp), CurM h0 h' l p ((.row 8 ((es ++ [e]).flatMap edt), .slice a (es ++ [e]).length c) :: bag) → K (.slice a (es ++ [e]).length c) h') : HSem P (apI #[t, t] ty #[v, x]) h K := by
  obtain ⟨y, m, back⟩ := c.two
  have m : My h0 h ((.row 8 (es.flatMap edt), v) :: (.row 8 (edt e), x) :: y :: bag) := m.swap
  rw [← hz] at m
  have hb : (es.length + 1) * s.by_ ≤ 100001 * 1000 := Nat.mul_le_mul (by omega) hby
  refine hsem_my_append hs (by omega) (by rw [hzl, hz]) es.length 1 m (by rw [hz]; exact fm_len edt_len _) (by rw [hz]; exact edt_len _) (by omega) (by omega) fun v' h' m' => ?_
  have e5 : es.flatMap edt ++ edt e = (es ++ [e]).flatMap edt := by rw [List.flatMap_append, List.flatMap_cons, List.flatMap_nil, List.append_nil]
  rw [e5, hz] at m'
  obtain ⟨a, c, rfl, _⟩ := m'.row_shape (by decide) (es ++ [e]).length (fm_len edt_len _)
  exact kk a c h' (back h' [_] m')
theorem bulks_snoc (es : List (Ky × V)) (k : Ky) (v : V) : V.bulks (es ++ [(k, v)]) = V.bulks es + (1 + (k.str.size + v.bulk)) := by
  rw [bulks_append]
  simp only [V.bulks]
  omega
theorem oks_snoc : ∀ {es : List (Ky × V)} {k : Ky} {v : V}, V.oks es → k.ok → v.ok → V.oks (es ++ [(k, v)])
  | [], k, v, _, hk, hv => by
    simp only [List.nil_append, V.oks, and_true]
    exact ⟨hk.1, hk.2, hv⟩
  | (a, b) :: r, k, v, h, hk, hv => by
    simp only [V.oks, List.cons_append] at h ⊢
    exact ⟨h.1, h.2.1, h.2.2.1, oks_snoc h.2.2.2 hk hv⟩
theorem V.ok_mk {k n x : Int} {s : ByteArray} {es : List (Ky × V)} (hk : IntKind.i64.min ≤ k ∧ k ≤ IntKind.i64.max) (hn : IntKind.i64.min ≤ n ∧ n ≤ IntKind.i64.max) (hs : s.size ≤ 1000000) (hx : IntKind.i64.min ≤ x ∧ x ≤ IntKind.i64.max) (hl : es.length ≤ 1000000) (ho : V.oks es) : (V.mk k n s x es).ok := by
  simp only [V.ok]
  exact ⟨hk, hn, by unfold maxLen; omega, hx, by unfold maxLen; omega, ho⟩
end Go.Sx
/-! Hash tables in plain Lean: hashes, chains, what a table must be like, how a key is found, set, taken out; sizes of slots, tables, blocks. -/
namespace Go.Sx
open Go
def Sl.bulk (s : Sl) : Nat := s.key.str.size + s.val.bulk
def Tb.bulk (t : Tb) : Nat := t.heads.length + szG Sl.bulk t.slots
def Bk.bulk (b : Bk) : Nat := b.tab.bulk
/-- Numbers, slots, blocks in memory. -/
abbrev RdI (h : Hp) (l : List Int) (sl : Value) : Prop := Rd h (.row 1 (l.flatMap idt)) sl
abbrev RdT (h : Hp) (l : List Sl) (sl : Value) : Prop := Rd h (.row 10 (l.flatMap Sl.dt)) sl
abbrev RdB (h : Hp) (l : List Bk) (sl : Value) : Prop := Rd h (.row 6 (l.flatMap Bk.dt)) sl
theorem RdL_slot {h : Hp} {e : Sl} {ys : List Value} (r : RdL h e.dt ys) :
    ∃ sl, ys = [.bool e.key.text, .int .i64 e.key.num, .string e.key.str, .int .i64 e.val.kind, .int .i64 e.val.num, .string e.val.str, .int .i64 e.val.next, sl, .bool e.live, .int .i64 e.link] ∧ RdE h e.val.items sl := by
  unfold Sl.dt at r
  obtain ⟨ks, zs, rfl, r1, r2⟩ := r.split
  obtain ⟨vs, ws, rfl, r3, r4⟩ := r2.split
  obtain ⟨sl, rfl, hs⟩ := RdL_val r3
  simp only [RdL_cons, RdL_nil, Rd_raw] at r4
  obtain ⟨_, _, rfl, ⟨rfl, _⟩, _, _, rfl, ⟨rfl, _⟩, rfl⟩ := r4
  rw [RdL_key r1]
  exact ⟨sl, rfl, hs⟩
theorem RdL_tab {h : Hp} {e : Tb} {ys : List Value} (r : RdL h e.dt ys) : ∃ s u, ys = [.bool e.hashed, s, u, .int .i64 e.next, .int .i64 e.count] ∧ RdI h e.heads s ∧ RdT h e.slots u := by
  simp only [Tb.dt, RdL_cons, RdL_nil, Rd_raw] at r
  obtain ⟨_, _, rfl, ⟨rfl, _⟩, s, _, rfl, hs, u, _, rfl, hu, _, _, rfl, ⟨rfl, _⟩, _, _, rfl, ⟨rfl, _⟩, rfl⟩ := r
  exact ⟨s, u, rfl, hs, hu⟩
theorem RdL_blk {h : Hp} {e : Bk} {ys : List Value} (r : RdL h e.dt ys) : ∃ s u, ys = [.int .i64 e.count, .bool e.tab.hashed, s, u, .int .i64 e.tab.next, .int .i64 e.tab.count] ∧ RdI h e.tab.heads s ∧ RdT h e.tab.slots u := by
  simp only [Bk.dt, RdL_cons, Rd_raw] at r
  obtain ⟨_, _, rfl, ⟨rfl, _⟩, r⟩ := r
  obtain ⟨s, u, rfl, hs, hu⟩ := RdL_tab r
  exact ⟨s, u, rfl, hs, hu⟩
theorem Tb.dt_len (t : Tb) : t.dt.length = 5 := rfl
section
variable {P : Program} {h : Hp} {K : Value → Hp → Prop}
/-- The load of a slot. -/
theorem hsem_slot {t b off i j : Nat} {es : List Sl} {e : Sl} {xs : List Value} (ht : tyS P t = some (true, 10)) (hat : At h ⟨b, off, none⟩ xs) (hr : RdL h (es.flatMap Sl.dt) xs) (hi : es[i]? = some e) (hj : j = off + i * 10)
    (k : ∀ sl, RdE h e.val.items sl → K (.agg #[.bool e.key.text, .int .i64 e.key.num, .string e.key.str, .int .i64 e.val.kind, .int .i64 e.val.num, .string e.val.str, .int .i64 e.val.next, sl, .bool e.live, .int .i64 e.link]) h) : HPure P (ldI t (.pointer (some ⟨b, j, none⟩))) h K :=
  hsem_row (f := Sl.dt) (o := 0) Sl.dt_len ht hat hr hi (Nat.le_refl _) (by rw [List.drop_zero, List.take_of_length_le (by rw [Sl.dt_len]; exact Nat.le_refl _)]) (by simpa using hj) fun ys r => by
    obtain ⟨sl, rfl, hs⟩ := RdL_slot r
    exact k sl hs
/-- The load of a slot's key. -/
theorem hsem_skey {t b off i j : Nat} {es : List Sl} {e : Sl} {xs : List Value} (ht : tyS P t = some (true, 3)) (hat : At h ⟨b, off, none⟩ xs) (hr : RdL h (es.flatMap Sl.dt) xs) (hi : es[i]? = some e) (hj : j = off + i * 10)
    (k : K (.agg #[.bool e.key.text, .int .i64 e.key.num, .string e.key.str]) h) : HPure P (ldI t (.pointer (some ⟨b, j, none⟩))) h K :=
  hsem_row (f := Sl.dt) (o := 0) (ds := e.key.dt) Sl.dt_len ht hat hr hi (by omega) (by simp [Sl.dt, Ky.dt]) (by simpa using hj) fun ys r => by
    rw [RdL_key r]
    exact k
/-- The load of a slot's value. -/
theorem hsem_sval {t b off i j : Nat} {es : List Sl} {e : Sl} {xs : List Value} (ht : tyS P t = some (true, 5)) (hat : At h ⟨b, off, none⟩ xs) (hr : RdL h (es.flatMap Sl.dt) xs) (hi : es[i]? = some e) (hj : j = off + i * 10 + 3)
    (k : ∀ sl, RdE h e.val.items sl → K (.agg #[.int .i64 e.val.kind, .int .i64 e.val.num, .string e.val.str, .int .i64 e.val.next, sl]) h) : HPure P (ldI t (.pointer (some ⟨b, j, none⟩))) h K :=
  hsem_row (f := Sl.dt) (o := 3) (ds := e.val.dt) Sl.dt_len ht hat hr hi (by omega) (by simp [Sl.dt, Ky.dt, V.dt_eq]) (by omega) fun ys r => by
    obtain ⟨sl, rfl, hs⟩ := RdL_val r
    exact k sl hs
/-- The load of whether a slot lives. -/
theorem hsem_slive {t n b off i j : Nat} {es : List Sl} {e : Sl} {xs : List Value} (ht : tyS P t = some (false, n)) (hat : At h ⟨b, off, none⟩ xs) (hr : RdL h (es.flatMap Sl.dt) xs) (hi : es[i]? = some e) (hj : j = off + i * 10 + 8)
    (k : K (.bool e.live) h) : HPure P (ldI t (.pointer (some ⟨b, j, none⟩))) h K :=
  hsem_cell (f := Sl.dt) (o := 8) (d := .raw (.bool e.live)) Sl.dt_len ht hat hr hi (by omega) (by rw [Sl.dt_eq]; rfl) (by omega) fun u hu => by
    obtain ⟨rfl, _⟩ := Rd_raw.1 hu
    exact k
/-- The load of a slot's link. -/
theorem hsem_slink {t n b off i j : Nat} {es : List Sl} {e : Sl} {xs : List Value} (ht : tyS P t = some (false, n)) (hat : At h ⟨b, off, none⟩ xs) (hr : RdL h (es.flatMap Sl.dt) xs) (hi : es[i]? = some e) (hj : j = off + i * 10 + 9)
    (k : K (.int .i64 e.link) h) : HPure P (ldI t (.pointer (some ⟨b, j, none⟩))) h K :=
  hsem_cell (f := Sl.dt) (o := 9) (d := .raw (.int .i64 e.link)) Sl.dt_len ht hat hr hi (by omega) (by rw [Sl.dt_eq]; rfl) (by omega) fun u hu => by
    obtain ⟨rfl, _⟩ := Rd_raw.1 hu
    exact k
/-- The load of a number. -/
theorem hsem_num {t n b off i j : Nat} {es : List Int} {e : Int} {xs : List Value} (ht : tyS P t = some (false, n)) (hat : At h ⟨b, off, none⟩ xs) (hr : RdL h (es.flatMap idt) xs) (hi : es[i]? = some e) (hj : j = off + i * 1)
    (k : K (.int .i64 e) h) : HPure P (ldI t (.pointer (some ⟨b, j, none⟩))) h K :=
  hsem_cell (f := idt) (o := 0) (d := .raw (.int .i64 e)) idt_len ht hat hr hi (by omega) rfl (by omega) fun u hu => by
    obtain ⟨rfl, _⟩ := Rd_raw.1 hu
    exact k
end
/-! hashes -/
def hstep (d : Nat) (c : UInt8) : Nat := (d * 1000003 + c.toNat + 13) % 2147483647
def hashT (s : ByteArray) : Nat := s.data.toList.foldl hstep 11
theorem hstep_lt (d : Nat) (c : UInt8) : hstep d c < 2147483647 := by unfold hstep; omega
theorem hfold_lt : ∀ (l : List UInt8) (d : Nat), d < 2147483647 → l.foldl hstep d < 2147483647
  | [], _, h => h
  | c :: r, d, _ => hfold_lt r (hstep d c) (hstep_lt d c)
theorem hfold_snoc {l : List UInt8} {i : Nat} {c : UInt8} (h : l[i]? = some c) : (l.take (i + 1)).foldl hstep 11 = hstep ((l.take i).foldl hstep 11) c := by
  rw [take_snoc h, List.foldl_append, List.foldl_cons, List.foldl_nil]
def Ky.hash (k : Ky) : Nat := if k.text then hashT k.str else (k.num % 2147483647).toNat
theorem Ky.hash_lt (k : Ky) : k.hash < 2147483647 := by
  unfold Ky.hash
  split
  · exact hfold_lt _ _ (by omega)
  · omega
/-! what a table must be like -/
def V.isZero (v : V) : Bool := decide (v.kind = 0) && (decide (v.num = 0) && (decide (v.str = ⟨#[]⟩) && (decide (v.next = 0) && decide (v.items.length = 0))))
/-- the heads of the first n slots -/
def hdsN (size : Nat) (ss : List Sl) : Nat → List Int
  | 0 => List.replicate size (-1)
  | n + 1 => match ss[n]? with
    | some s => (hdsN size ss n).set (s.key.hash % size) (n : Nat)
    | none => hdsN size ss n
theorem hdsN_len (size : Nat) (ss : List Sl) : ∀ n, (hdsN size ss n).length = size
  | 0 => by simp [hdsN]
  | n + 1 => by
    rw [hdsN]
    split
    · rw [List.length_set, hdsN_len size ss n]
    · exact hdsN_len size ss n
theorem hdsN_mem (size : Nat) (ss : List Sl) : ∀ n x, x ∈ hdsN size ss n → -1 ≤ x ∧ x < n
  | 0, x, h => by
    rw [hdsN, List.mem_replicate] at h
    omega
  | n + 1, x, h => by
    rw [hdsN] at h
    split at h
    · rcases List.mem_or_eq_of_mem_set h with h | h
      · have := hdsN_mem size ss n x h
        omega
      · omega
    · have := hdsN_mem size ss n x h
      omega
theorem hdsN_append (size : Nat) (ss us : List Sl) : ∀ n, n ≤ ss.length → hdsN size (ss ++ us) n = hdsN size ss n
  | 0, _ => rfl
  | n + 1, h => by
    rw [hdsN, hdsN, List.getElem?_append_left (by omega), hdsN_append size ss us n (by omega)]
theorem hdsN_succ {size : Nat} {ss : List Sl} {n : Nat} {s : Sl} (h : ss[n]? = some s) : hdsN size ss (n + 1) = (hdsN size ss n).set (s.key.hash % size) (n : Nat) := by
  rw [hdsN, h]
/-- how many slots live -/
def liveN (ss : List Sl) : Nat := (ss.filter (·.live)).length
theorem liveN_le (ss : List Sl) : liveN ss ≤ ss.length := List.length_filter_le _ _
theorem liveN_append (p q : List Sl) : liveN (p ++ q) = liveN p + liveN q := by unfold liveN; rw [List.filter_append, List.length_append]
theorem liveN_snoc {ss : List Sl} {i : Nat} {s : Sl} (h : ss[i]? = some s) : liveN (ss.take (i + 1)) = liveN (ss.take i) + if s.live then 1 else 0 := by
  rw [take_snoc h, liveN_append]
  congr 1
  unfold liveN
  cases hl : s.live <;> simp [hl]
theorem liveN_one (s : Sl) : liveN [s] = if s.live then 1 else 0 := by
  unfold liveN
  cases hl : s.live <;> simp [hl]
/-- 'and' of two numbers -/
def bandI (a b : Int) : Int := IntKind.i64.wrap ((BitVec.ofInt IntKind.i64.bits a &&& BitVec.ofInt IntKind.i64.bits b).toNat : Int)
theorem vbin_bandI {P : Program} {nc : Bool} {t : Nat} {a b : Int} : vbin P .and t nc (.int .i64 a) (.int .i64 b) = some (.int .i64 (bandI a b)) := vbin_and
/-- a power of two, as the program asks it -/
def p2 (n : Nat) : Bool := decide (bandI (n : Int) (IntKind.i64.wrap ((n : Int) - 1)) = 0)
structure Tb.wf (t : Tb) : Prop where
  next : 0 ≤ t.next ∧ t.next ≤ 1000000001
  keys : ∀ (i : Nat) (s : Sl), t.slots[i]? = some s → keyOk s.key = true ∧ (s.key.text = true ∨ s.key.num < t.next) ∧ (s.live = true ∨ s.val.isZero = true)
  dist : ∀ (i j : Nat) (s u : Sl), j < i → t.slots[i]? = some s → t.slots[j]? = some u → s.live = true → u.live = true → ¬ u.key = s.key
  cnt : t.count = liveN t.slots
  packed : t.hashed = false → t.heads.length = 0 ∧ (t.slots.length : Int) ≤ t.next ∧ t.slots.length ≤ 1024 ∧ ∀ (i : Nat) (s : Sl), t.slots[i]? = some s → s.key = ⟨false, (i : Nat), ⟨#[]⟩⟩ ∧ s.link = -1
  hash : t.hashed = true → (8 ≤ t.heads.length ∧ t.heads.length ≤ 1024) ∧ p2 t.heads.length = true ∧ t.slots.length ≤ t.heads.length ∧
    (∀ (i : Nat) (s : Sl), t.slots[i]? = some s → (hdsN t.heads.length t.slots i)[s.key.hash % t.heads.length]? = some s.link) ∧ t.heads = hdsN t.heads.length t.slots t.slots.length
/-! how a key is found -/
def chn (ss : List Sl) (k : Ky) : Nat → Int → Option Nat
  | 0, _ => none
  | f + 1, i => if i < 0 then none else match ss[i.toNat]? with
    | some s => if s.live = true ∧ s.key = k then some i.toNat else chn ss k f s.link
    | none => none
/-- each link of a chain goes back -/
def Back (ss : List Sl) : Prop := ∀ (i : Nat) (s : Sl), ss[i]? = some s → -1 ≤ s.link ∧ s.link < i
theorem chn_fuel {ss : List Sl} {k : Ky} (hb : Back ss) : ∀ (f g : Nat) (i : Int), i < f → i < g → chn ss k f i = chn ss k g i
  | 0, g, i, h, _ => by
    cases g with
    | zero => rfl
    | succ g => rw [chn, chn, if_pos (by omega)]
  | f + 1, 0, i, _, h => by rw [chn, chn, if_pos (by omega)]
  | f + 1, g + 1, i, hf, hg => by
    rw [chn, chn]
    split
    · rfl
    · split
      · rename_i hs
        have := hb _ _ hs
        rw [chn_fuel hb f g _ (by omega) (by omega)]
      · rfl
/-- the chain from a place on -/
def chain (ss : List Sl) (k : Ky) (i : Int) : Option Nat := chn ss k (i + 1).toNat i
theorem chain_neg {ss : List Sl} {k : Ky} {i : Int} (h : i < 0) : chain ss k i = none := by
  unfold chain
  cases (i + 1).toNat with
  | zero => rfl
  | succ f => rw [chn, if_pos h]
theorem chain_hit {ss : List Sl} {k : Ky} {i : Int} {s : Sl} (h0 : 0 ≤ i) (hs : ss[i.toNat]? = some s) (h : s.live = true ∧ s.key = k) : chain ss k i = some i.toNat := by
  unfold chain
  rw [show (i + 1).toNat = i.toNat + 1 by omega, chn, if_neg (by omega), hs]
  simp only
  rw [if_pos h]
theorem chain_miss {ss : List Sl} {k : Ky} {i : Int} {s : Sl} (hb : Back ss) (h0 : 0 ≤ i) (hs : ss[i.toNat]? = some s) (h : ¬ (s.live = true ∧ s.key = k)) : chain ss k i = chain ss k s.link := by
  unfold chain
  rw [show (i + 1).toNat = i.toNat + 1 by omega, chn, if_neg (by omega), hs]
  simp only
  rw [if_neg h]
  have := hb _ _ hs
  exact chn_fuel hb _ _ _ (by omega) (by omega)
theorem chain_some {ss : List Sl} {k : Ky} : ∀ (f : Nat) (i : Int) (j : Nat), chn ss k f i = some j → ∃ s, ss[j]? = some s ∧ s.live = true ∧ s.key = k
  | 0, _, _, h => by cases h
  | f + 1, i, j, h => by
    rw [chn] at h
    split at h
    · cases h
    · split at h
      · rename_i s hs
        split at h
        · rename_i hk
          cases h
          exact ⟨s, hs, hk⟩
        · exact chain_some f _ _ h
      · cases h
/-- the live slot of a key -/
def Tb.find (t : Tb) (k : Ky) : Option Nat :=
  if t.hashed then chain t.slots k (t.heads.getD (k.hash % t.heads.length) (-1))
  else if k.text = false ∧ k.str = ⟨#[]⟩ ∧ 0 ≤ k.num ∧ ((t.slots[k.num.toNat]?).map (·.live)).getD false = true then some k.num.toNat else none
theorem Tb.find_live {t : Tb} {k : Ky} {i : Nat} (h : t.find k = some i) : ∃ s, t.slots[i]? = some s ∧ s.live = true := by
  unfold Tb.find at h
  split at h
  · obtain ⟨s, h1, h2, _⟩ := chain_some _ _ _ h
    exact ⟨s, h1, h2⟩
  · split at h
    · rename_i hc
      cases h
      cases hs : t.slots[k.num.toNat]? with
      | none => rw [hs] at hc; simp at hc
      | some s => rw [hs] at hc; exact ⟨s, rfl, by simpa using hc.2.2.2⟩
    · cases h
/-- what the walks along a table lean on -/
structure Tb.ch (t : Tb) : Prop where
  back : t.hashed = true → Back t.slots
  heads : t.hashed = true → ∀ x ∈ t.heads, -1 ≤ x ∧ x < t.slots.length
  size : t.hashed = true → 8 ≤ t.heads.length ∧ t.heads.length ≤ 1024
  room : t.hashed = true → t.slots.length ≤ t.heads.length
  packed : t.hashed = false → t.slots.length ≤ 1024 ∧ ∀ (i : Nat) (s : Sl), t.slots[i]? = some s → s.key = ⟨false, (i : Nat), ⟨#[]⟩⟩
  next : 0 ≤ t.next ∧ t.next ≤ 1000000001
  keys : ∀ (i : Nat) (s : Sl), t.slots[i]? = some s → keyOk s.key = true ∧ (s.key.text = true ∨ s.key.num < t.next)
  cnt : t.count = liveN t.slots
theorem Tb.wf.ch {t : Tb} (w : t.wf) : t.ch where
  back h i s hs := by
    have h1 := (w.hash h).2.2.2.1 i s hs
    have h2 := hdsN_mem _ _ _ _ (List.mem_of_getElem? h1)
    omega
  heads h x hx := by
    rw [(w.hash h).2.2.2.2] at hx
    exact hdsN_mem _ _ _ _ hx
  size h := (w.hash h).1
  room h := (w.hash h).2.2.1
  packed h := ⟨(w.packed h).2.2.1, fun i s hs => ((w.packed h).2.2.2 i s hs).1⟩
  next := w.next
  keys i s hs := ⟨(w.keys i s hs).1, (w.keys i s hs).2.1⟩
  cnt := w.cnt
theorem Tb.ch.len {t : Tb} (c : t.ch) : t.slots.length ≤ 1024 := by
  cases h : t.hashed with
  | true => have := c.room h; have := c.size h; omega
  | false => exact (c.packed h).1
end Go.Sx
namespace Go.Sx
open Go
/-! how a table is changed -/
def Tb.link (t : Tb) (k : Ky) : Int := if t.hashed then t.heads.getD (k.hash % t.heads.length) (-1) else -1
/-- a live slot at the end -/
def Tb.push (t : Tb) (k : Ky) (v : V) : Tb := ⟨t.hashed, if t.hashed then t.heads.set (k.hash % t.heads.length) (t.slots.length : Nat) else t.heads, t.slots ++ [⟨k, v, true, t.link k⟩], t.next, t.count + 1⟩
/-- the next free number goes behind a key -/
def Tb.bump (t : Tb) (k : Ky) : Tb := ⟨t.hashed, t.heads, t.slots, if k.text then t.next else max t.next (k.num + 1), t.count⟩
/-- a power of two above a number -/
def dbl (c : Nat) : Nat → Nat → Nat
  | 0, s => s
  | f + 1, s => if s ≤ c then dbl c f (s * 2) else s
def roomN (c : Nat) : Nat := dbl c 12 8
theorem dbl_up {c f s : Nat} (h : s ≤ c) : dbl c (f + 1) s = dbl c f (s * 2) := by rw [dbl, if_pos h]
theorem dbl_stop {c f s : Nat} (h : ¬ s ≤ c) : dbl c (f + 1) s = s := by rw [dbl, if_neg h]
theorem roomN_spec {c : Nat} (h : c < 1024) : 8 ≤ roomN c ∧ roomN c ≤ 1024 ∧ c < roomN c := by
  unfold roomN
  by_cases h0 : 8 ≤ c
  case neg => rw [dbl_stop (by omega)]; omega
  rw [dbl_up (by omega)]
  by_cases h1 : 16 ≤ c
  case neg => rw [dbl_stop (by omega)]; omega
  rw [dbl_up (by omega)]
  by_cases h2 : 32 ≤ c
  case neg => rw [dbl_stop (by omega)]; omega
  rw [dbl_up (by omega)]
  by_cases h3 : 64 ≤ c
  case neg => rw [dbl_stop (by omega)]; omega
  rw [dbl_up (by omega)]
  by_cases h4 : 128 ≤ c
  case neg => rw [dbl_stop (by omega)]; omega
  rw [dbl_up (by omega)]
  by_cases h5 : 256 ≤ c
  case neg => rw [dbl_stop (by omega)]; omega
  rw [dbl_up (by omega)]
  by_cases h6 : 512 ≤ c
  case neg => rw [dbl_stop (by omega)]; omega
  rw [dbl_up (by omega)]
  rw [dbl_stop (by omega)]
  omega
def Tb.fresh (t : Tb) : Tb := ⟨true, List.replicate (roomN (liveN t.slots)) (-1), [], t.next, 0⟩
/-- live slots are added -/
def Tb.pushAll (o : Tb) : List Sl → Tb
  | [] => o
  | s :: r => Tb.pushAll (if s.live then o.push s.key s.val else o) r
theorem Tb.pushAll_append (p q : List Sl) : ∀ o : Tb, o.pushAll (p ++ q) = (o.pushAll p).pushAll q := by
  induction p with
  | nil => intro o; rfl
  | cons s r ih => intro o; rw [List.cons_append, Tb.pushAll, Tb.pushAll, ih]
theorem Tb.pushAll_snoc {o : Tb} {l : List Sl} {i : Nat} {s : Sl} (h : l[i]? = some s) : o.pushAll (l.take (i + 1)) = if s.live then (o.pushAll (l.take i)).push s.key s.val else o.pushAll (l.take i) := by
  rw [take_snoc h, Tb.pushAll_append]
  rfl
/-- the hashed table of the live slots -/
def Tb.build (t : Tb) : Tb := t.fresh.pushAll t.slots
def Tb.setVal (t : Tb) (i : Nat) (v : V) : Tb :=
  match t.slots[i]? with
  | some s => ⟨t.hashed, t.heads, t.slots.take i ++ ⟨s.key, v, s.live, s.link⟩ :: t.slots.drop (i + 1), t.next, t.count⟩
  | none => t
def V.zero : V := ⟨0, 0, ⟨#[]⟩, 0, []⟩
/-- a slot is emptied -/
def Tb.kill (t : Tb) (i : Nat) : Tb :=
  match t.slots[i]? with
  | some s => ⟨t.hashed, t.heads, t.slots.take i ++ ⟨s.key, V.zero, false, s.link⟩ :: t.slots.drop (i + 1), t.next, t.count - 1⟩
  | none => t
def Tb.drop (t : Tb) (k : Ky) : Tb := match t.find k with
  | some i => t.kill i
  | none => t
/-- a packed table that a key does not fit into is hashed -/
def Tb.hashIf (t : Tb) (k : Ky) : Tb := if t.hashed = false ∧ (¬ k = ⟨false, (t.slots.length : Nat), ⟨#[]⟩⟩ ∨ t.slots.length = 1024) then t.build else t
/-- a full hashed table is built anew -/
def Tb.growIf (t : Tb) : Tb := if t.hashed = true ∧ t.slots.length = t.heads.length then t.build else t
def Tb.put (t : Tb) (k : Ky) (v : V) : Tb := match t.find k with
  | some i => t.setVal i v
  | none => (((t.hashIf k).growIf).push k v).bump k
/-! what stays -/
theorem getD_mem {l : List Int} {i : Nat} {d : Int} (h : i < l.length) : l.getD i d ∈ l := by
  rw [List.getD_eq_getElem?_getD, List.getElem?_eq_getElem h]
  exact List.getElem_mem h
theorem getD_at {l : List Int} {i : Nat} {d : Int} (h : i < l.length) : l[i]? = some (l.getD i d) := by
  rw [List.getD_eq_getElem?_getD, List.getElem?_eq_getElem h]
  rfl
theorem Tb.ch.link {t : Tb} (c : t.ch) (k : Ky) : -1 ≤ t.link k ∧ t.link k < t.slots.length := by
  unfold Tb.link
  split
  · rename_i h
    have := c.size h
    exact c.heads h _ (getD_mem (Nat.mod_lt _ (by omega)))
  · omega
theorem snoc_get {α : Type} {l : List α} {x : α} {i : Nat} {s : α} (h : (l ++ [x])[i]? = some s) : (i < l.length ∧ l[i]? = some s) ∨ (i = l.length ∧ s = x) := by
  by_cases hi : i < l.length
  · rw [List.getElem?_append_left hi] at h
    exact .inl ⟨hi, h⟩
  · rw [List.getElem?_append_right (by omega)] at h
    have := (List.getElem?_eq_some_iff.1 h).1
    simp only [List.length_singleton] at this
    have e : i - l.length = 0 := by omega
    rw [e] at h
    simp at h
    exact .inr ⟨by omega, h.symm⟩
/-- what a push asks: room, and a key that goes on where the table is packed -/
def Tb.fits (t : Tb) (k : Ky) : Prop := (t.hashed = true → t.slots.length < t.heads.length) ∧ (t.hashed = false → t.slots.length < 1024 ∧ k = ⟨false, (t.slots.length : Nat), ⟨#[]⟩⟩)
theorem Tb.ch.push {t : Tb} (c : t.ch) {k : Ky} (v : V) (hf : t.fits k) (hk : keyOk k = true) (hn : k.text = true ∨ k.num < t.next) : (t.push k v).ch where
  back h i s hs := by
    have h : t.hashed = true := h
    rcases snoc_get (show (t.slots ++ [_])[i]? = some s from hs) with ⟨_, hs⟩ | ⟨rfl, rfl⟩
    · exact c.back h i s hs
    · exact c.link k
  heads h x hx := by
    have h : t.hashed = true := h
    have hx : x ∈ (if t.hashed then t.heads.set (k.hash % t.heads.length) (t.slots.length : Nat) else t.heads) := hx
    rw [if_pos h] at hx
    have hl : (t.push k v).slots.length = t.slots.length + 1 := by simp [Tb.push]
    rw [hl]
    rcases List.mem_or_eq_of_mem_set hx with hx | hx
    · have := c.heads h x hx
      omega
    · omega
  size h := by
    have h : t.hashed = true := h
    have := c.size h
    have e : (t.push k v).heads.length = t.heads.length := by simp [Tb.push, h]
    omega
  room h := by
    have h : t.hashed = true := h
    have := hf.1 h
    have e : (t.push k v).heads.length = t.heads.length := by simp [Tb.push, h]
    have hl : (t.push k v).slots.length = t.slots.length + 1 := by simp [Tb.push]
    omega
  packed h := by
    have h : t.hashed = false := h
    have h1 := hf.2 h
    have hl : (t.push k v).slots.length = t.slots.length + 1 := by simp [Tb.push]
    refine ⟨by omega, fun i s hs => ?_⟩
    rcases snoc_get (show (t.slots ++ [_])[i]? = some s from hs) with ⟨_, hs⟩ | ⟨rfl, rfl⟩
    · exact (c.packed h).2 i s hs
    · exact h1.2
  next := c.next
  keys i s hs := by
    rcases snoc_get (show (t.slots ++ [_])[i]? = some s from hs) with ⟨_, hs⟩ | ⟨rfl, rfl⟩
    · exact c.keys i s hs
    · exact ⟨hk, hn⟩
  cnt := by
    show t.count + 1 = ((liveN (t.slots ++ [⟨k, v, true, t.link k⟩]) : Nat) : Int)
    rw [liveN_append, liveN_one, c.cnt]
    simp
theorem keyOk_num {k : Ky} (h : keyOk k = true) : k.text = true ∨ (-1000000000 ≤ k.num ∧ k.num ≤ 1000000000) := by
  unfold keyOk at h
  cases ht : k.text with
  | true => exact .inl rfl
  | false => rw [ht] at h; simp at h; exact .inr h.2
/-- with a greater next number -/
theorem Tb.ch.withNext {t : Tb} (c : t.ch) {n : Int} (h1 : t.next ≤ n) (h2 : n ≤ 1000000001) : (Tb.mk t.hashed t.heads t.slots n t.count).ch where
  back := c.back
  heads := c.heads
  size := c.size
  room := c.room
  packed := c.packed
  next := ⟨by have := c.next; show 0 ≤ n; omega, h2⟩
  keys i s hs := by
    have := c.keys i s hs
    refine ⟨this.1, this.2.imp id fun h => ?_⟩
    show s.key.num < n
    omega
  cnt := c.cnt
theorem Tb.bumpNext {t : Tb} (c : t.ch) {k : Ky} (hk : keyOk k = true) : t.next ≤ (t.bump k).next ∧ (t.bump k).next ≤ 1000000001 ∧ (k.text = true ∨ k.num < (t.bump k).next) := by
  have h1 := c.next
  have h2 := keyOk_num hk
  unfold Tb.bump
  show t.next ≤ (if k.text then t.next else max t.next (k.num + 1)) ∧ _
  cases ht : k.text with
  | true => simp; omega
  | false =>
    rw [ht] at h2
    simp at h2
    simp
    omega
/-- a push whose key may lie behind the next number -/
theorem Tb.ch.pushBump {t : Tb} (c : t.ch) {k : Ky} (v : V) (hf : t.fits k) (hk : keyOk k = true) : ((t.push k v).bump k).ch := by
  have h1 := Tb.bumpNext c hk
  have c1 := c.withNext (n := (t.bump k).next) h1.1 h1.2.1
  exact c1.push v hf hk h1.2.2
theorem Tb.fresh_ch {t : Tb} (c : t.ch) (hl : liveN t.slots < 1024) : t.fresh.ch := by
  have hr := roomN_spec hl
  refine ⟨fun _ i s hs => (by simp [Tb.fresh] at hs), fun _ x hx => ?_, fun _ => ?_, fun _ => Nat.zero_le _, fun h => (by cases h), c.next, fun i s hs => (by simp [Tb.fresh] at hs), rfl⟩
  · have hx : x ∈ List.replicate (roomN (liveN t.slots)) (-1) := hx
    rw [List.mem_replicate] at hx
    show -1 ≤ x ∧ x < 0
    omega
  · show 8 ≤ (List.replicate (roomN (liveN t.slots)) (-1 : Int)).length ∧ (List.replicate (roomN (liveN t.slots)) (-1 : Int)).length ≤ 1024
    rw [List.length_replicate]
    omega
/-- the table that grows: what is right of it on the way -/
structure Tb.onWay (t o : Tb) (i : Nat) : Prop where
  ch : o.ch
  hashed : o.hashed = true
  size : o.heads.length = roomN (liveN t.slots)
  next : o.next = t.next
  len : o.slots.length = liveN (t.slots.take i)
theorem Tb.onWay.start {t : Tb} (c : t.ch) (hl : liveN t.slots < 1024) : t.onWay (t.fresh.pushAll (t.slots.take 0)) 0 := by
  refine ⟨Tb.fresh_ch c hl, rfl, ?_, rfl, rfl⟩
  show (List.replicate (roomN (liveN t.slots)) (-1 : Int)).length = _
  rw [List.length_replicate]
theorem liveN_take (ss : List Sl) (i : Nat) : liveN (ss.take i) ≤ liveN ss := by
  conv => rhs; rw [← List.take_append_drop i ss, liveN_append]
  omega
theorem Tb.onWay.fits {t o : Tb} {i : Nat} {s : Sl} (w : t.onWay o i) (hl : liveN t.slots < 1024) (hs : t.slots[i]? = some s) (hv : s.live = true) (k : Ky) : o.fits k := by
  have h1 := liveN_take t.slots (i + 1)
  rw [liveN_snoc hs, if_pos hv] at h1
  have hr := roomN_spec hl
  have h2 := w.len
  have h3 := w.size
  refine ⟨fun _ => by omega, fun h => ?_⟩
  rw [w.hashed] at h
  cases h
theorem Tb.onWay.step {t o : Tb} {i : Nat} {s : Sl} (w : t.onWay o i) (c : t.ch) (hl : liveN t.slots < 1024) (hs : t.slots[i]? = some s) (hv : s.live = true) : t.onWay (o.push s.key s.val) (i + 1) := by
  have hk := c.keys i s hs
  refine ⟨w.ch.push s.val (w.fits hl hs hv _) hk.1 (by rw [w.next]; exact hk.2), w.hashed, ?_, w.next, ?_⟩
  · rw [← w.size]
    simp [Tb.push, w.hashed]
  · rw [liveN_snoc hs, if_pos hv, ← w.len]
    simp [Tb.push]
theorem Tb.onWay.skip {t o : Tb} {i : Nat} {s : Sl} (w : t.onWay o i) (hs : t.slots[i]? = some s) (hv : s.live = false) : t.onWay o (i + 1) := by
  refine ⟨w.ch, w.hashed, w.size, w.next, ?_⟩
  rw [liveN_snoc hs, w.len, hv]
  simp
theorem Tb.onWay.all {t : Tb} (c : t.ch) (hl : liveN t.slots < 1024) : ∀ i, i ≤ t.slots.length → t.onWay (t.fresh.pushAll (t.slots.take i)) i
  | 0, _ => Tb.onWay.start c hl
  | i + 1, h => by
    obtain ⟨s, hs, _⟩ := get_lt (l := t.slots) (i := i) (by omega)
    have w := Tb.onWay.all c hl i (by omega)
    rw [Tb.pushAll_snoc hs]
    cases hv : s.live with
    | true => exact w.step c hl hs hv
    | false => exact w.skip hs hv
theorem Tb.ch.build {t : Tb} (c : t.ch) (hl : liveN t.slots < 1024) : t.onWay t.build t.slots.length := by
  have := Tb.onWay.all c hl t.slots.length (Nat.le_refl _)
  rw [List.take_length] at this
  exact this
theorem liveN_set {ss : List Sl} {i : Nat} {s : Sl} (hs : ss[i]? = some s) (u : Sl) : liveN (ss.take i ++ u :: ss.drop (i + 1)) + (if s.live then 1 else 0) = liveN ss + (if u.live then 1 else 0) := by
  have h1 : liveN ss = liveN (ss.take i) + ((if s.live then 1 else 0) + liveN (ss.drop (i + 1))) := by
    conv => lhs; rw [← List.take_append_drop i ss, drop_cons hs, show s :: ss.drop (i + 1) = [s] ++ ss.drop (i + 1) from rfl, liveN_append, liveN_append, liveN_one]
  rw [show u :: ss.drop (i + 1) = [u] ++ ss.drop (i + 1) from rfl, liveN_append, liveN_append, liveN_one]
  omega
theorem set_get {α : Type} {l : List α} {i j : Nat} {s u x : α} (hs : l[i]? = some s) (h : (l.take i ++ u :: l.drop (i + 1))[j]? = some x) : (j = i ∧ x = u) ∨ (j ≠ i ∧ l[j]? = some x) := by
  have hi := (List.getElem?_eq_some_iff.1 hs).1
  have e : l.take i ++ u :: l.drop (i + 1) = l.set i u := (set_split u hi).symm
  rw [e, List.getElem?_set] at h
  by_cases hj : i = j
  · subst hj
    rw [if_pos rfl, if_pos hi] at h
    cases h
    exact .inl ⟨rfl, rfl⟩
  · rw [if_neg hj] at h
    exact .inr ⟨fun k => hj k.symm, h⟩
theorem set_len {α : Type} {l : List α} {i : Nat} {s u : α} (hs : l[i]? = some s) : (l.take i ++ u :: l.drop (i + 1)).length = l.length := by
  have hi := (List.getElem?_eq_some_iff.1 hs).1
  rw [← set_split u hi, List.length_set]
/-- a slot whose key and link stay -/
theorem Tb.ch.setSlot {t : Tb} (c : t.ch) {i : Nat} {s u : Sl} (hs : t.slots[i]? = some s) (hk : u.key = s.key) (hl : u.link = s.link) {n : Int} (hn : n + (if s.live then 1 else 0) = t.count + (if u.live then 1 else 0)) :
    (Tb.mk t.hashed t.heads (t.slots.take i ++ u :: t.slots.drop (i + 1)) t.next n).ch := by
  have len := set_len (u := u) hs
  refine ⟨fun h j x hx => ?_, fun h x hx => ?_, c.size, fun h => ?_, fun h => ⟨?_, fun j x hx => ?_⟩, c.next, fun j x hx => ?_, ?_⟩
  · rcases set_get hs hx with ⟨rfl, rfl⟩ | ⟨_, hx⟩
    · rw [hl]; exact c.back h _ _ hs
    · exact c.back h _ _ hx
  · have := c.heads h x hx
    show -1 ≤ x ∧ x < ((t.slots.take i ++ u :: t.slots.drop (i + 1)).length : Nat)
    rw [len]; exact this
  · show (t.slots.take i ++ u :: t.slots.drop (i + 1)).length ≤ _
    rw [len]; exact c.room h
  · show (t.slots.take i ++ u :: t.slots.drop (i + 1)).length ≤ _
    rw [len]; exact (c.packed h).1
  · rcases set_get hs hx with ⟨rfl, rfl⟩ | ⟨_, hx⟩
    · rw [hk]; exact (c.packed h).2 _ _ hs
    · exact (c.packed h).2 _ _ hx
  · rcases set_get hs hx with ⟨rfl, rfl⟩ | ⟨_, hx⟩
    · rw [hk]; exact c.keys _ _ hs
    · exact c.keys _ _ hx
  · have h1 := liveN_set hs u
    have h2 := c.cnt
    show n = ((liveN (t.slots.take i ++ u :: t.slots.drop (i + 1)) : Nat) : Int)
    cases h3 : s.live <;> cases h4 : u.live <;> rw [h3, h4] at h1 hn <;> simp at h1 hn <;> omega
theorem Tb.ch.setVal {t : Tb} (c : t.ch) (i : Nat) (v : V) : (t.setVal i v).ch := by
  unfold Tb.setVal
  split
  · rename_i s hs
    exact c.setSlot (u := ⟨s.key, v, s.live, s.link⟩) hs rfl rfl rfl
  · exact c
theorem Tb.ch.kill {t : Tb} (c : t.ch) {i : Nat} {s : Sl} (hs : t.slots[i]? = some s) (hv : s.live = true) : (t.kill i).ch := by
  unfold Tb.kill
  rw [hs]
  refine c.setSlot (u := ⟨s.key, V.zero, false, s.link⟩) hs rfl rfl ?_
  simp [hv]
theorem Tb.ch.hashIf {t : Tb} (c : t.ch) (hl : liveN t.slots < 1024) (k : Ky) : (t.hashIf k).ch ∧ liveN (t.hashIf k).slots < 1024 ∧ ((t.hashIf k).hashed = false → t.slots.length < 1024 ∧ k = ⟨false, ((t.hashIf k).slots.length : Nat), ⟨#[]⟩⟩ ∧ t.hashIf k = t) := by
  unfold Tb.hashIf
  split
  · have w := c.build hl
    refine ⟨w.ch, ?_, fun h => ?_⟩
    · have h1 := liveN_le t.build.slots
      have h2 := w.len
      rw [List.take_length] at h2
      omega
    · rw [w.hashed] at h; cases h
  · rename_i hc
    refine ⟨c, hl, fun h => ?_⟩
    have h1 := (c.packed h).1
    simp only [h, true_and, not_or, Classical.not_not] at hc
    exact ⟨by omega, hc.1, rfl⟩
theorem Tb.ch.growIf {t : Tb} (c : t.ch) (hl : liveN t.slots < 1024) : t.growIf.ch ∧ (t.growIf.hashed = true → t.growIf.slots.length < t.growIf.heads.length) ∧ (t.growIf.hashed = false → t.growIf = t) := by
  unfold Tb.growIf
  split
  · have w := c.build hl
    have hr := roomN_spec hl
    have h2 := w.len
    rw [List.take_length] at h2
    have h3 := w.size
    refine ⟨w.ch, fun _ => by omega, fun h => ?_⟩
    rw [w.hashed] at h; cases h
  · rename_i hc
    refine ⟨c, fun h => ?_, fun _ => rfl⟩
    have := c.room h
    simp only [h, true_and] at hc
    omega
theorem Tb.put_fits {t : Tb} (c : t.ch) (hl : liveN t.slots < 1024) (k : Ky) : ((t.hashIf k).growIf).ch ∧ ((t.hashIf k).growIf).fits k := by
  obtain ⟨c1, l1, p1⟩ := c.hashIf hl k
  obtain ⟨c2, g1, g2⟩ := c1.growIf l1
  refine ⟨c2, g1, fun h => ?_⟩
  have e := g2 h
  rw [e] at h ⊢
  obtain ⟨q1, q2, q3⟩ := p1 h
  rw [q3] at q2 ⊢
  exact ⟨q1, q2⟩
theorem Tb.ch.put {t : Tb} (c : t.ch) {k : Ky} (v : V) (hk : keyOk k = true) (hl : t.find k = none → liveN t.slots < 1024) : (t.put k v).ch := by
  unfold Tb.put
  split
  · exact c.setVal _ v
  · rename_i hf
    obtain ⟨c1, f1⟩ := Tb.put_fits c (hl hf) k
    exact c1.pushBump v f1 hk
end Go.Sx
namespace Go.Sx
open Go
/-! how much a table holds -/
theorem szG_append {α : Type} {w : α → Nat} (p q : List α) : szG w (p ++ q) = szG w p + szG w q := by
  unfold szG gsum
  rw [List.length_append, List.map_append, List.sum_append]
  omega
theorem szG_one {α : Type} {w : α → Nat} (a : α) : szG w [a] = 1 + w a := by simp [szG, gsum]
theorem szG_cons {α : Type} {w : α → Nat} (a : α) (r : List α) : szG w (a :: r) = 1 + w a + szG w r := by
  rw [show a :: r = [a] ++ r from rfl, szG_append, szG_one]
theorem szG_split {α : Type} {w : α → Nat} {l : List α} {i : Nat} {a : α} (h : l[i]? = some a) (u : α) : szG w (l.take i ++ u :: l.drop (i + 1)) + w a = szG w l + w u := by
  conv => rhs; rw [← List.take_append_drop i l, drop_cons h, szG_append, szG_cons]
  rw [szG_append, szG_cons]
  omega
theorem szG_take {α : Type} {w : α → Nat} (l : List α) (i : Nat) : szG w (l.take i) ≤ szG w l := by
  conv => rhs; rw [← List.take_append_drop i l, szG_append]
  omega
theorem szG_len {α : Type} {w : α → Nat} (l : List α) : l.length ≤ szG w l := by unfold szG; omega
theorem szG_mem {α : Type} {w : α → Nat} {l : List α} {a : α} (h : a ∈ l) : w a + 1 ≤ szG w l := by
  have h1 := gsum_mem (w := w) h
  have h2 := List.length_pos_of_mem h
  unfold szG
  omega
theorem Tb.kill_bulk (t : Tb) (i : Nat) : (t.kill i).bulk ≤ t.bulk := by
  unfold Tb.kill
  split
  · rename_i s hs
    have := szG_split (w := Sl.bulk) hs ⟨s.key, V.zero, false, s.link⟩
    have e : Sl.bulk ⟨s.key, V.zero, false, s.link⟩ = s.key.str.size := rfl
    have e2 : Sl.bulk s = s.key.str.size + s.val.bulk := rfl
    unfold Tb.bulk
    show t.heads.length + szG Sl.bulk (t.slots.take i ++ _ :: t.slots.drop (i + 1)) ≤ _
    omega
  · omega
theorem Tb.drop_bulk (t : Tb) (k : Ky) : (t.drop k).bulk ≤ t.bulk := by
  unfold Tb.drop
  split
  · exact t.kill_bulk _
  · omega
theorem Tb.setVal_bulk (t : Tb) (i : Nat) (v : V) : (t.setVal i v).bulk ≤ t.bulk + v.bulk := by
  unfold Tb.setVal
  split
  · rename_i s hs
    have := szG_split (w := Sl.bulk) hs ⟨s.key, v, s.live, s.link⟩
    have e : Sl.bulk ⟨s.key, v, s.live, s.link⟩ = s.key.str.size + v.bulk := rfl
    have e2 : Sl.bulk s = s.key.str.size + s.val.bulk := rfl
    unfold Tb.bulk
    show t.heads.length + szG Sl.bulk (t.slots.take i ++ _ :: t.slots.drop (i + 1)) ≤ _
    omega
  · omega
theorem Tb.push_slots (t : Tb) (k : Ky) (v : V) : szG Sl.bulk (t.push k v).slots = szG Sl.bulk t.slots + (1 + (k.str.size + v.bulk)) ∧ (t.push k v).heads.length = t.heads.length := by
  refine ⟨?_, ?_⟩
  · show szG Sl.bulk (t.slots ++ [_]) = _
    rw [szG_append, szG_one]
    rfl
  · unfold Tb.push
    show (if t.hashed then _ else _ : List Int).length = _
    split
    · rw [List.length_set]
    · rfl
theorem Tb.pushAll_slots : ∀ (l : List Sl) (o : Tb), szG Sl.bulk (o.pushAll l).slots ≤ szG Sl.bulk o.slots + szG Sl.bulk l ∧ (o.pushAll l).heads.length = o.heads.length
  | [], o => by simp [Tb.pushAll]
  | s :: r, o => by
    rw [Tb.pushAll, szG_cons]
    have h := Tb.pushAll_slots r (if s.live then o.push s.key s.val else o)
    have h2 := o.push_slots s.key s.val
    have e2 : Sl.bulk s = s.key.str.size + s.val.bulk := rfl
    split at h
    · rename_i hl
      rw [if_pos hl]
      omega
    · rename_i hl
      rw [if_neg hl]
      omega
theorem dbl_le (c : Nat) : ∀ f s, dbl c f s ≤ s * 2 ^ f
  | 0, s => by simp [dbl]
  | f + 1, s => by
    rw [dbl]
    have := dbl_le c f (s * 2)
    have e : s * 2 * 2 ^ f = s * 2 ^ (f + 1) := by rw [Nat.pow_succ, Nat.mul_assoc, Nat.mul_comm 2]
    have h1 : s * 1 ≤ s * 2 ^ (f + 1) := Nat.mul_le_mul_left s (Nat.one_le_two_pow)
    split <;> omega
theorem roomN_le (c : Nat) : roomN c ≤ 32768 := by
  have := dbl_le c 12 8
  unfold roomN
  omega
theorem Tb.build_slots (t : Tb) : szG Sl.bulk t.build.slots ≤ szG Sl.bulk t.slots ∧ t.build.heads.length ≤ 32768 := by
  have h := Tb.pushAll_slots t.slots t.fresh
  have e : szG Sl.bulk t.fresh.slots = 0 := rfl
  have e2 : t.fresh.heads.length = roomN (liveN t.slots) := by
    show (List.replicate (roomN (liveN t.slots)) (-1 : Int)).length = _
    rw [List.length_replicate]
  have := roomN_le (liveN t.slots)
  unfold Tb.build
  omega
theorem Tb.build_bulk (t : Tb) : t.build.bulk ≤ t.bulk + 32768 := by
  have := t.build_slots
  unfold Tb.bulk
  omega
theorem Tb.bump_bulk (t : Tb) (k : Ky) : (t.bump k).bulk = t.bulk := rfl
theorem Tb.hashIf_bulk (t : Tb) (k : Ky) : (t.hashIf k).bulk ≤ t.bulk + 32768 := by
  unfold Tb.hashIf
  split
  · exact t.build_bulk
  · omega
theorem Tb.growIf_bulk (t : Tb) : t.growIf.bulk ≤ t.bulk + 32768 := by
  unfold Tb.growIf
  split
  · exact t.build_bulk
  · omega
theorem Tb.put_bulk (t : Tb) (k : Ky) (v : V) : (t.put k v).bulk ≤ t.bulk + k.str.size + v.bulk + 65537 := by
  unfold Tb.put
  split
  · have := t.setVal_bulk (i := ‹Nat›) v
    omega
  · rw [Tb.bump_bulk]
    have h1 := t.hashIf_bulk k
    have h2 := (t.hashIf k).growIf_bulk
    have h3 := (t.hashIf k).growIf.push_slots k v
    generalize (t.hashIf k).growIf = g at *
    unfold Tb.bulk at *
    omega
/-! whether a table is right, as a Bool -/
def allIx (n : Nat) (p : Nat → Bool) : Bool := (List.range n).all p
theorem allIx_iff {n : Nat} {p : Nat → Bool} : allIx n p = true ↔ ∀ i, i < n → p i = true := by
  unfold allIx
  rw [List.all_eq_true]
  exact ⟨fun h i hi => h i (List.mem_range.2 hi), fun h i hi => h i (List.mem_range.1 hi)⟩
def at_ {α : Type} (l : List α) (i : Nat) (p : α → Bool) : Bool := match l[i]? with
  | some a => p a
  | none => true
theorem at_iff {α : Type} {l : List α} {i : Nat} {p : α → Bool} : at_ l i p = true ↔ ∀ a, l[i]? = some a → p a = true := by
  unfold at_
  cases l[i]? with
  | none => simp
  | some a => simp
theorem allAt_iff {α : Type} {l : List α} {p : Nat → α → Bool} : allIx l.length (fun i => at_ l i (p i)) = true ↔ ∀ i a, l[i]? = some a → p i a = true := by
  rw [allIx_iff]
  constructor
  · intro h i a ha
    exact at_iff.1 (h i (List.getElem?_eq_some_iff.1 ha).1) a ha
  · intro h i _
    exact at_iff.2 fun a ha => h i a ha
def Tb.isTab (t : Tb) : Bool :=
  decide (0 ≤ t.next ∧ t.next ≤ 1000000001) &&
  (allIx t.slots.length (fun i => at_ t.slots i fun (s : Sl) => keyOk s.key && ((s.key.text || decide (s.key.num < t.next)) && (s.live || s.val.isZero))) &&
  (allIx t.slots.length (fun i => at_ t.slots i fun (s : Sl) => allIx t.slots.length fun j => at_ t.slots j fun (u : Sl) => !(decide (j < i) && (s.live && (u.live && decide (u.key = s.key))))) &&
  (decide (t.count = liveN t.slots) &&
  (if t.hashed then decide (8 ≤ t.heads.length ∧ t.heads.length ≤ 1024) && (p2 t.heads.length && (decide (t.slots.length ≤ t.heads.length) &&
      (allIx t.slots.length (fun i => at_ t.slots i fun (s : Sl) => decide ((hdsN t.heads.length t.slots i)[s.key.hash % t.heads.length]? = some s.link)) && decide (t.heads = hdsN t.heads.length t.slots t.slots.length))))
   else decide (t.heads.length = 0) && (decide ((t.slots.length : Int) ≤ t.next) && (decide (t.slots.length ≤ 1024) && allIx t.slots.length fun i => at_ t.slots i fun (s : Sl) => decide (s.key = ⟨false, (i : Nat), ⟨#[]⟩⟩) && decide (s.link = -1)))))))
theorem Tb.isTab_iff (t : Tb) : t.isTab = true ↔ t.wf := by
  unfold Tb.isTab
  constructor
  · intro h
    cases hh : t.hashed with
    | true =>
      simp only [hh, if_true, Bool.and_eq_true, decide_eq_true_eq, allAt_iff] at h
      obtain ⟨h1, h2, h3, h4, h5, h6, h7, h8, h9⟩ := h
      refine ⟨h1, fun i s hs => ?_, fun i j s u hj hs hu ls lu => ?_, h4, fun k => (by rw [hh] at k; cases k), fun _ => ⟨h5, h6, h7, h8, h9⟩⟩
      · have := h2 i s hs
        simpa using this
      · have := h3 i s hs j u hu
        simpa [hj, ls, lu] using this
    | false =>
      simp only [hh, Bool.false_eq_true, if_false, Bool.and_eq_true, decide_eq_true_eq, allAt_iff] at h
      obtain ⟨h1, h2, h3, h4, h5, h6, h7, h8⟩ := h
      refine ⟨h1, fun i s hs => ?_, fun i j s u hj hs hu ls lu => ?_, h4, fun _ => ⟨h5, h6, h7, h8⟩, fun k => by rw [hh] at k; cases k⟩
      · have := h2 i s hs
        simpa using this
      · have := h3 i s hs j u hu
        simpa [hj, ls, lu] using this
  · intro w
    have k2 : ∀ (i : Nat) (s : Sl), t.slots[i]? = some s → (keyOk s.key && ((s.key.text || decide (s.key.num < t.next)) && (s.live || s.val.isZero))) = true := fun i s hs => by simpa using w.keys i s hs
    have k3 : ∀ (i : Nat) (s : Sl), t.slots[i]? = some s → ∀ (j : Nat) (u : Sl), t.slots[j]? = some u → (!(decide (j < i) && (s.live && (u.live && decide (u.key = s.key))))) = true := fun i s hs j u hu => by
      by_cases hj : j < i
      · cases ls : s.live with
        | false => simp
        | true =>
          cases lu : u.live with
          | false => simp
          | true =>
            have := w.dist i j s u hj hs hu ls lu
            simp [this]
      · simp [hj]
    cases hh : t.hashed with
    | true =>
      simp only [if_true, Bool.and_eq_true, decide_eq_true_eq, allAt_iff]
      obtain ⟨q1, q2, q3, q4, q5⟩ := w.hash hh
      exact ⟨w.next, fun i s hs => by simpa using k2 i s hs, k3, w.cnt, q1, q2, q3, q4, q5⟩
    | false =>
      simp only [Bool.false_eq_true, if_false, Bool.and_eq_true, decide_eq_true_eq, allAt_iff]
      obtain ⟨q1, q2, q3, q4⟩ := w.packed hh
      exact ⟨w.next, fun i s hs => by simpa using k2 i s hs, k3, w.cnt, q1, q2, q3, q4⟩
end Go.Sx
/-! What stands still in one block while others are written; numbers in slices; slots of slices of the walk's own. -/
namespace Go.Sx
open Go
/-- the heap, of which one block alone is looked at -/
def only (h : Hp) (b : Nat) : Hp := fun i => if i = b then h i else none
section
variable {P : Program} {h0 h : Hp} {K : Value → Hp → Prop} {bag : Bag} {c : List Dt → Dt} {val : Value} {b off : Nat}
theorem Hold.there (hd : Hold c val b off) {x : List Dt} (m : My h0 h ((c x, val) :: bag)) : ∃ o, h b = some o := by
  obtain ⟨xs, _, cur, e, f, hb, _⟩ := hd.rd m
  exact ⟨_, hb⟩
theorem idt_raws : ∀ l : List Int, l.flatMap idt = (l.map (Value.int .i64)).map .raw
  | [] => rfl
  | a :: r => by rw [List.flatMap_cons, List.map_cons, List.map_cons, idt_raws r]; rfl
theorem RdL_ints {l : List Int} {xs : List Value} (r : RdL h (l.flatMap idt) xs) : xs = l.map (Value.int .i64) := by
  rw [idt_raws] at r
  exact r.of_raws
/-- numbers are appended to an empty slice -/
theorem hsem_copyI {t ty e : Nat} {l : List Int} {v sl : Value} (hs : slT P t = some ⟨e, 1, 8, [.int .i64 0]⟩) (m : My h0 h ((.row 1 [], v) :: bag)) (rd : RdI h l sl) (hl : l.length ≤ 1099511627776) (k : ∀ v' h', My h0 h' ((.row 1 (l.flatMap idt), v') :: bag) → K v' h') : HSem P (apI #[t, t] ty #[v, sl]) h K := by
  simp only [Rd] at rd
  obtain ⟨xs, r1, r2⟩ := rd
  have hx := RdL_ints r2
  refine hsem_my_appendR hs (Nat.zero_lt_one) rfl 0 l.length m r1 rfl (by rw [hx, List.length_map]; simp) (by show (0 + l.length) * 8 ≤ _; omega) (by omega) fun v' h' m' => k v' h' ?_
  rw [List.nil_append, hx, ← idt_raws] at m'
  exact m'
/-- the cells of a slot -/
def slC (e : Sl) (sl : Value) : List Value := [.bool e.key.text, .int .i64 e.key.num, .string e.key.str, .int .i64 e.val.kind, .int .i64 e.val.num, .string e.val.str, .int .i64 e.val.next, sl, .bool e.live, .int .i64 e.link]
theorem slot_zip (e : Sl) {sl : Value} (m : My h0 h ((.row 8 (e.val.items.flatMap edt), sl) :: bag)) : My h0 h ((Sl.dt e).zip (slC e sl) ++ bag) := by
  simp only [Sl.dt_eq, slC, List.zip_cons_cons, List.zip_nil_right, List.cons_append, List.nil_append, My.raw_iff, one_bool, one_int, one_str, and_self, true_and]
  exact ((m.raw (u := .int .i64 e.link) rfl).raw (u := .bool e.live) rfl).third
/-- a slot whose items are taken out -/
def srw (e : Sl) (u : Value) : List Dt := [.raw (.bool e.key.text), .raw (.int .i64 e.key.num), .raw (.string e.key.str), .raw (.int .i64 e.val.kind), .raw (.int .i64 e.val.num), .raw (.string e.val.str), .raw (.int .i64 e.val.next), .raw u, .raw (.bool e.live), .raw (.int .i64 e.link)]
theorem srw_len (e : Sl) (u : Value) : (srw e u).length = 10 := rfl
theorem slot_open {A R : List Dt} {e : Sl} {v : Value} (m : My h0 h ((.row 10 (A ++ (Sl.dt e ++ R)), v) :: bag)) : ∃ a n, My h0 h ((.row 8 (e.val.items.flatMap edt), .slice a e.val.items.length n) :: (.row 10 (A ++ (srw e (.slice a e.val.items.length n) ++ R)), v) :: bag) := by
  rw [Sl.dt_eq] at m
  obtain ⟨u, m1⟩ := m.openAt (A := A) (R := R) (j := 7) rfl
  obtain ⟨a, n, rfl, _⟩ := m1.row_shape (by decide) e.val.items.length (fm_len edt_len _)
  exact ⟨a, n, m1⟩
/-- a slot's value within the slots -/
theorem hold_sval {es : List Sl} {i : Nat} {e : Sl} {b cap : Nat} (he : es[i]? = some e) : ∃ c, Hold c (.slice (some ⟨b, 0, none⟩) es.length cap) b (i * 10 + 3) ∧ ∀ w : V, c w.dt = .row 10 ((es.take i ++ ⟨e.key, w, e.live, e.link⟩ :: es.drop (i + 1)).flatMap Sl.dt) := by
  obtain ⟨h1, h2⟩ := fm_split Sl.dt_len he
  have hlt := (List.getElem?_eq_some_iff.1 he).1
  refine ⟨_, (Hold.row (z := 10) (p := (es.take i).flatMap Sl.dt ++ e.key.dt) (q := [.raw (.bool e.live), .raw (.int .i64 e.link)] ++ (es.drop (i + 1)).flatMap Sl.dt) (by omega)).at_ ?_, fun w => ?_⟩
  · rw [List.length_append, h2]
    rfl
  · simp only [List.flatMap_append, List.flatMap_cons, Sl.dt, List.append_assoc, List.cons_append, List.nil_append]
/-- .. whether it lives -/
theorem hold_slive {es : List Sl} {i : Nat} {e : Sl} {b cap : Nat} (he : es[i]? = some e) : ∃ c, Hold c (.slice (some ⟨b, 0, none⟩) es.length cap) b (i * 10 + 8) ∧ ∀ w : Bool, c [.raw (.bool w)] = .row 10 ((es.take i ++ ⟨e.key, e.val, w, e.link⟩ :: es.drop (i + 1)).flatMap Sl.dt) := by
  obtain ⟨h1, h2⟩ := fm_split Sl.dt_len he
  have hlt := (List.getElem?_eq_some_iff.1 he).1
  refine ⟨_, (Hold.row (z := 10) (p := (es.take i).flatMap Sl.dt ++ (e.key.dt ++ e.val.dt)) (q := [.raw (.int .i64 e.link)] ++ (es.drop (i + 1)).flatMap Sl.dt) (by omega)).at_ ?_, fun w => ?_⟩
  · rw [List.length_append, h2, List.length_append, V.dt_len, Ky.dt_len]
  · simp only [List.flatMap_append, List.flatMap_cons, Sl.dt, List.append_assoc, List.cons_append, List.nil_append]
/-- a number within numbers -/
theorem hold_num {es : List Int} {i : Nat} {b cap : Nat} (hi : i < es.length) : ∃ c, Hold c (.slice (some ⟨b, 0, none⟩) es.length cap) b (i * 1) ∧ ∀ w : Int, c [.raw (.int .i64 w)] = .row 1 ((es.set i w).flatMap idt) := by
  obtain ⟨e, he, _⟩ := get_lt hi
  obtain ⟨h1, h2⟩ := fm_split idt_len he
  refine ⟨_, (Hold.row (z := 1) (p := (es.take i).flatMap idt) (q := (es.drop (i + 1)).flatMap idt) (by omega)).at_ h2.symm, fun w => ?_⟩
  rw [set_split w hi, List.flatMap_append, List.flatMap_cons]
  rfl
/-- a raw cell is written -/
theorem Hold.put1 (hd : Hold c val b off) {t j : Nat} {d : Dt} {u : Value} (ht : tyS P t = some (false, 1)) (hu : oneCell u = true) (hc : u.cells.toList = [u]) (m : My h0 h ((c [d], val) :: bag)) (hj : j = off) (k : ∀ h', My h0 h' ((c [.raw u], val) :: bag) → K undef h') : HSem P (stI t (.pointer (some ⟨b, j, none⟩)) u) h K :=
  hd.store (x := [d]) (es := [.raw u]) ht (by rw [hc]; exact m.raw hu) rfl rfl (by rw [hc]; rfl) hj k
theorem hold_self {es : List Int} {i : Nat} (hi : i < es.length) : ∃ w, es.set i w = es := by
  refine ⟨es[i], ?_⟩
  exact List.set_getElem_self hi
theorem slot_self {es : List Sl} {i : Nat} {e : Sl} (he : es[i]? = some e) : es.take i ++ (⟨e.key, e.val, e.live, e.link⟩ : Sl) :: es.drop (i + 1) = es := by
  rw [show (⟨e.key, e.val, e.live, e.link⟩ : Sl) = e from rfl, ← drop_cons he, List.take_append_drop]
/-- a raw cell is read -/
theorem Hold.ld1 (hd : Hold c val b off) {t n i j : Nat} {x : List Dt} {u : Value} (ht : tyS P t = some (false, n)) (m : My h0 h ((c x, val) :: bag)) (hi : x[i]? = some (.raw u)) (hj : j = off + i) (k : K u h) : HPure P (ldI t (.pointer (some ⟨b, j, none⟩))) h K :=
  hd.load1 ht m hi hj fun v rv => by
    obtain ⟨rfl, _⟩ := Rd_raw.1 rv
    exact k
/-! a table that lies in memory -/
def traws (t : Tb) (x y : Value) : List Dt := [.raw (.bool t.hashed), .raw x, .raw y, .raw (.int .i64 t.next), .raw (.int .i64 t.count)]
theorem traws_len (t : Tb) (x y : Value) : (traws t x y).length = 5 := rfl
theorem tb_open (hd : Hold c val b off) {t : Tb} (m : My h0 h ((c t.dt, val) :: bag)) : ∃ a n a' n', My h0 h ((.row 1 (t.heads.flatMap idt), .slice a t.heads.length n) :: (.row 10 (t.slots.flatMap Sl.dt), .slice a' t.slots.length n') :: (c (traws t (.slice a t.heads.length n) (.slice a' t.slots.length n')), val) :: bag) := by
  unfold Tb.dt at m
  obtain ⟨u, m1⟩ := hd.open_ (X := [.raw (.bool t.hashed)]) (d := .row 1 (t.heads.flatMap idt)) (Y := [.row 10 (t.slots.flatMap Sl.dt), .raw (.int .i64 t.next), .raw (.int .i64 t.count)]) m
  obtain ⟨a, n, rfl, _⟩ := m1.row_shape (by decide) t.heads.length (fm_len idt_len _)
  obtain ⟨w, m2⟩ := hd.open_ (X := [.raw (.bool t.hashed), .raw (.slice a t.heads.length n)]) (d := .row 10 (t.slots.flatMap Sl.dt)) (Y := [.raw (.int .i64 t.next), .raw (.int .i64 t.count)]) m1.swap
  obtain ⟨a', n', rfl, _⟩ := m2.row_shape (by decide) t.slots.length (fm_len Sl.dt_len _)
  exact ⟨a, n, a', n', m2.third⟩
theorem tb_close (hd : Hold c val b off) {t : Tb} {x y : Value} (m : My h0 h ((.row 1 (t.heads.flatMap idt), x) :: (.row 10 (t.slots.flatMap Sl.dt), y) :: (c (traws t x y), val) :: bag)) : My h0 h ((c t.dt, val) :: bag) := by
  have m1 := hd.close (X := [.raw (.bool t.hashed), .raw x]) (d := .row 10 (t.slots.flatMap Sl.dt)) (Y := [.raw (.int .i64 t.next), .raw (.int .i64 t.count)]) m.third.third
  exact hd.close (X := [.raw (.bool t.hashed)]) (d := .row 1 (t.heads.flatMap idt)) (Y := [.row 10 (t.slots.flatMap Sl.dt), .raw (.int .i64 t.next), .raw (.int .i64 t.count)]) m1.swap
/-- a table's parts are known: the variable is given up -/
theorem tb_ldraw (hd : Hold c val b off) {t j : Nat} {tb : Tb} {x y : Value} (ht : tyS P t = some (true, 5)) (m : My h0 h ((c (traws tb x y), val) :: bag)) (hj : j = off) (k : K (.agg #[.bool tb.hashed, x, y, .int .i64 tb.next, .int .i64 tb.count]) h) : HPure P (ldI t (.pointer (some ⟨b, j, none⟩))) h K := by
  refine hd.loadN (i := 0) (ds := traws tb x y) ht m rfl rfl hj fun ys r => ?_
  simp only [traws, RdL_cons, RdL_nil, Rd_raw] at r
  obtain ⟨_, _, rfl, ⟨rfl, _⟩, _, _, rfl, ⟨rfl, _⟩, _, _, rfl, ⟨rfl, _⟩, _, _, rfl, ⟨rfl, _⟩, _, _, rfl, ⟨rfl, _⟩, rfl⟩ := r
  exact k
theorem tab_zip (t : Tb) {x y : Value} (m : My h0 h ((.row 1 (t.heads.flatMap idt), x) :: (.row 10 (t.slots.flatMap Sl.dt), y) :: bag)) : My h0 h ((Tb.dt t).zip [.bool t.hashed, x, y, .int .i64 t.next, .int .i64 t.count] ++ bag) := by
  simp only [Tb.dt, List.zip_cons_cons, List.zip_nil_right, List.cons_append, List.nil_append, My.raw_iff, one_bool, and_self, true_and]
  exact ((m.raw (u := .int .i64 t.count) rfl).raw (u := .int .i64 t.next) rfl).fourth.fourth
/-- a table is written -/
theorem tb_store (hd : Hold c val b off) {t j : Nat} {tb : Tb} {x y : Value} {z : List Dt} (ht : tyS P t = some (true, 5)) (hz : z.length = 5) (m : My h0 h ((.row 1 (tb.heads.flatMap idt), x) :: (.row 10 (tb.slots.flatMap Sl.dt), y) :: (c z, val) :: bag)) (hj : j = off) (k : ∀ h', My h0 h' ((c tb.dt, val) :: bag) → K undef h') :
    HSem P (stI t (.pointer (some ⟨b, j, none⟩)) (.agg #[.bool tb.hashed, x, y, .int .i64 tb.next, .int .i64 tb.count])) h K :=
  hd.store (x := z) (es := tb.dt) ht (tab_zip tb m) hz (Tb.dt_len tb) rfl hj k
end
/-! regions that stand still in part -/
section
variable {P : Program} {hm : List Nat} {l : List Oper} {K : Fr → Bx → Hp → Prop} {fr : Fr} {bx : Bx} {h : Hp}
theorem plk_n {ops : Array Oper} : pickO ops [] = [] := rfl
def plkS (o : Option Oper) (r : List Oper) : List Oper := match o with
  | some o => o :: r
  | none => r
theorem plk_s {o : Oper} {r : List Oper} : plkS (some o) r = o :: r := rfl
theorem plk_c {ops : Array Oper} {i : Nat} {r : List Nat} : pickO ops (i :: r) = plkS ops[i]? (pickO ops r) := by
  rw [pickO]
  cases ops[i]? <;> rfl
theorem runPlan_one {m : Mo} {ops : Array Oper} {L : List Nat} : runPlan P m ops K (.one L) = arun P m ops (pickO ops L) K := (rfl)
theorem runPlan_two {m : Mo} {ops : Array Oper} {pre : List Nat} {p q : Nat} {A B : Plan} : runPlan P m ops K (.two pre p A q B) = arun P m ops (pickO ops pre) (bothK (arun P m ops (pickO ops [p]) (runPlan P m ops K A)) (arun P m ops (pickO ops [q]) (runPlan P m ops K B))) := (rfl)
theorem bothK_mk {A B : Fr → Bx → Hp → Prop} (h1 : A fr bx h) (h2 : B fr bx h) : bothK A B fr bx h := ⟨h1, h2⟩
end
end Go.Sx
namespace Go.Sx
open Go
section
variable {P : Program} {h0 h : Hp} {K : Value → Hp → Prop} {bag : Bag}
/-- parts of a slot whose items are taken out -/
theorem hsem_srwK {t bb j : Nat} {A R : List Dt} {e : Sl} {u : Value} {len cap : Nat} (ht : tyS P t = some (true, 3)) (m : My h0 h ((.row 10 (A ++ (srw e u ++ R)), .slice (some ⟨bb, 0, none⟩) len cap) :: bag)) (h0l : 0 < len) (hj : j = A.length)
    (k : K (.agg #[.bool e.key.text, .int .i64 e.key.num, .string e.key.str]) h) : HPure P (ldI t (.pointer (some ⟨bb, j, none⟩))) h K := by
  obtain ⟨xs, hr, hat⟩ := m.at_
  refine hsem_getN ht (hat h0l) hr (i := j) (ds := e.key.dt) ?_ rfl (by omega) fun ys r => ?_
  · rw [hj, List.drop_left]
    rfl
  · rw [RdL_key r]
    exact k
theorem hsem_srwV {t bb j : Nat} {A R : List Dt} {e : Sl} {u : Value} {len cap : Nat} (ht : tyS P t = some (true, 5)) (m : My h0 h ((.row 10 (A ++ (srw e u ++ R)), .slice (some ⟨bb, 0, none⟩) len cap) :: bag)) (h0l : 0 < len) (hj : j = A.length + 3)
    (k : K (.agg #[.int .i64 e.val.kind, .int .i64 e.val.num, .string e.val.str, .int .i64 e.val.next, u]) h) : HPure P (ldI t (.pointer (some ⟨bb, j, none⟩))) h K := by
  obtain ⟨xs, hr, hat⟩ := m.at_
  refine hsem_getN ht (hat h0l) hr (i := j) (ds := ([.int .i64 e.val.kind, .int .i64 e.val.num, .string e.val.str, .int .i64 e.val.next, u] : List Value).map .raw) ?_ rfl (by omega) fun ys r => ?_
  · rw [hj, ← List.drop_drop, List.drop_left]
    rfl
  · rw [r.of_raws]
    exact k
theorem hsem_srwL {t n bb j : Nat} {A R : List Dt} {e : Sl} {u : Value} {len cap : Nat} (ht : tyS P t = some (false, n)) (m : My h0 h ((.row 10 (A ++ (srw e u ++ R)), .slice (some ⟨bb, 0, none⟩) len cap) :: bag)) (h0l : 0 < len) (hj : j = A.length + 8)
    (k : K (.bool e.live) h) : HPure P (ldI t (.pointer (some ⟨bb, j, none⟩))) h K := by
  refine hsem_my_get (cs := srw e u) (j := 8) ht m h0l rfl hj fun v hv => ?_
  obtain ⟨rfl, _⟩ := Rd_raw.1 hv
  exact k
theorem Tb.bump_same {t : Tb} {k : Ky} (h : k.text = true ∨ k.num < t.next) : t.bump k = t := by
  unfold Tb.bump
  cases kt : k.text with
  | true => rfl
  | false =>
    rw [kt] at h
    have h := h.resolve_left (by simp)
    have : max t.next (k.num + 1) = t.next := by omega
    rw [show (if false = true then t.next else max t.next (k.num + 1)) = max t.next (k.num + 1) from rfl, this]
theorem Tb.bump_next {t : Tb} {k : Ky} : (t.bump k).next = if k.text then t.next else max t.next (k.num + 1) := rfl
theorem Tb.setVal_eq {t : Tb} {i : Nat} {s : Sl} {v : V} (h : t.slots[i]? = some s) : t.setVal i v = ⟨t.hashed, t.heads, t.slots.take i ++ ⟨s.key, v, s.live, s.link⟩ :: t.slots.drop (i + 1), t.next, t.count⟩ := by
  unfold Tb.setVal
  rw [h]
theorem Tb.kill_eq {t : Tb} {i : Nat} {s : Sl} (h : t.slots[i]? = some s) : t.kill i = ⟨t.hashed, t.heads, t.slots.take i ++ ⟨s.key, V.zero, false, s.link⟩ :: t.slots.drop (i + 1), t.next, t.count - 1⟩ := by
  unfold Tb.kill
  rw [h]
theorem dbl_step {c f s : Nat} (h : s ≤ c) (hf : s * 2 ^ f = 32768) (hc : c < 1024) : ∃ g, f = g + 1 ∧ s * 2 * 2 ^ g = 32768 ∧ dbl c f s = dbl c g (s * 2) := by
  cases f with
  | zero => simp at hf; omega
  | succ g => exact ⟨g, rfl, by rw [← hf, Nat.pow_succ, Nat.mul_assoc, Nat.mul_comm 2], dbl_up h⟩
theorem dbl_end {c f s : Nat} (h : ¬ s ≤ c) : dbl c f s = s := by
  cases f with
  | zero => rfl
  | succ g => exact dbl_stop h
end
end Go.Sx
namespace Go.Proofs.YtccjkhnefiikaaaGreatDoor
set_option maxRecDepth 8000
open Go Go.Sx
section
variable {h0 h : Hp} {bag : Bag} {l : List UInt8} {p : Nat}
/-- how much a value drawn to some depth holds -/
def bD : Nat → Nat
  | 0 => 16
  | d + 1 => 4 * (5 + bD d)
theorem bD_pos : ∀ d, 16 ≤ bD d
  | 0 => Nat.le_refl _
  | d + 1 => by
    have := bD_pos d
    unfold bD
    omega
theorem ValP.up {B C : Nat} (hBC : B ≤ C) {u : Value} {h' : Hp} (k : ValP B h0 l p bag u h') : ValP C h0 l p bag u h' := by
  obtain ⟨v, a, c, e, h1, h2, h3⟩ := k
  exact ⟨v, a, c, e, h1, Nat.le_trans h2 hBC, h3⟩
end
end Go.Proofs.YtccjkhnefiikaaaGreatDoor
/-! Maps of the walk's own whose keys are structs of a bool, an int and a string: a set of keys, each new one at the end. -/
namespace Go.Sx
open Go
def Ky.val (k : Ky) : Value := .agg #[.bool k.text, .int .i64 k.num, .string k.str]
/-- a map type: from such keys to bools -/
def mapT (P : Program) (t : Nat) : Bool := match P.underlying t with
  | some (.map k e) => keyT P k && (match (P.info? e).bind (·.zero) with | some (.bool false) => true | _ => false)
  | _ => false
theorem mapT_some {P : Program} {t : Nat} (h : mapT P t = true) : ∃ k e i, P.underlying t = some (.map k e) ∧ keyT P k = true ∧ P.info? e = some i ∧ i.zero = some (.bool false) := by
  unfold mapT at h
  split at h
  · rename_i k e hu
    simp only [Bool.and_eq_true] at h
    obtain ⟨h1, h2⟩ := h
    cases hi : P.info? e with
    | none => rw [hi] at h2; simp at h2
    | some i =>
      rw [hi] at h2
      simp only [Option.bind_some] at h2
      split at h2
      · rename_i hz
        exact ⟨k, e, i, hu, h1, hi, hz⟩
      · simp at h2
  · simp at h
/-- The block is a map that holds these keys. -/
def OwM (h : Hp) (b : Nat) (ks : List Ky) : Prop := ∃ es clock, h b = some (.map es clock) ∧ es.toList.map (fun e => (e.key, e.val)) = ks.map fun k => (k.val, Value.bool true)
section
variable {P : Program} {h h' : Hp} {K : Value → Hp → Prop} {w : World} {b : Nat} {ks : List Ky}
theorem OwM.ext (m : OwM h b ks) (e : Ext h h') : OwM h' b ks := by
  obtain ⟨es, c, h1, h2⟩ := m
  exact ⟨es, c, e _ _ h1, h2⟩
theorem keyT_under {k : Nat} (ht : keyT P k = true) : ∃ f0 f1 f2 : Field, P.underlying k = some (.struct #[f0, f1, f2]) ∧ f0.offset = 0 ∧ f1.offset = 1 ∧ f2.offset = 2 ∧ P.underlying f0.type = some .bool ∧ P.underlying f1.type = some (.int .i64) ∧ P.underlying f2.type = some .string := by
  unfold keyT at ht
  split at ht
  case h_2 => simp at ht
  rename_i fs hu
  split at ht
  case h_2 => simp at ht
  rename_i f0 f1 f2 hfs
  obtain ⟨fs⟩ := fs
  simp only at hfs
  subst hfs
  simp only [Bool.and_eq_true, bne_iff_ne, ne_eq, beq_iff_eq, Bool.not_eq_true'] at ht
  obtain ⟨⟨⟨⟨⟨⟨⟨⟨⟨⟨n0, n1⟩, n2⟩, o0⟩, o1⟩, o2⟩, b0⟩, i1⟩, s2⟩, hst⟩, heq⟩ := ht
  exact ⟨f0, f1, f2, hu, o0, o1, o2, isBoolT_ty b0, intT_ty i1, isStr_ty s2⟩
theorem check_scalar {em : Bool} {d t : Nat} {v : Value} (h : P.underlying t = some .bool ∨ P.underlying t = some (.int .i64) ∨ P.underlying t = some .string) : (Instr.checkKey em (d + 1) t v).run P w = .ok () w := by
  rcases h with h | h | h <;> (cases v <;> simp [Instr.checkKey, run_ty h])
theorem check_key {em : Bool} {k : Nat} (ht : keyT P k = true) (q : Ky) : (Instr.checkKey em 10000 k q.val).run P w = .ok () w := by
  obtain ⟨f0, f1, f2, hu, o0, o1, o2, u0, u1, u2⟩ := keyT_under ht
  have e : ∀ d, (Instr.checkKey em (d + 2) k q.val).run P w = .ok () w := by
    intro d
    unfold Instr.checkKey
    simp only [Ky.val, Sem.run_bind, run_ty hu, Result.andThen_ok]
    have p0 := part_scalar (w := w) (P := P) u0 rfl (cs := #[.bool q.text, .int .i64 q.num, .string q.str]) (i := 0) (v := .bool q.text) rfl
    have p1 := part_scalar (w := w) (P := P) u1 rfl (cs := #[.bool q.text, .int .i64 q.num, .string q.str]) (i := 1) (v := .int .i64 q.num) rfl
    have p2 := part_scalar (w := w) (P := P) u2 rfl (cs := #[.bool q.text, .int .i64 q.num, .string q.str]) (i := 2) (v := .string q.str) rfl
    have c0 := check_scalar (P := P) (w := w) (em := em) (d := d) (t := f0.type) (v := .bool q.text) (.inl u0)
    have c1 := check_scalar (P := P) (w := w) (em := em) (d := d) (t := f1.type) (v := .int .i64 q.num) (.inr (.inl u1))
    have c2 := check_scalar (P := P) (w := w) (em := em) (d := d) (t := f2.type) (v := .string q.str) (.inr (.inr u2))
    by_cases n0 : f0.name = "_" <;> by_cases n1 : f1.name = "_" <;> by_cases n2 : f2.name = "_" <;> simp [n0, n1, n2, o0, o1, o2, p0, p1, p2, c0, c1, c2]
  exact e 9998
theorem find_ask {k : Nat} (ht : keyT P k = true) (q : Ky) : ∀ (es : List MapEntry) (ks : List Ky) (i : Nat), es.map (fun e => (e.key, e.val)) = ks.map (fun k => (k.val, Value.bool true)) →
    ∃ r, (Instr.findAsking k q.val es i).run P w = .ok r w ∧ (q ∈ ks → ∃ j, r = some (j, .bool true)) ∧ (q ∉ ks → r = none)
  | [], [], i, _ => ⟨none, rfl, by simp, by simp⟩
  | e :: es, [], i, h => by simp at h
  | [], x :: ks, i, h => by simp at h
  | e :: es, x :: ks, i, h => by
    simp only [List.map_cons, List.cons.injEq, Prod.mk.injEq] at h
    obtain ⟨⟨h1, h2⟩, h3⟩ := h
    obtain ⟨r, h4, h5, h6⟩ := find_ask ht q es ks (i + 1) h3
    have hq : (Op.equal k q.val e.key).run P w = .ok (decide (q = x)) w := by
      rw [h1]
      have := key_core (P := P) (w := w) ht q.text x.text q.num x.num q.str x.str
      have e : decide (q.text = x.text ∧ q.num = x.num ∧ q.str = x.str) = decide (q = x) := by
        apply decide_eq_decide.2
        cases q; cases x
        simp
      rw [← e]
      exact this
    by_cases hqx : q = x
    · refine ⟨some (i, .bool true), ?_, fun _ => ⟨i, rfl⟩, fun hn => absurd (by simp [hqx]) hn⟩
      simp only [Instr.findAsking, Sem.run_bind, hq, Result.andThen_ok, decide_eq_true hqx, if_true, h2]
      rfl
    · refine ⟨r, ?_, fun hm => h5 ?_, fun hn => h6 fun hm => hn (by simp [hm])⟩
      · simp only [Instr.findAsking, Sem.run_bind, hq, Result.andThen_ok, decide_eq_false hqx, Bool.false_eq_true, if_false]
        exact h4
      · rcases List.mem_cons.1 hm with h | h
        · exact absurd h hqx
        · exact h
theorem find_now_struct {d : TypeDesc} {q : Ky} : ∀ (es : List MapEntry) (i : Nat), es ≠ [] → Instr.findNow d q.val es i = none
  | [], _, h => absurd rfl h
  | e :: es, i, _ => by
    have : Instr.sameNow d q.val e.key = none := by
      unfold Instr.sameNow Ky.val
      cases d <;> rfl
    simp [Instr.findNow, this]
theorem find_key {k : Nat} (ht : keyT P k = true) (q : Ky) (es : List MapEntry) (ks : List Ky) (h : es.map (fun e => (e.key, e.val)) = ks.map (fun k => (k.val, Value.bool true))) :
    ∃ r, (Instr.findKey k q.val es).run P w = .ok r w ∧ (q ∈ ks → ∃ j, r = some (j, .bool true)) ∧ (q ∉ ks → r = none) := by
  obtain ⟨f0, f1, f2, hu, _⟩ := keyT_under ht
  cases es with
  | nil =>
    have : ks = [] := by
      cases ks with
      | nil => rfl
      | cons => simp at h
    subst this
    exact ⟨none, by simp [Instr.findKey, run_ty hu, Instr.findNow], by simp, by simp⟩
  | cons e es =>
    obtain ⟨r, h1, h2⟩ := find_ask (P := P) (w := w) ht q (e :: es) ks 0 h
    refine ⟨r, ?_, h2⟩
    simp only [Instr.findKey, Sem.run_bind, run_ty hu, Result.andThen_ok, find_now_struct (e :: es) 0 (by simp)]
    exact h1
theorem hsem_mk_map {t : Nat} (k : ∀ b, h b = none → OwM (hset h b (.map #[] 0)) b [] → Ext h (hset h b (.map #[] 0)) → K (.map (some b)) (hset h b (.map #[] 0))) : HSem P (mmI t) h K := by
  refine hsem_alloc (v := fun b => .map (some b)) (o := .map #[] 0) (fun w _ => ?_) fun b hb => k b hb ⟨_, _, hset_same _ _ _, rfl⟩ (ext_set hb _)
  simp [mmI, Instr.makeMap]
theorem hsem_map_has {t : Nat} (ht : mapT P t = true) (m : OwM h b ks) (q : Ky) (k : K (.bool (decide (q ∈ ks))) h) : HSem P (luI t (.map (some b)) q.val false) h K := by
  obtain ⟨kt, et, i, hu, hk, hi, hz⟩ := mapT_some ht
  obtain ⟨es, c, hb, he⟩ := m
  refine hsem_pure (fun w hw => ?_) k
  obtain ⟨r, h1, h2, h3⟩ := find_key (P := P) (w := w) hk q es.toList ks he
  have hc := check_key (P := P) (w := w) (em := es.isEmpty) hk q
  have hg : (getObj b).run P w = .ok (.map es c) w := by simp [getObj, Sem.run, hw.vis b _ hb]
  by_cases hq : q ∈ ks
  · obtain ⟨j, rfl⟩ := h2 hq
    simp [luI, Instr.lookup, run_underlying hu, hg, hc, h1, hq]
  · rw [h3 hq] at h1
    simp [luI, Instr.lookup, run_underlying hu, hg, hc, h1, hq, zeroValue, run_info hi, hz]
theorem hsem_map_add {t : Nat} (ht : mapT P t = true) (m : OwM h b ks) (q : Ky) (hq : q ∉ ks) (k : ∀ h', OwM h' b (ks ++ [q]) → But h h' [b] → K undef h') : HSem P (muI t (.map (some b)) q.val (.bool true)) h K := by
  obtain ⟨kt, et, i, hu, hk, hi, hz⟩ := mapT_some ht
  obtain ⟨es, c, hb, he⟩ := m
  refine hsem_set (o' := .map (es.push { key := q.val, val := .bool true, born := c }) (c + 1)) hb (fun w hw => ?_) (k _ ⟨_, _, hset_same _ _ _, by simp [he]⟩ (but_set _ (.inl (by simp))))
  obtain ⟨r, h1, h2, h3⟩ := find_key (P := P) (w := w) hk q es.toList ks he
  have hc := check_key (P := P) (w := w) (em := false) hk q
  have hv := hw.vis b _ hb
  have hg : (getObj b).run P w = .ok (.map es c) w := by simp [getObj, Sem.run, hv]
  rw [h3 hq] at h1
  have hlt : b < w.heap.size := sim_lt hw hb
  refine ⟨{ w with heap := w.heap.setIfInBounds b (.map (es.push { key := q.val, val := .bool true, born := c }) (c + 1)) }, ?_, ?_, ?_, ?_, rfl, rfl, rfl⟩
  · have hs : (setObj b (.map (es.push { key := q.val, val := .bool true, born := c }) (c + 1))).run P w = .ok () { w with heap := w.heap.setIfInBounds b (.map (es.push { key := q.val, val := .bool true, born := c }) (c + 1)) } := by simp [setObj, Sem.run, hv]
    simp [muI, Instr.mapUpdate, run_underlying hu, hg, hc, h1, hs]
  · simp [hlt]
  · intro i hi
    show (w.heap.setIfInBounds b _)[i]? = _
    rw [Array.getElem?_setIfInBounds]
    simp [Ne.symm hi]
  · simp
theorem hsem_map_len {t ty : Nat} (ht : mapT P t = true) (m : OwM h b ks) (k : K (.int .i64 (ks.length : Nat)) h) : HSem P (lnI t ty (.map (some b))) h K := by
  obtain ⟨kt, et, i, hu, hk, hi, hz⟩ := mapT_some ht
  obtain ⟨es, c, hb, he⟩ := m
  refine hsem_pure (fun w hw => ?_) k
  have hg : (getObj b).run P w = .ok (.map es c) w := by simp [getObj, Sem.run, hw.vis b _ hb]
  have hl : es.size = ks.length := by
    have := congrArg List.length he
    simpa using this
  simp [lnI, Builtin.len_, run_underlying hu, hg, hl, goInt]
end
end Go.Sx
/-! What the walks through a table's checks keep. -/
namespace Go.Sx
open Go
theorem noTab {t : Tb} (h : t.wf → False) : t.isTab = false := by
  cases hb : t.isTab with
  | false => rfl
  | true => exact (h (t.isTab_iff.1 hb)).elim
theorem yesTab {t : Tb} (w : t.wf) : t.isTab = true := t.isTab_iff.2 w
def liveK (ss : List Sl) : List Ky := (ss.filter (·.live)).map (·.key)
theorem liveK_len (ss : List Sl) : (liveK ss).length = liveN ss := List.length_map ..
theorem liveK_snoc {ss : List Sl} {i : Nat} {s : Sl} (h : ss[i]? = some s) : liveK (ss.take (i + 1)) = if s.live then liveK (ss.take i) ++ [s.key] else liveK (ss.take i) := by
  unfold liveK
  rw [take_snoc h, List.filter_append, List.map_append]
  cases hl : s.live <;> simp [hl]
theorem mem_liveK {ss : List Sl} {i : Nat} {q : Ky} : q ∈ liveK (ss.take i) ↔ ∃ (j : Nat) (u : Sl), j < i ∧ ss[j]? = some u ∧ u.live = true ∧ u.key = q := by
  unfold liveK
  simp only [List.mem_map, List.mem_filter]
  constructor
  · rintro ⟨u, ⟨hm, hl⟩, rfl⟩
    obtain ⟨j, hj, rfl⟩ := List.mem_iff_getElem.1 hm
    rw [List.length_take] at hj
    refine ⟨j, _, by omega, ?_, hl, rfl⟩
    rw [List.getElem_take]
    exact List.getElem?_eq_getElem (by omega)
  · rintro ⟨j, u, hj, hu, hl, rfl⟩
    refine ⟨u, ⟨?_, hl⟩, rfl⟩
    exact List.mem_of_getElem? (i := j) (by rw [List.getElem?_take, if_pos hj]; exact hu)
def kOk (t : Tb) (s : Sl) : Prop := keyOk s.key = true ∧ (s.key.text = true ∨ s.key.num < t.next) ∧ (s.live = true ∨ s.val.isZero = true)
/-- what is known of the first slots -/
structure preK (t : Tb) (i : Nat) : Prop where
  keys : ∀ (j : Nat) (s : Sl), j < i → t.slots[j]? = some s → kOk t s
  dist : ∀ (j q : Nat) (s u : Sl), j < i → q < j → t.slots[j]? = some s → t.slots[q]? = some u → s.live = true → u.live = true → ¬ u.key = s.key
theorem preK.zero (t : Tb) : preK t 0 := ⟨fun _ _ h => by omega, fun _ _ _ _ h => by omega⟩
theorem preK.step {t : Tb} {i : Nat} {s : Sl} (p : preK t i) (hs : t.slots[i]? = some s) (hk : kOk t s) (hd : s.live = true → s.key ∉ liveK (t.slots.take i)) : preK t (i + 1) := by
  refine ⟨fun j u hj hu => ?_, fun j q u v hj hq hu hv lu lv => ?_⟩
  · by_cases he : j = i
    · subst he
      rw [hs] at hu
      cases hu
      exact hk
    · exact p.keys j u (by omega) hu
  · by_cases he : j = i
    · subst he
      rw [hs] at hu
      cases hu
      exact fun e => hd lu (mem_liveK.2 ⟨q, v, hq, hv, lv, e⟩)
    · exact p.dist j q u v (by omega) hq hu hv lu lv
/-- what is known of the first slots of a packed table -/
def preP (t : Tb) (i : Nat) : Prop := ∀ (j : Nat) (s : Sl), j < i → t.slots[j]? = some s → s.key = ⟨false, (j : Nat), ⟨#[]⟩⟩ ∧ s.link = -1
theorem preP.zero (t : Tb) : preP t 0 := fun _ _ h => by omega
theorem preP.step {t : Tb} {i : Nat} {s : Sl} (p : preP t i) (hs : t.slots[i]? = some s) (h : s.key = ⟨false, (i : Nat), ⟨#[]⟩⟩ ∧ s.link = -1) : preP t (i + 1) := fun j u hj hu => by
  by_cases he : j = i
  · subst he
    rw [hs] at hu
    cases hu
    exact h
  · exact p j u (by omega) hu
/-- .. of a hashed one -/
def preH (t : Tb) (i : Nat) : Prop := ∀ (j : Nat) (s : Sl), j < i → t.slots[j]? = some s → (hdsN t.heads.length t.slots j)[s.key.hash % t.heads.length]? = some s.link
theorem preH.zero (t : Tb) : preH t 0 := fun _ _ h => by omega
theorem preH.step {t : Tb} {i : Nat} {s : Sl} (p : preH t i) (hs : t.slots[i]? = some s) (h : (hdsN t.heads.length t.slots i)[s.key.hash % t.heads.length]? = some s.link) : preH t (i + 1) := fun j u hj hu => by
  by_cases he : j = i
  · subst he
    rw [hs] at hu
    cases hu
    exact h
  · exact p j u (by omega) hu
theorem lt_of_get {α : Type} {l : List α} {i : Nat} {a : α} (h : l[i]? = some a) : i < l.length := (List.getElem?_eq_some_iff.1 h).1
theorem wf_packed {t : Tb} (ht : t.hashed = false) (h1 : 0 ≤ t.next ∧ t.next ≤ 1000000001) (p : preK t t.slots.length) (hc : t.count = liveN t.slots) (h2 : t.heads.length = 0) (h3 : (t.slots.length : Int) ≤ t.next) (h4 : t.slots.length ≤ 1024) (q : preP t t.slots.length) : t.wf :=
  ⟨h1, fun i s hs => p.keys i s (lt_of_get hs) hs, fun i j s u hj hs hu => p.dist i j s u (lt_of_get hs) hj hs hu, hc, fun _ => ⟨h2, h3, h4, fun i s hs => q i s (lt_of_get hs) hs⟩, fun h => by rw [ht] at h; cases h⟩
theorem wf_hashed {t : Tb} (ht : t.hashed = true) (h1 : 0 ≤ t.next ∧ t.next ≤ 1000000001) (p : preK t t.slots.length) (hc : t.count = liveN t.slots) (h2 : 8 ≤ t.heads.length ∧ t.heads.length ≤ 1024) (h3 : p2 t.heads.length = true) (h4 : t.slots.length ≤ t.heads.length) (q : preH t t.slots.length) (h5 : t.heads = hdsN t.heads.length t.slots t.slots.length) : t.wf :=
  ⟨h1, fun i s hs => p.keys i s (lt_of_get hs) hs, fun i j s u hj hs hu => p.dist i j s u (lt_of_get hs) hj hs hu, hc, fun h => (by rw [ht] at h; cases h), fun _ => ⟨h2, h3, h4, fun i s hs => q i s (lt_of_get hs) hs, h5⟩⟩
end Go.Sx
namespace Go.Sx
open Go
section
variable {P : Program} {h hB : Hp} {K : Value → Hp → Prop}
/-- The load of a slot that was there at the start. -/
theorem hsem_slotB {t b off i j : Nat} {es : List Sl} {e : Sl} {xs : List Value} (eB : Ext hB h) (ht : tyS P t = some (true, 10)) (hat : At hB ⟨b, off, none⟩ xs) (hr : RdL hB (es.flatMap Sl.dt) xs) (hi : es[i]? = some e) (hj : j = off + i * 10)
    (k : ∀ sl, RdE hB e.val.items sl → K (.agg #[.bool e.key.text, .int .i64 e.key.num, .string e.key.str, .int .i64 e.val.kind, .int .i64 e.val.num, .string e.val.str, .int .i64 e.val.next, sl, .bool e.live, .int .i64 e.link]) h) : HPure P (ldI t (.pointer (some ⟨b, j, none⟩))) h K := by
  have h1 := fm_take Sl.dt_len hi 0 10 (Nat.le_refl _)
  have r := (hr.drop (i * 10 + 0)).take 10
  rw [h1, List.drop_zero, List.take_of_length_le (by rw [Sl.dt_len]; exact Nat.le_refl _)] at r
  have hl := r.len
  obtain ⟨sl, e1, hs⟩ := RdL_slot r
  refine hsem_atN (i := i * 10 + 0) (us := [.bool e.key.text, .int .i64 e.key.num, .string e.key.str, .int .i64 e.val.kind, .int .i64 e.val.num, .string e.val.str, .int .i64 e.val.next, sl, .bool e.live, .int .i64 e.link]) ht (hat.mono eB) rfl e1 (by omega) (k sl hs)
end
end Go.Sx
namespace Go.Sx
open Go
/-! what the functions over tables return -/
def Tb.roomy (t : Tb) (k : Ky) : Bool := (t.find k).isSome || decide (liveN t.slots < 1024)
def Tb.set (t : Tb) (k : Ky) (x : V) : Tb := if t.roomy k then t.put k x else t
theorem roomy_some {t : Tb} {k : Ky} {i : Nat} (h : t.find k = some i) : t.roomy k = true := by unfold Tb.roomy; rw [h]; rfl
theorem roomy_none {t : Tb} {k : Ky} (h : t.find k = none) : t.roomy k = decide (liveN t.slots < 1024) := by unfold Tb.roomy; rw [h]; rfl
theorem set_yes {t : Tb} {k : Ky} {x : V} (h : t.roomy k = true) : t.set k x = t.put k x := if_pos h
theorem set_no {t : Tb} {k : Ky} {x : V} (h : t.roomy k = false) : t.set k x = t := if_neg (by rw [h]; simp)
def Tb.anew (t : Tb) : Tb := if t.isTab && decide (t.count < 1024) then t.build else t
theorem tab_ch {t : Tb} (h : t.isTab = true) : t.ch := (t.isTab_iff.1 h).ch
end Go.Sx
/-! The array of a table; the table of an array; how many references there are. -/
namespace Go.Sx
open Go
/-- the entries of the live slots -/
def vent (ss : List Sl) : List (Ky × V) := (ss.filter (·.live)).map fun s => (s.key, s.val)
def Tb.value (t : Tb) : V := ⟨4, 0, ⟨#[]⟩, t.next, vent t.slots⟩
/-! the table of an array -/
def tb0 : Tb := ⟨false, [], [], 0, 0⟩
theorem tb0_ch : tb0.ch := ⟨fun h => (by cases h), fun h => (by cases h), fun h => (by cases h), fun h => (by cases h), fun _ => ⟨Nat.zero_le _, fun i s hs => by simp [tb0] at hs⟩, ⟨Int.le_refl _, by decide⟩, fun i s hs => (by simp [tb0] at hs), rfl⟩
/-- some entries are set, one after the other -/
def tabL (t : Tb) : List (Ky × V) → Tb
  | [] => t
  | e :: r => tabL (t.put e.1 e.2) r
theorem build_live {t : Tb} (c : t.ch) (hl : liveN t.slots < 1024) : liveN t.build.slots ≤ liveN t.slots := by
  have w := c.build hl
  have h1 := liveN_le t.build.slots
  have h2 := w.len
  rw [List.take_length] at h2
  omega
theorem put_live {t : Tb} (c : t.ch) (k : Ky) (x : V) (hl : t.find k = none → liveN t.slots < 1024) : liveN (t.put k x).slots ≤ liveN t.slots + 1 := by
  unfold Tb.put
  split
  · unfold Tb.setVal
    split
    · rename_i s hs
      have := liveN_set hs (⟨s.key, x, s.live, s.link⟩ : Sl)
      show liveN (t.slots.take _ ++ (⟨s.key, x, s.live, s.link⟩ : Sl) :: t.slots.drop _) ≤ _
      have e : (⟨s.key, x, s.live, s.link⟩ : Sl).live = s.live := rfl
      rw [e] at this
      omega
    · omega
  · rename_i hf
    have hl := hl hf
    have h1 : liveN (t.hashIf k).slots ≤ liveN t.slots := by
      unfold Tb.hashIf
      split
      · exact build_live c hl
      · exact Nat.le_refl _
    have c1 := (c.hashIf hl k)
    have h2 : liveN ((t.hashIf k).growIf).slots ≤ liveN (t.hashIf k).slots := by
      unfold Tb.growIf
      split
      · exact build_live c1.1 c1.2.1
      · exact Nat.le_refl _
    show liveN ((((t.hashIf k).growIf).slots) ++ [_]) ≤ _
    rw [liveN_append, liveN_one]
    split <;> omega
/-- the table with another next number -/
def Tb.withN (t : Tb) (n : Int) : Tb := ⟨t.hashed, t.heads, t.slots, n, t.count⟩
def V.isArr (v : V) : Bool := v.valid && decide (v.kind = 4)
def V.table (v : V) : Tb := if v.isArr then (tabL tb0 v.items).withN v.next else tb0
theorem weights_len : ∀ es : List (Ky × V), es.length ≤ V.weights es
  | [] => Nat.zero_le _
  | e :: r => by
    have := weights_len r
    have h1 : 1 ≤ e.2.weight := by rw [V.weight_eq]; split <;> omega
    rw [V.weights_cons, List.length_cons]
    omega
/-! counts of references -/
def hit (n : Nat) (v : V) : Bool := decide (v.kind = 5) && decide (0 ≤ v.num ∧ v.num ≤ (n : Int) - 1)
def cnt1 (l : List Int) (v : V) : List Int := if hit l.length v then l.set v.num.toNat (l.getD v.num.toNat 0 + 1) else l
def cntV (l : List Int) : List V → List Int
  | [] => l
  | v :: r => cntV (cnt1 l v) r
def cntSl (l : List Int) : List Sl → List Int
  | [] => l
  | s :: r => cntSl (if s.live then cnt1 l s.val else l) r
def cntBl (l : List Int) : List Bk → List Int
  | [] => l
  | b :: r => cntBl (cntSl l b.tab.slots) r
theorem cnt1_len (l : List Int) (v : V) : (cnt1 l v).length = l.length := by
  unfold cnt1
  split
  · rw [List.length_set]
  · rfl
theorem cntV_append (p q : List V) : ∀ l, cntV l (p ++ q) = cntV (cntV l p) q := by
  induction p with
  | nil => intro l; rfl
  | cons e r ih => intro l; rw [List.cons_append, cntV, cntV, ih]
theorem cntSl_append (p q : List Sl) : ∀ l, cntSl l (p ++ q) = cntSl (cntSl l p) q := by
  induction p with
  | nil => intro l; rfl
  | cons e r ih => intro l; rw [List.cons_append, cntSl, cntSl, ih]
theorem cntBl_append (p q : List Bk) : ∀ l, cntBl l (p ++ q) = cntBl (cntBl l p) q := by
  induction p with
  | nil => intro l; rfl
  | cons e r ih => intro l; rw [List.cons_append, cntBl, cntBl, ih]
theorem cntV_snoc {l : List Int} {es : List V} {i : Nat} {e : V} (h : es[i]? = some e) : cntV l (es.take (i + 1)) = cnt1 (cntV l (es.take i)) e := by
  rw [take_snoc h, cntV_append]
  rfl
theorem cntSl_snoc {l : List Int} {es : List Sl} {i : Nat} {e : Sl} (h : es[i]? = some e) : cntSl l (es.take (i + 1)) = if e.live then cnt1 (cntSl l (es.take i)) e.val else cntSl l (es.take i) := by
  rw [take_snoc h, cntSl_append]
  rfl
theorem cntBl_snoc {l : List Int} {es : List Bk} {i : Nat} {e : Bk} (h : es[i]? = some e) : cntBl l (es.take (i + 1)) = cntSl (cntBl l (es.take i)) e.tab.slots := by
  rw [take_snoc h, cntBl_append]
  rfl
theorem cntV_len : ∀ (es : List V) (l : List Int), (cntV l es).length = l.length
  | [], _ => rfl
  | e :: r, l => by rw [cntV, cntV_len r, cnt1_len]
theorem cntSl_len : ∀ (es : List Sl) (l : List Int), (cntSl l es).length = l.length
  | [], _ => rfl
  | e :: r, l => by
    rw [cntSl, cntSl_len r]
    split
    · exact cnt1_len _ _
    · rfl
theorem cntBl_len : ∀ (es : List Bk) (l : List Int), (cntBl l es).length = l.length
  | [], _ => rfl
  | e :: r, l => by rw [cntBl, cntBl_len r, cntSl_len]
/-- the counts are small: there are few references -/
def smallC (l : List Int) (n : Nat) : Prop := ∀ x ∈ l, 0 ≤ x ∧ x ≤ (n : Int)
theorem smallC.one {l : List Int} {n : Nat} (h : smallC l n) (v : V) : smallC (cnt1 l v) (n + 1) := by
  intro x hx
  unfold cnt1 at hx
  split at hx
  · rename_i hh
    rcases List.mem_or_eq_of_mem_set hx with hx | hx
    · have := h x hx
      omega
    · have hlt : v.num.toNat < l.length := by
        unfold hit at hh
        simp only [Bool.and_eq_true, decide_eq_true_eq] at hh
        omega
      have := h _ (getD_mem (d := 0) hlt)
      omega
  · have := h x hx
    omega
theorem smallC.up {l : List Int} {n m : Nat} (h : smallC l n) (k : n ≤ m) : smallC l m := fun x hx => by
  have := h x hx
  omega
theorem smallC.vals : ∀ {es : List V} {l : List Int} {n : Nat}, smallC l n → smallC (cntV l es) (n + es.length)
  | [], _, _, h => h
  | e :: r, l, n, h => by
    have := smallC.vals (es := r) (h.one e)
    rw [cntV, List.length_cons]
    exact this.up (by omega)
theorem smallC.slots : ∀ {es : List Sl} {l : List Int} {n : Nat}, smallC l n → smallC (cntSl l es) (n + es.length)
  | [], _, _, h => h
  | e :: r, l, n, h => by
    rw [cntSl, List.length_cons]
    split
    · exact (smallC.slots (es := r) (h.one e.val)).up (by omega)
    · exact (smallC.slots (es := r) h).up (by omega)
theorem smallC.blocks : ∀ {es : List Bk} {l : List Int} {n : Nat}, smallC l n → smallC (cntBl l es) (n + szG Bk.bulk es)
  | [], _, _, h => h
  | e :: r, l, n, h => by
    have h1 := smallC.slots (es := e.tab.slots) h
    have h2 := smallC.blocks (es := r) h1
    have h3 := szG_len (w := Sl.bulk) e.tab.slots
    have e1 : Bk.bulk e = e.tab.heads.length + szG Sl.bulk e.tab.slots := rfl
    rw [cntBl, szG_cons]
    exact h2.up (by omega)
theorem smallC.zero (n : Nat) : smallC (List.replicate n 0) 0 := fun x hx => by
  rw [List.mem_replicate] at hx
  omega
/-- how many references there are to each block -/
def counts (l : List Bk) (roots : List V) : List Int := cntBl (cntV (List.replicate l.length 0) roots) l
theorem counts_len (l : List Bk) (roots : List V) : (counts l roots).length = l.length := by
  unfold counts
  rw [cntBl_len, cntV_len, List.length_replicate]
end Go.Sx
namespace Go.Sx
open Go
section
variable {P : Program} {h : Hp} {K : Value → Hp → Prop}
/-- What is loaded may be read in an earlier heap. -/
theorem hpure_base {s : Sem Value} {hB : Hp} (e : Ext hB h) (k : HPure P s hB fun v _ => K v h) : HPure P s h K := by
  obtain ⟨v, h1, h2⟩ := k
  exact ⟨v, fun w q => h1 w ⟨fun b o hb => q.vis b o (e b o hb)⟩, h2⟩
/-- The load of a block. -/
theorem hsem_blk {t b off i j : Nat} {es : List Bk} {e : Bk} {xs : List Value} (ht : tyS P t = some (true, 6)) (hat : At h ⟨b, off, none⟩ xs) (hr : RdL h (es.flatMap Bk.dt) xs) (hi : es[i]? = some e) (hj : j = off + i * 6)
    (k : ∀ s u, RdI h e.tab.heads s → RdT h e.tab.slots u → K (.agg #[.int .i64 e.count, .bool e.tab.hashed, s, u, .int .i64 e.tab.next, .int .i64 e.tab.count]) h) : HPure P (ldI t (.pointer (some ⟨b, j, none⟩))) h K :=
  hsem_row (f := Bk.dt) (o := 0) Bk.dt_len ht hat hr hi (Nat.le_refl _) (by rw [List.drop_zero, List.take_of_length_le (by rw [Bk.dt_len]; exact Nat.le_refl _)]) (by simpa using hj) fun ys r => by
    obtain ⟨s, u, rfl, hs, hu⟩ := RdL_blk r
    exact k s u hs hu
/-- The load of a block's table. -/
theorem hsem_btab {t b off i j : Nat} {es : List Bk} {e : Bk} {xs : List Value} (ht : tyS P t = some (true, 5)) (hat : At h ⟨b, off, none⟩ xs) (hr : RdL h (es.flatMap Bk.dt) xs) (hi : es[i]? = some e) (hj : j = off + i * 6 + 1)
    (k : ∀ s u, RdI h e.tab.heads s → RdT h e.tab.slots u → K (.agg #[.bool e.tab.hashed, s, u, .int .i64 e.tab.next, .int .i64 e.tab.count]) h) : HPure P (ldI t (.pointer (some ⟨b, j, none⟩))) h K :=
  hsem_row (f := Bk.dt) (o := 1) (ds := e.tab.dt) Bk.dt_len ht hat hr hi (by omega) (by simp [Bk.dt, Tb.dt]) (by omega) fun ys r => by
    obtain ⟨s, u, rfl, hs, hu⟩ := RdL_tab r
    exact k s u hs hu
/-- The load of a block's count. -/
theorem hsem_bcnt {t n b off i j : Nat} {es : List Bk} {e : Bk} {xs : List Value} (ht : tyS P t = some (false, n)) (hat : At h ⟨b, off, none⟩ xs) (hr : RdL h (es.flatMap Bk.dt) xs) (hi : es[i]? = some e) (hj : j = off + i * 6)
    (k : K (.int .i64 e.count) h) : HPure P (ldI t (.pointer (some ⟨b, j, none⟩))) h K :=
  hsem_cell (f := Bk.dt) (o := 0) (d := .raw (.int .i64 e.count)) Bk.dt_len ht hat hr hi (by omega) (by rw [Bk.dt_eq]; rfl) (by omega) fun u hu => by
    obtain ⟨rfl, _⟩ := Rd_raw.1 hu
    exact k
/-- The load of a block's slots. -/
theorem hsem_bslots {t n b off i j : Nat} {es : List Bk} {e : Bk} {xs : List Value} (ht : tyS P t = some (false, n)) (hat : At h ⟨b, off, none⟩ xs) (hr : RdL h (es.flatMap Bk.dt) xs) (hi : es[i]? = some e) (hj : j = off + i * 6 + 3)
    (k : ∀ u, RdT h e.tab.slots u → K u h) : HPure P (ldI t (.pointer (some ⟨b, j, none⟩))) h K :=
  hsem_cell (f := Bk.dt) (o := 3) (d := .row 10 (e.tab.slots.flatMap Sl.dt)) Bk.dt_len ht hat hr hi (by omega) (by rw [Bk.dt_eq]; rfl) (by omega) fun u hu => k u hu
/-- The load of a number of a slot's value. -/
theorem hsem_snum {t n b off i j : Nat} {es : List Sl} {e : Sl} {xs : List Value} (ht : tyS P t = some (false, n)) (hat : At h ⟨b, off, none⟩ xs) (hr : RdL h (es.flatMap Sl.dt) xs) (hi : es[i]? = some e) (hj : j = off + i * 10 + 4)
    (k : K (.int .i64 e.val.num) h) : HPure P (ldI t (.pointer (some ⟨b, j, none⟩))) h K :=
  hsem_cell (f := Sl.dt) (o := 4) (d := .raw (.int .i64 e.val.num)) Sl.dt_len ht hat hr hi (by omega) (by rw [Sl.dt_eq]; rfl) (by omega) fun u hu => by
    obtain ⟨rfl, _⟩ := Rd_raw.1 hu
    exact k
theorem hsem_skind {t n b off i j : Nat} {es : List Sl} {e : Sl} {xs : List Value} (ht : tyS P t = some (false, n)) (hat : At h ⟨b, off, none⟩ xs) (hr : RdL h (es.flatMap Sl.dt) xs) (hi : es[i]? = some e) (hj : j = off + i * 10 + 3)
    (k : K (.int .i64 e.val.kind) h) : HPure P (ldI t (.pointer (some ⟨b, j, none⟩))) h K :=
  hsem_cell (f := Sl.dt) (o := 3) (d := .raw (.int .i64 e.val.kind)) Sl.dt_len ht hat hr hi (by omega) (by rw [Sl.dt_eq]; rfl) (by omega) fun u hu => by
    obtain ⟨rfl, _⟩ := Rd_raw.1 hu
    exact k
end
theorem ix_int {z len b off : Nat} {n : Int} (h0 : 0 ≤ n) (hi : n.toNat < len) : ixA (some z) (some ⟨b, off, none⟩) len n = some (.pointer (some ⟨b, off + n.toNat * z, none⟩)) := by
  have := ix_nat (z := z) (b := b) (off := off) hi
  rwa [show ((n.toNat : Nat) : Int) = n by omega] at this
theorem zeros_int : ∀ n, zeros [.int .i64 0] n = (List.replicate n (0 : Int)).flatMap idt
  | 0 => rfl
  | n + 1 => by
    rw [zeros, zeros_int n, List.replicate_succ, List.flatMap_cons]
    rfl
theorem slots_bulk {l : List Bk} {i : Nat} {b : Bk} (h : l[i]? = some b) : b.tab.bulk ≤ szG Bk.bulk l := by
  have := szG_mem (w := Bk.bulk) (List.mem_of_getElem? h)
  have e : Bk.bulk b = b.tab.bulk := rfl
  omega
theorem tab_slots (t : Tb) : t.slots.length ≤ t.bulk ∧ ∀ s ∈ t.slots, s.val.bulk ≤ t.bulk ∧ s.key.str.size ≤ t.bulk := by
  refine ⟨?_, fun s hs => ?_⟩
  · have := szG_len (w := Sl.bulk) t.slots
    unfold Tb.bulk
    omega
  · have := szG_mem (w := Sl.bulk) hs
    have e : Sl.bulk s = s.key.str.size + s.val.bulk := rfl
    unfold Tb.bulk
    omega
section
variable {P : Program} {h : Hp} {K : Value → Hp → Prop}
theorem hsem_vrow {t b off i j : Nat} {es : List V} {e : V} {xs : List Value} (ht : tyS P t = some (true, 5)) (hat : At h ⟨b, off, none⟩ xs) (hr : RdL h (es.flatMap V.dt) xs) (hi : es[i]? = some e) (hj : j = off + i * 5)
    (k : ∀ sl, RdE h e.items sl → K (.agg #[.int .i64 e.kind, .int .i64 e.num, .string e.str, .int .i64 e.next, sl]) h) : HPure P (ldI t (.pointer (some ⟨b, j, none⟩))) h K :=
  hsem_row (f := V.dt) (o := 0) V.dt_len ht hat hr hi (Nat.le_refl _) (by rw [List.drop_zero, List.take_of_length_le (by rw [V.dt_len]; exact Nat.le_refl _)]) (by simpa using hj) fun ys r => by
    obtain ⟨sl, rfl, hs⟩ := RdL_val r
    exact k sl hs
theorem hsem_vkind {t n b off i j : Nat} {es : List V} {e : V} {xs : List Value} (ht : tyS P t = some (false, n)) (hat : At h ⟨b, off, none⟩ xs) (hr : RdL h (es.flatMap V.dt) xs) (hi : es[i]? = some e) (hj : j = off + i * 5)
    (k : K (.int .i64 e.kind) h) : HPure P (ldI t (.pointer (some ⟨b, j, none⟩))) h K :=
  hsem_cell (f := V.dt) (o := 0) (d := .raw (.int .i64 e.kind)) V.dt_len ht hat hr hi (by omega) (by rw [V.dt_eq]; rfl) (by omega) fun u hu => by
    obtain ⟨rfl, _⟩ := Rd_raw.1 hu
    exact k
theorem hsem_vnum {t n b off i j : Nat} {es : List V} {e : V} {xs : List Value} (ht : tyS P t = some (false, n)) (hat : At h ⟨b, off, none⟩ xs) (hr : RdL h (es.flatMap V.dt) xs) (hi : es[i]? = some e) (hj : j = off + i * 5 + 1)
    (k : K (.int .i64 e.num) h) : HPure P (ldI t (.pointer (some ⟨b, j, none⟩))) h K :=
  hsem_cell (f := V.dt) (o := 1) (d := .raw (.int .i64 e.num)) V.dt_len ht hat hr hi (by omega) (by rw [V.dt_eq]; rfl) (by omega) fun u hu => by
    obtain ⟨rfl, _⟩ := Rd_raw.1 hu
    exact k
end
end Go.Sx
namespace Go.Sx
open Go
/-! a key set in a copy -/
end Go.Sx
