/-
  A part of the abstract machine over the model's Code, or of the proof that what it shows holds of the model; no program is in sight, and nothing is assumed.
-/
import Derived.Test.YtconhonjkfpfmaaSxHole
import Derived.Test.YtconhonjkfpfmaaSxDataT
/-! A cursor: three cells in the heap (bytes, place, state) that draws read and write. -/
namespace Go.Sx
open Go
variable {P : Program} {h0 h : Hp} {K : Value → Hp → Prop} {bag : Bag} {p : Nat} {sl : Value} {i hh : Int}
def cuDt (sl : Value) (i hh : Int) : Dt := .ptr [] [.raw sl, .raw (.int .i64 i), .raw (.int .i64 hh)] []
def pv (p : Nat) : Value := .pointer (some ⟨p, 0, none⟩)
/-- The walk owns a cursor over the bytes 'l', and the rest. -/
def CurM (h0 h : Hp) (l : List UInt8) (p : Nat) (bag : Bag) : Prop :=
  ∃ (a : Option Addr) (c i : Nat) (hh : Int), i ≤ l.length ∧ RdS h0 1 (.slice a l.length c) (bcells l) ∧ My h0 h ((cuDt (.slice a l.length c) i hh, pv p) :: bag)
theorem cu_ldB {t n j : Nat} (ht : tyS P t = some (false, n)) (m : My h0 h ((cuDt sl i hh, pv p) :: bag)) (hj : j = 0) (k : K sl h) : HPure P (ldI t (.pointer (some ⟨p, j, none⟩))) h K := by
  refine (Hold.ptr (p := []) (q := [])).load1 (i := 0) (d := .raw sl) ht m rfl (by simpa using hj) fun u ru => ?_
  obtain ⟨rfl, _⟩ := Rd_raw.1 ru
  exact k
theorem cu_ldI {t n j : Nat} (ht : tyS P t = some (false, n)) (m : My h0 h ((cuDt sl i hh, pv p) :: bag)) (hj : j = 1) (k : K (.int .i64 i) h) : HPure P (ldI t (.pointer (some ⟨p, j, none⟩))) h K := by
  refine (Hold.ptr (p := []) (q := [])).load1 (i := 1) (d := .raw (.int .i64 i)) ht m rfl (by simpa using hj) fun u ru => ?_
  obtain ⟨rfl, _⟩ := Rd_raw.1 ru
  exact k
theorem cu_ldH {t n j : Nat} (ht : tyS P t = some (false, n)) (m : My h0 h ((cuDt sl i hh, pv p) :: bag)) (hj : j = 2) (k : K (.int .i64 hh) h) : HPure P (ldI t (.pointer (some ⟨p, j, none⟩))) h K := by
  refine (Hold.ptr (p := []) (q := [])).load1 (i := 2) (d := .raw (.int .i64 hh)) ht m rfl (by simpa using hj) fun u ru => ?_
  obtain ⟨rfl, _⟩ := Rd_raw.1 ru
  exact k
theorem cu_stI {t j : Nat} {n : Int} (ht : tyS P t = some (false, 1)) (m : My h0 h ((cuDt sl i hh, pv p) :: bag)) (hj : j = 1) (k : ∀ h', My h0 h' ((cuDt sl n hh, pv p) :: bag) → K undef h') : HSem P (stI t (.pointer (some ⟨p, j, none⟩)) (.int .i64 n)) h K := by
  have m1 : My h0 h ((.raw (.int .i64 n), .int .i64 n) :: ((fun x => Dt.ptr [] x []) ([.raw sl] ++ ([.raw (.int .i64 i)] ++ [.raw (.int .i64 hh)])), pv p) :: bag) := m.raw rfl
  exact ((Hold.ptr (p := []) (q := [])).sub [.raw sl] [.raw (.int .i64 hh)]).store (h0 := h0) (bag := bag) (x := [.raw (.int .i64 i)]) (es := [.raw (.int .i64 n)]) ht m1 rfl rfl rfl (by simpa using hj) fun h' m' => k h' m'
theorem cu_stH {t j : Nat} {n : Int} (ht : tyS P t = some (false, 1)) (m : My h0 h ((cuDt sl i hh, pv p) :: bag)) (hj : j = 2) (k : ∀ h', My h0 h' ((cuDt sl i n, pv p) :: bag) → K undef h') : HSem P (stI t (.pointer (some ⟨p, j, none⟩)) (.int .i64 n)) h K := by
  have m1 : My h0 h ((.raw (.int .i64 n), .int .i64 n) :: ((fun x => Dt.ptr [] x []) ([.raw sl, .raw (.int .i64 i)] ++ ([.raw (.int .i64 hh)] ++ [])), pv p) :: bag) := m.raw rfl
  exact ((Hold.ptr (p := []) (q := [])).sub [.raw sl, .raw (.int .i64 i)] []).store (h0 := h0) (bag := bag) (x := [.raw (.int .i64 hh)]) (es := [.raw (.int .i64 n)]) ht m1 rfl rfl rfl (by simpa using hj) fun h' m' => k h' m'
/-- .. and what is below the cursor in the bag may change. -/
theorem CurM.upd {l : List UInt8} {bag' : Bag} {h' : Hp} (c : CurM h0 h l p bag) (f : ∀ d, My h0 h ((d, pv p) :: bag) → My h0 h' ((d, pv p) :: bag')) : CurM h0 h' l p bag' := by
  obtain ⟨a, c, i, hh, h1, h2, h3⟩ := c
  exact ⟨a, c, i, hh, h1, h2, f _ h3⟩
theorem My.raws3 {a : Option Addr} {n c : Nat} {x y : Int} (m : My h0 h bag) : My h0 h ([Dt.raw (.slice a n c), .raw (.int .i64 x), .raw (.int .i64 y)].zip (Value.agg #[.slice a n c, .int .i64 x, .int .i64 y]).cells.toList ++ bag) :=
  ((m.raw (u := .int .i64 y) rfl).raw (u := .int .i64 x) rfl).raw (u := .slice a n c) rfl
theorem CurM.mono {l : List UInt8} {h' : Hp} (c : CurM h0 h l p bag) (e : Ext h h') : CurM h0 h' l p bag := c.upd fun _ m => m.mono e
theorem CurM.my {l : List UInt8} (c : CurM h0 h l p bag) : My h0 h bag := by
  obtain ⟨a, c, i, hh, h1, h2, h3⟩ := c
  exact h3.drop
theorem CurM.add {l : List UInt8} {bag' : Bag} {h' : Hp} (c : CurM h0 h l p bag) (n : My h h' bag') : CurM h0 h' l p (bag' ++ bag) := c.upd fun d m => (m.add n).perm List.perm_middle
theorem CurM.drop {l : List UInt8} {x : Dt × Value} (c : CurM h0 h l p (x :: bag)) : CurM h0 h l p bag := c.upd fun d m => m.swap.drop
/-- a step that changes the rest alone, seen with the cursor behind the things that the step is about -/
theorem CurM.fst {l : List UInt8} {x : Dt × Value} (c : CurM h0 h l p (x :: bag)) : ∃ y, My h0 h (x :: y :: bag) ∧ ∀ h' x', My h0 h' (x' ++ y :: bag) → CurM h0 h' l p (x' ++ bag) := by
  obtain ⟨a, c, i, hh, h1, h2, h3⟩ := c
  exact ⟨_, h3.swap, fun h' x' m => ⟨a, c, i, hh, h1, h2, m.perm List.perm_middle⟩⟩
/-- the same with nothing ahead -/
theorem CurM.top {l : List UInt8} (c : CurM h0 h l p bag) : ∃ y, My h0 h (y :: bag) ∧ ∀ h' x', My h0 h' (x' ++ y :: bag) → CurM h0 h' l p (x' ++ bag) := by
  obtain ⟨a, c, i, hh, h1, h2, h3⟩ := c
  exact ⟨_, h3, fun h' x' m => ⟨a, c, i, hh, h1, h2, m.perm List.perm_middle⟩⟩
theorem CurM.row0 {l : List UInt8} {z n : Nat} {cs : List Dt} {v : Value} (c : CurM h0 h l p ((.row z cs, v) :: bag)) (hn : 0 < n) (hc : cs.length = n * z) (hz : 0 < z := by decide) : ∃ b k, v = .slice (some ⟨b, 0, none⟩) n k := by
  obtain ⟨a, k, rfl, _, _, hat⟩ := c.my.row_shape hz n hc
  obtain ⟨b, rfl⟩ := hat hn
  exact ⟨b, k, rfl⟩
/-- A draw of a number. -/
def NumP (lo hi : Int) (h0 : Hp) (l : List UInt8) (p : Nat) (bag : Bag) (u : Value) (h' : Hp) : Prop := ∃ n : Int, u = .int .i64 n ∧ lo ≤ n ∧ n ≤ hi ∧ CurM h0 h' l p bag
def BoolP (h0 : Hp) (l : List UInt8) (p : Nat) (bag : Bag) (u : Value) (h' : Hp) : Prop := ∃ b : Bool, u = .bool b ∧ CurM h0 h' l p bag
def IntP (ns : List Int) (h0 : Hp) (l : List UInt8) (p : Nat) (bag : Bag) (u : Value) (h' : Hp) : Prop := ∃ n ∈ ns, u = .int .i64 n ∧ CurM h0 h' l p bag
def StrP (ss : List ByteArray) (h0 : Hp) (l : List UInt8) (p : Nat) (bag : Bag) (u : Value) (h' : Hp) : Prop := ∃ s ∈ ss, u = .string s ∧ CurM h0 h' l p bag
def sdt (s : ByteArray) : List Dt := [.raw (.string s)]
theorem sdt_len (s : ByteArray) : (sdt s).length = 1 := rfl
theorem and255 (a : Int) : ∃ n : Nat, n < 256 ∧ IntKind.i64.wrap ((BitVec.ofInt IntKind.i64.bits a &&& BitVec.ofInt IntKind.i64.bits 255).toNat : Int) = n := by
  have h1 : (BitVec.ofInt 64 a &&& BitVec.ofInt 64 255).toNat = (BitVec.ofInt 64 a).toNat % 256 := by
    rw [BitVec.toNat_and]
    have : (BitVec.ofInt 64 255).toNat = 2 ^ 8 - 1 := by decide
    rw [this, Nat.and_two_pow_sub_one_eq_mod]
  have h2 : IntKind.i64.bits = 64 := rfl
  rw [h2, h1]
  exact ⟨(BitVec.ofInt 64 a).toNat % 256, Nat.mod_lt _ (by decide), IntWalk.i64_in _ (by omega)⟩
theorem vbin_shr33 {t : Nat} {nc : Bool} (x : Int) : vbin P .shr t nc (.int .i64 x) (.int .u64 33) = some (.int .i64 (x.fdiv 8589934592)) := by
  show (if (33 : Int) < 0 then none else _) = _
  rw [if_neg (by decide)]
  rfl
theorem vbin_shr47 {t : Nat} {nc : Bool} (x : Int) : vbin P .shr t nc (.int .i64 x) (.int .u64 47) = some (.int .i64 (x.fdiv 140737488355328)) := by
  show (if (47 : Int) < 0 then none else _) = _
  rw [if_neg (by decide)]
  rfl
theorem vbin_and255 {t : Nat} {nc : Bool} (x : Int) : ∃ n : Nat, n < 256 ∧ vbin P .and t nc (.int .i64 x) (.int .i64 255) = some (.int .i64 n) := by
  obtain ⟨n, h1, h2⟩ := and255 x
  exact ⟨n, h1, by rw [← h2]; rfl⟩
def xr (x y : Int) : Int := IntKind.i64.wrap ((BitVec.ofInt IntKind.i64.bits x ^^^ BitVec.ofInt IntKind.i64.bits y).toNat : Int)
theorem vbin_xor {t : Nat} {nc : Bool} (x y : Int) : vbin P .xor t nc (.int .i64 x) (.int .i64 y) = some (.int .i64 (xr x y)) := rfl
def an (x y : Int) : Int := IntKind.i64.wrap ((BitVec.ofInt IntKind.i64.bits x &&& BitVec.ofInt IntKind.i64.bits y).toNat : Int)
theorem vbin_an {t : Nat} {nc : Bool} (x y : Int) : vbin P .and t nc (.int .i64 x) (.int .i64 y) = some (.int .i64 (an x y)) := rfl
/-- the bytes, their place named ahead -/
theorem RdS.bytes {l : List UInt8} (rd : RdS h0 1 sl (bcells l)) : ∃ (a : Option Addr) (c b off : Nat), sl = .slice a l.length c ∧ ∀ i, i < l.length → ∀ (h : Hp), Ext h0 h → At h ⟨b, off, none⟩ (bcells l) ∧ ixA (some 1) a l.length (i : Int) = some (.pointer (some ⟨b, off + i * 1, none⟩)) ∧ (bcells l)[i]? = some (.int .u8 ((l.getD i 0).toNat : Nat)) := by
  have hbl : (bcells l).length = l.length * 1 := by simp [bcells]
  obtain ⟨a, c, rfl, hc, hat⟩ := rd.slice l.length (by decide) hbl
  by_cases h1 : 0 < l.length
  · obtain ⟨b, off, rfl, hat'⟩ := hat h1
    refine ⟨_, c, b, off, rfl, fun i hi h e => ⟨hat'.mono e, ix_nat hi, ?_⟩⟩
    unfold bcells
    rw [List.getElem?_map, List.getElem?_eq_getElem hi, List.getD_eq_getElem?_getD, List.getElem?_eq_getElem hi]
    rfl
  · exact ⟨a, c, 0, 0, rfl, fun i hi => absurd hi (by omega)⟩
theorem flat_map {α : Type} (g : α → Value) (hg : ∀ a, (g a).cells.toList = [g a]) : ∀ (ns : List α) (k : Nat), flat ((ns.zipIdx k).map fun x => (x.2, g x.1)) = ns.map g
  | [], _ => rfl
  | a :: r, k => by
    simp only [List.zipIdx_cons, List.map_cons, flat, List.flatMap_cons, hg]
    exact congrArg (g a :: ·) (flat_map g hg r (k + 1))
theorem raws_fm {α : Type} (g : α → Value) : ∀ ns : List α, (ns.map g).map Dt.raw = ns.flatMap fun a => [Dt.raw (g a)]
  | [] => rfl
  | a :: r => by
    simp only [List.map_cons, List.flatMap_cons, List.cons_append, List.nil_append]
    exact congrArg (Dt.raw (g a) :: ·) (raws_fm g r)
theorem ones_map {α : Type} (g : α → Value) (hg : ∀ a, oneCell (g a) = true) : ∀ ns : List α, oneCells (ns.map g) = true
  | [] => rfl
  | a :: r => by
    simp only [List.map_cons, oneCells, Bool.and_eq_true]
    exact ⟨hg a, ones_map g hg r⟩
/-- A literal slice of one-celled things. -/
theorem cur_lit {α : Type} (g : α → Value) (hg : ∀ a, (g a).cells.toList = [g a]) (ho : ∀ a, oneCell (g a) = true) {t n : Nat} {s : SlT} {parts : List (Nat × Value)} (ns : List α) (hs : slT P t = some s) (hz : s.z = 1)
    (hp : parts = ns.zipIdx.map fun x => (x.2, g x.1)) (hn : ns.length = n) (hn0 : 0 < n) (hn2 : n ≤ 1000) {l : List UInt8} (c : CurM h0 h l p bag)
    (k : ∀ v h', CurM h0 h' l p ((.row 1 (ns.flatMap fun a => [.raw (g a)]), v) :: bag) → K v h') : HSem P (bsI t n parts.toArray) h K := by
  obtain ⟨y, m, back⟩ := c.top
  have hc : ∀ a, (g a).cells.size = 1 := fun a => by rw [← Array.length_toList, hg]; rfl
  have hfl : flat parts = ns.map g := by rw [hp]; exact flat_map g hg ns 0
  have my := raws_zip (ones_map g ho ns) m
  rw [raws_fm, ← hfl] at my
  refine hsem_my_lit hs (by omega) hn0 (by rw [hz]; omega) ?_ ?_ ?_ my ?_ ?_ fun v h' m' => ?_
  · rw [hp, List.length_map, List.length_zipIdx, hn]
  · rw [hp, List.map_map]
    have : ((fun x : Nat × Value => x.1) ∘ fun x : α × Nat => (x.2, g x.1)) = Prod.snd := rfl
    rw [this, List.zipIdx_map_snd, hn, List.range_eq_range']
  · intro q hq
    rw [hp] at hq
    obtain ⟨x, _, rfl⟩ := List.mem_map.1 hq
    rw [hc, hz]
  · rw [hfl, List.length_map, hn, hz, Nat.mul_one]
  · rw [fm_len (z := 1) (fun a => rfl), hn, hz]
  · rw [hz] at m'
    exact k v h' (back h' [_] m')
theorem cur_ints {t n : Nat} {s : SlT} {parts : List (Nat × Value)} (ns : List Int) (hs : slT P t = some s) (hz : s.z = 1) (hp : parts = ns.zipIdx.map fun x => (x.2, .int .i64 x.1)) (hn : ns.length = n) (hn0 : 0 < n) (hn2 : n ≤ 1000) {l : List UInt8} (c : CurM h0 h l p bag)
    (k : ∀ v h', CurM h0 h' l p ((.row 1 (ns.flatMap idt), v) :: bag) → K v h') : HSem P (bsI t n parts.toArray) h K :=
  cur_lit (fun n => .int .i64 n) (fun _ => rfl) (fun _ => rfl) ns hs hz hp hn hn0 hn2 c k
theorem cur_strs {t n : Nat} {s : SlT} {parts : List (Nat × Value)} (ns : List ByteArray) (hs : slT P t = some s) (hz : s.z = 1) (hp : parts = ns.zipIdx.map fun x => (x.2, .string x.1)) (hn : ns.length = n) (hn0 : 0 < n) (hn2 : n ≤ 1000) {l : List UInt8} (c : CurM h0 h l p bag)
    (k : ∀ v h', CurM h0 h' l p ((.row 1 (ns.flatMap sdt), v) :: bag) → K v h') : HSem P (bsI t n parts.toArray) h K :=
  cur_lit (fun n => .string n) (fun _ => rfl) (fun _ => rfl) ns hs hz hp hn hn0 hn2 c k
end Go.Sx
