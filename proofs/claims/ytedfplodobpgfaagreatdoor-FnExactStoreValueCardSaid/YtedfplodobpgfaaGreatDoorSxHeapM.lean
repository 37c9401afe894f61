/-
  A part of the abstract machine over the model's Code, or of the proof that what it shows holds of the model; no program is in sight, and nothing is assumed.
-/
import Derived.Test.YtedfplodobpgfaaGreatDoorSxHeapF
/-! Blocks that lie in memory: their counts, their tables, written in place. -/
namespace Go.Sx
open Go
section
variable {P : Program} {h0 h : Hp} {K : Value → Hp → Prop} {bag : Bag} {c : List Dt → Dt} {val : Value} {b off : Nat}
theorem bk_row (l : List Bk) (i : Nat) (u : Bk) (hi : i < l.length) : (l.set i u).flatMap Bk.dt = (l.take i).flatMap Bk.dt ++ (u.dt ++ (l.drop (i + 1)).flatMap Bk.dt) := by
  rw [set_split u hi, List.flatMap_append, List.flatMap_cons]
/-- a block within the blocks -/
theorem hold_bk {l : List Bk} {i b cap : Nat} (hi : i < l.length) : ∃ c, Hold c (.slice (some ⟨b, 0, none⟩) l.length cap) b (i * 6) ∧ ∀ u : Bk, c u.dt = .row 6 ((l.set i u).flatMap Bk.dt) := by
  obtain ⟨e, he, _⟩ := get_lt hi
  obtain ⟨_, h2⟩ := fm_split Bk.dt_len he
  exact ⟨_, (Hold.row (z := 6) (p := (l.take i).flatMap Bk.dt) (q := (l.drop (i + 1)).flatMap Bk.dt) (by omega)).at_ h2.symm, fun u => by rw [bk_row l i u hi]⟩
/-- .. its count -/
theorem hold_bcnt {l : List Bk} {i b cap : Nat} (hi : i < l.length) : ∃ c, Hold c (.slice (some ⟨b, 0, none⟩) l.length cap) b (i * 6) ∧ ∀ w : Int, c [.raw (.int .i64 w)] = .row 6 ((l.set i ((blk l i).withC w)).flatMap Bk.dt) := by
  obtain ⟨_, h2⟩ := fm_split Bk.dt_len (blk_at hi)
  refine ⟨_, (Hold.row (z := 6) (p := (l.take i).flatMap Bk.dt) (q := (blk l i).tab.dt ++ (l.drop (i + 1)).flatMap Bk.dt) (by omega)).at_ h2.symm, fun w => ?_⟩
  rw [bk_row l i _ hi]
  simp only [Bk.dt, Bk.withC, List.cons_append, List.nil_append]
/-- .. its table -/
theorem hold_btab {l : List Bk} {i b cap : Nat} (hi : i < l.length) : ∃ c, Hold c (.slice (some ⟨b, 0, none⟩) l.length cap) b (i * 6 + 1) ∧ ∀ t : Tb, c t.dt = .row 6 ((l.set i ((blk l i).withT t)).flatMap Bk.dt) := by
  obtain ⟨_, h2⟩ := fm_split Bk.dt_len (blk_at hi)
  refine ⟨_, (Hold.row (z := 6) (p := (l.take i).flatMap Bk.dt ++ [.raw (.int .i64 (blk l i).count)]) (q := (l.drop (i + 1)).flatMap Bk.dt) (by omega)).at_ ?_, fun t => ?_⟩
  · rw [List.length_append, h2]
    rfl
  · rw [bk_row l i _ hi]
    simp only [Bk.dt, Bk.withT, List.append_assoc, List.cons_append, List.nil_append]
theorem set_blk {l : List Bk} {i : Nat} (hi : i < l.length) : l.set i (blk l i) = l := by
  have := blk_at hi
  rw [List.getElem?_eq_getElem hi] at this
  rw [← Option.some.inj this]
  exact List.set_getElem_self hi
theorem withC_self (u : Bk) : u.withC u.count = u := rfl
theorem withT_self (u : Bk) : u.withT u.tab = u := rfl
/-- the cells of a block that is written -/
theorem bk_zip (u : Bk) {x y : Value} (m : My h0 h ((.row 1 (u.tab.heads.flatMap idt), x) :: (.row 10 (u.tab.slots.flatMap Sl.dt), y) :: bag)) : My h0 h (u.dt.zip [.int .i64 u.count, .bool u.tab.hashed, x, y, .int .i64 u.tab.next, .int .i64 u.tab.count] ++ bag) := by
  simp only [Bk.dt_eq, List.zip_cons_cons, List.zip_nil_right, List.cons_append, List.nil_append, My.raw_iff, one_bool, one_int, and_self, true_and]
  exact ((m.raw (u := .int .i64 u.tab.count) rfl).raw (u := .int .i64 u.tab.next) rfl).fourth.fourth
/-- a block is written -/
theorem bk_store (hd : Hold c val b off) {t j : Nat} {u : Bk} {x y : Value} {z : List Dt} (ht : tyS P t = some (true, 6)) (hz : z.length = 6) (m : My h0 h ((.row 1 (u.tab.heads.flatMap idt), x) :: (.row 10 (u.tab.slots.flatMap Sl.dt), y) :: (c z, val) :: bag)) (hj : j = off) (k : ∀ h', My h0 h' ((c u.dt, val) :: bag) → K undef h') :
    HSem P (stI t (.pointer (some ⟨b, j, none⟩)) (.agg #[.int .i64 u.count, .bool u.tab.hashed, x, y, .int .i64 u.tab.next, .int .i64 u.tab.count])) h K :=
  hd.store (x := z) (es := u.dt) ht (bk_zip u m) hz (Bk.dt_len u) rfl hj k
end
/-- a heap in a variable, its blocks at hand -/
def HpB (l : List Bk) (a : Option Addr) (n bp : Nat) (R : Bag) : Bag := (.row 6 (l.flatMap Bk.dt), .slice a l.length n) :: (.ptr [] [.raw (.slice a l.length n)] [], .pointer (some ⟨bp, 0, none⟩)) :: R
/-- what a walk over a heap in a variable leaves: some blocks, the rest as it was -/
def HpO (h0 : Hp) (l : List Bk) (bp : Nat) (R : Bag) (h' : Hp) : Prop := ∃ a n, My h0 h' (HpB l a n bp R)
end Go.Sx
