/-
  A part of the abstract machine over the model's Code, or of the proof that what it shows holds of the model; no program is in sight, and nothing is assumed.
-/
import Derived.Test.YtedfplodobpgfaaGreatDoorSxHeapM
/-! A heap in a variable: a count is read or written, a block is opened. -/
namespace Go.Sx
open Go
section
variable {P : Program} {h0 h : Hp} {K : Value → Hp → Prop} {bag : Bag} {l : List Bk} {b cap i j t : Nat}
theorem bcnt_hold (hi : i < l.length) (m : My h0 h ((.row 6 (l.flatMap Bk.dt), .slice (some ⟨b, 0, none⟩) l.length cap) :: bag)) :
    ∃ c, Hold c (.slice (some ⟨b, 0, none⟩) l.length cap) b (i * 6) ∧ (∀ w : Int, c [.raw (.int .i64 w)] = .row 6 ((l.set i ((blk l i).withC w)).flatMap Bk.dt)) ∧ My h0 h ((c [.raw (.int .i64 (blk l i).count)], .slice (some ⟨b, 0, none⟩) l.length cap) :: bag) := by
  obtain ⟨c, hd, hc⟩ := hold_bcnt (l := l) (b := b) (cap := cap) hi
  refine ⟨c, hd, hc, ?_⟩
  rw [hc, withC_self, set_blk hi]
  exact m
theorem bcnt_ld (hi : i < l.length) (ht : tyS P t = some (false, 1)) (m : My h0 h ((.row 6 (l.flatMap Bk.dt), .slice (some ⟨b, 0, none⟩) l.length cap) :: bag)) (hj : j = i * 6) (k : K (.int .i64 (blk l i).count) h) : HPure P (ldI t (.pointer (some ⟨b, j, none⟩))) h K := by
  obtain ⟨c, hd, hc, m2⟩ := bcnt_hold hi m
  exact hd.ld1 (i := 0) ht m2 rfl (by omega) k
theorem bcnt_st (w : Int) (hi : i < l.length) (ht : tyS P t = some (false, 1)) (m : My h0 h ((.row 6 (l.flatMap Bk.dt), .slice (some ⟨b, 0, none⟩) l.length cap) :: bag)) (hj : j = i * 6)
    (k : ∀ h', My h0 h' ((.row 6 ((l.set i ((blk l i).withC w)).flatMap Bk.dt), .slice (some ⟨b, 0, none⟩) l.length cap) :: bag) → K undef h') : HSem P (stI t (.pointer (some ⟨b, j, none⟩)) (.int .i64 w)) h K := by
  obtain ⟨c, hd, hc, m2⟩ := bcnt_hold hi m
  exact hd.put1 ht rfl rfl m2 hj fun h' m3 => k h' (by rw [hc] at m3; exact m3)
/-- the cells of a block, bare -/
def bkraws (u : Bk) (x y : Value) : List Dt := [.raw (.int .i64 u.count), .raw (.bool u.tab.hashed), .raw x, .raw y, .raw (.int .i64 u.tab.next), .raw (.int .i64 u.tab.count)]
/-- a block is opened: its rows are taken out -/
theorem bk_open (hi : i < l.length) (m : My h0 h ((.row 6 (l.flatMap Bk.dt), .slice (some ⟨b, 0, none⟩) l.length cap) :: bag)) :
    ∃ c a n a' n', Hold c (.slice (some ⟨b, 0, none⟩) l.length cap) b (i * 6) ∧ (∀ u : Bk, c u.dt = .row 6 ((l.set i u).flatMap Bk.dt)) ∧
      My h0 h ((.row 1 ((blk l i).tab.heads.flatMap idt), .slice a (blk l i).tab.heads.length n) :: (.row 10 ((blk l i).tab.slots.flatMap Sl.dt), .slice a' (blk l i).tab.slots.length n') :: (c (bkraws (blk l i) (.slice a (blk l i).tab.heads.length n) (.slice a' (blk l i).tab.slots.length n')), .slice (some ⟨b, 0, none⟩) l.length cap) :: bag) := by
  obtain ⟨c, hd, hc⟩ := hold_bk (l := l) (b := b) (cap := cap) hi
  have e : [Dt.raw (.int .i64 (blk l i).count)] ++ ((blk l i).tab.dt ++ []) = (blk l i).dt := by
    rw [List.append_nil]
    rfl
  have m1 : My h0 h ((c ([Dt.raw (.int .i64 (blk l i).count)] ++ ((blk l i).tab.dt ++ [])), .slice (some ⟨b, 0, none⟩) l.length cap) :: bag) := by
    rw [e, hc, set_blk hi]
    exact m
  have hs := hd.sub [.raw (.int .i64 (blk l i).count)] []
  obtain ⟨a, n, a', n', m2⟩ := tb_open hs (t := (blk l i).tab) m1
  exact ⟨c, a, n, a', n', hd, hc, m2⟩
end
theorem share_no {l : List Bk} {v : V} (h : shareOk l v = false) : shareOf l v = l := if_neg (by rw [h]; simp)
theorem share_yes {l : List Bk} {v : V} (h : shareOk l v = true) : shareOf l v = shareH l v := if_pos h
theorem shareH_other {l : List Bk} {v : V} (h : ¬ v.kind = 5) : shareH l v = l := if_neg h
theorem shareH_this {l : List Bk} {v : V} (h : v.kind = 5) : shareH l v = l.set v.num.toNat ((blk l v.num.toNat).withC ((blk l v.num.toNat).count + 1)) := if_pos h
theorem dropF_other {f : Nat} {l : List Bk} {v : V} (h : ¬ v.kind = 5) : dropF (f + 1) l v = l := by rw [dropF, if_neg h]
theorem dropF_keep {f : Nat} {l : List Bk} {v : V} (h : v.kind = 5) (k : 0 < (blk l v.num.toNat).count - 1) : dropF (f + 1) l v = l.set v.num.toNat ((blk l v.num.toNat).withC ((blk l v.num.toNat).count - 1)) := by rw [dropF, if_pos h, if_pos k]
theorem dropF_gone {f : Nat} {l : List Bk} {v : V} (h : v.kind = 5) (k : ¬ 0 < (blk l v.num.toNat).count - 1) : dropF (f + 1) l v = dropS (dropF f) (l.set v.num.toNat bk0) (blk l v.num.toNat).tab.slots := by rw [dropF, if_pos h, if_neg k]
theorem drop_no1 {l : List Bk} {rs : List V} {i : Int} (h : ¬ (0 ≤ i ∧ i ≤ (rs.length : Int) - 1)) : dropOf l rs i = (l, false) := if_neg (by rw [decide_eq_false h]; simp)
theorem drop_no2 {l : List Bk} {rs : List V} {i : Int} (h : countedB l rs = false) : dropOf l rs i = (l, false) := if_neg (by rw [h]; simp)
theorem drop_yes {l : List Bk} {rs : List V} {i : Int} (h : 0 ≤ i ∧ i ≤ (rs.length : Int) - 1) (k : countedB l rs = true) : dropOf l rs i = (dropF (slotsN l + 1) l (rs.getD i.toNat V.zero), true) := if_pos (by rw [decide_eq_true h, k]; rfl)
theorem counted_parts {l : List Bk} {rs : List V} (h : countedB l rs = true) : heapB l = true ∧ ∀ v ∈ rs, isHeld l v = true := by
  unfold countedB allHeld at h
  rw [Bool.and_eq_true, Bool.and_eq_true, List.all_eq_true] at h
  exact ⟨h.1, h.2.1⟩
theorem slotsN_bulk (l : List Bk) : slotsN l ≤ szG Bk.bulk l := by
  have key : ∀ r : List Bk, gsum (fun b : Bk => b.tab.slots.length) r ≤ gsum Bk.bulk r := by
    intro r
    induction r with
    | nil => exact Nat.le_refl _
    | cons b r ih =>
      simp only [gsum, List.map_cons, List.sum_cons] at ih ⊢
      have h1 : b.tab.slots.length ≤ b.bulk := by
        have := tab_slots b.tab
        exact this.1
      omega
  have := key l
  unfold szG
  show gsum (fun b : Bk => b.tab.slots.length) l ≤ _
  omega
end Go.Sx
