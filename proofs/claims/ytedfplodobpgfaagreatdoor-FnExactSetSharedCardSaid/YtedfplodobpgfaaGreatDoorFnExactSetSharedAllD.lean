/-
  The statement FnExactSetShared is proved: for each argument the law returns true; nothing is assumed.
-/
import Derived.Test.YtedfplodobpgfaaGreatDoorFnExactSetSharedAllC
import Derived.Test.YtedfplodobpgfaaGreatDoorSxSub
import Derived.Test.YtedfplodobpgfaaGreatDoorSxLaw
import Derived.Test.YtedfplodobpgfaaGreatDoorSxDataT
import Derived.Test.YtedfplodobpgfaaGreatDoorSxDataV
namespace Go.Proofs.YtedfplodobpgfaaGreatDoor
set_option maxRecDepth 8000
open Go Go.Sx
def DropI (N f : Nat) : Prop := ∀ (l : List Bk) (v : V), slotsN l < f → hIn N 1099511627776 l → refIn N v → ∀ (av : Option Addr) (nv cv : Nat) (a : Option Addr) (n bp : Nat) (R : Bag) (h0 h : Hp), My h0 h (HpB l a n bp R) → ACalls Tryz.prog 96 #[.pointer (some ⟨bp, 0, none⟩), .agg #[.int .i64 v.kind, .int .i64 v.num, .string v.str, .int .i64 v.next, .slice av nv cv]] h (HpW h0 (dropF f l v) a n bp R)
set_option maxHeartbeats 1600000 in
theorem iDrop_s (N f : Nat) (ih : DropI N f) (hf : f + 1 ≤ 1099511627776) : DropI N (f + 1) := by
  intro l v hs hin hr av nv cv a n bp R h0 h my
  have hl := hin.len
  (refine enter Tryz.func96 rfl rfl (by kernel_rfl) [] ?_; simp only [go_sem, Nat.reduceBEq])
  by_cases h5 : v.kind = 5
  case neg =>
    simp only [decide_eq_false h5, Bool.not_false, go_sem]
    exact ⟨rfl, by rw [dropF_other h5]; exact my⟩
  obtain ⟨q1, q2⟩ := hr h5
  obtain ⟨⟨w1, w2⟩, kids⟩ := hin.blk q2
  rw [← hl] at q2
  have hw : IntKind.i64.wrap ((blk l v.num.toNat).count - 1) = (blk l v.num.toNat).count - 1 := IntWalk.i64_in _ (by omega)
  have my : My h0 h ((.row 6 (l.flatMap Bk.dt), .slice a l.length n) :: (.ptr [] [.raw (.slice a l.length n)] [], .pointer (some ⟨bp, 0, none⟩)) :: R) := my
  obtain ⟨_, _, es, _, _, hat⟩ := my.row_shape (by decide) l.length (fm_len Bk.dt_len _)
  cases es
  obtain ⟨b, rfl⟩ := hat (by omega)
  simp only [decide_eq_true h5, Bool.not_true, go_sem]
  refine regionD_intro (lb := [15]) (by kernel_rfl) ?_
  simp only [go_sem, Nat.reduceBEq]
  refine Hold.ld1 (i := 0) Hold.ptr tyS58 my.swap rfl rfl ?_
  simp only [ix_int q1 q2, go_sem, Nat.reduceBEq]
  refine bcnt_ld q2 tyS3 my (by omega) ?_
  simp only [ix_int q1 q2, hw, go_sem, Nat.reduceBEq]
  refine bcnt_st _ q2 tyS3 my (by omega) fun h2 m2 => ?_
  have hlen1 : (l.set v.num.toNat ((blk l v.num.toNat).withC ((blk l v.num.toNat).count - 1))).length = l.length := List.length_set
  have hb1 : blk (l.set v.num.toNat ((blk l v.num.toNat).withC ((blk l v.num.toNat).count - 1))) v.num.toNat = (blk l v.num.toNat).withC ((blk l v.num.toNat).count - 1) := blk_set_same q2
  have hl2 : (l.set v.num.toNat ((blk l v.num.toNat).withC ((blk l v.num.toNat).count - 1))).set v.num.toNat bk0 = l.set v.num.toNat bk0 := List.set_set _
  have hkeep := dropF_keep (f := f) (l := l) h5
  generalize l.set v.num.toNat ((blk l v.num.toNat).withC ((blk l v.num.toNat).count - 1)) = l1 at *
  have q3 : v.num.toNat < l1.length := by omega
  rw [← hlen1] at m2
  try simp only [go_sem]
  try rw [← hlen1]
  refine regionD_intro (lb := [27]) (by kernel_rfl) ?_
  simp only [go_sem, Nat.reduceBEq]
  refine Hold.ld1 (i := 0) Hold.ptr tyS58 m2.swap rfl rfl ?_
  simp only [ix_int q1 q3, go_sem, Nat.reduceBEq]
  refine bcnt_ld q3 tyS3 m2 (by omega) ?_
  rw [show (blk l1 v.num.toNat).count = (blk l v.num.toNat).count - 1 by rw [hb1]; rfl]
  try simp only [go_sem, Nat.reduceBEq]
  refine Br.intro (fun hp => ?_) (fun hp => ?_) <;> (try simp only [hp, go_sem])
  · have hp : 0 < (blk l v.num.toNat).count - 1 := by simpa using hp
    refine ⟨rfl, ?_⟩
    rw [hkeep hp]
    exact m2
  have hp : ¬ 0 < (blk l v.num.toNat).count - 1 := by simpa using hp
  rw [dropF_gone h5 hp]
  refine regionD_intro (lb := [37]) (by kernel_rfl) ?_
  simp only [go_sem, Nat.reduceBEq]
  refine Hold.ld1 (i := 0) Hold.ptr tyS58 m2.swap rfl rfl ?_
  obtain ⟨c, ah, nh, as0, ns, hd, hc, m3⟩ := bk_open q3 m2
  rw [show (blk l1 v.num.toNat).tab = (blk l v.num.toNat).tab by rw [hb1]; rfl] at m3
  generalize htt : (blk l v.num.toNat).tab = t at *
  simp only [ix_int q1 q3, go_sem, Nat.reduceBEq]
  refine hd.loadN (i := 1) (ds := [.raw (.bool t.hashed), .raw (.slice ah t.heads.length nh), .raw (.slice as0 t.slots.length ns), .raw (.int .i64 t.next), .raw (.int .i64 t.count)]) tyS36 m3.third (by unfold bkraws; rw [show (blk l1 v.num.toNat).tab = t by rw [hb1]; exact htt]; rfl) rfl (by omega) fun ys r => ?_
  obtain rfl : ys = [.bool t.hashed, .slice ah t.heads.length nh, .slice as0 t.slots.length ns, .int .i64 t.next, .int .i64 t.count] := RdL.of_raws (us := [.bool t.hashed, .slice ah t.heads.length nh, .slice as0 t.slots.length ns, .int .i64 t.next, .int .i64 t.count]) r
  try simp only [go_sem, Nat.reduceBEq, Nat.reduceAdd, Nat.reduceLeDiff]
  refine regionD_intro (lb := [46]) (by kernel_rfl) ?_
  simp only [go_sem, Nat.reduceBEq]
  refine Hold.ld1 (i := 0) Hold.ptr tyS58 m3.fourth rfl rfl ?_
  simp only [ix_int q1 q3, go_sem, Nat.reduceBEq]
  refine bk_store hd (u := bk0) tyS107 rfl ((m3.third.nilrow (z := 10)).nilrow (z := 1)) (by omega) fun h4 m4 => ?_
  have hs0 := slotsN_set (l := l) q2 bk0
  have hs1 : bk0.tab.slots.length = 0 := rfl
  rw [htt] at hs0
  have hin2 : hIn N 1099511627776 (l.set v.num.toNat bk0) := hin.set _ (.inr rfl) ⟨Int.le_refl _, by decide⟩
  rw [hc, hl2, hlen1] at m4
  have hlen2 : (l.set v.num.toNat bk0).length = l.length := List.length_set
  generalize l.set v.num.toNat bk0 = l2 at *
  rw [← hlen2] at m4
  have m4 : My h0 h4 (HpB l2 (some ⟨b, 0, none⟩) n bp ((.row 1 (t.heads.flatMap idt), .slice ah t.heads.length nh) :: (.row 10 (t.slots.flatMap Sl.dt), .slice as0 t.slots.length ns) :: R)) := m4.fourth.swap
  try simp only [go_sem, Nat.reduceBEq]
  refine aloop (ι := Nat) (fun k => [(52, .val (.int .i64 (k : Nat))), (51, .val (.int .i64 (t.slots.length : Nat))), (50, .val (.slice as0 t.slots.length ns)), (0, .val (.pointer (some ⟨bp, 0, none⟩)))]) (fun _ => [])
    (fun k h' => k ≤ t.slots.length ∧ My h0 h' (HpB (dropS (dropF f) l2 (t.slots.take k)) (some ⟨b, 0, none⟩) n bp ((.row 1 (t.heads.flatMap idt), .slice ah t.heads.length nh) :: (.row 10 (t.slots.flatMap Sl.dt), .slice as0 t.slots.length ns) :: R))) (fun k => t.slots.length - k) 0
    ⟨Nat.zero_le _, m4⟩ (by repeat (first | exact wkF_e | refine wkF_c rfl ?_)) wkB_e rfl ?_
  rintro k h6 ⟨hk, m6⟩
  have hk : k ≤ t.slots.length := hk
  have m6 : My h0 h6 (HpB (dropS (dropF f) l2 (t.slots.take k)) (some ⟨b, 0, none⟩) n bp ((.row 1 (t.heads.flatMap idt), .slice ah t.heads.length nh) :: (.row 10 (t.slots.flatMap Sl.dt), .slice as0 t.slots.length ns) :: R)) := m6
  try simp only [go_sem, Nat.reduceBEq]
  refine Br.intro (fun hq => ?_) (fun hq => ?_) <;> (try simp only [hq, go_sem, Nat.reduceBEq])
  · have hq : k < t.slots.length := by simpa using hq
    obtain ⟨e, he, hme⟩ := get_lt hq
    have wsu := wrap_succ (i := k) (by omega)
    have rs : Rd h6 (.row 10 (t.slots.flatMap Sl.dt)) (.slice as0 t.slots.length ns) := m6.fourth.rd
    obtain ⟨_, _, xs, eq, _, hrs, hats⟩ := rs.rows (by decide) t.slots.length (fm_len Sl.dt_len _)
    cases eq
    obtain ⟨b4, o4, rfl, hatq⟩ := hats (by omega)
    have hsub : ∀ s ∈ t.slots.take k, s.live = true → s.val.kind = 5 → 0 ≤ s.val.num ∧ s.val.num.toNat < N := fun s q => kids s (List.mem_of_mem_take q)
    obtain ⟨i1, i2⟩ := drops_in f (t.slots.take k) l2 hsub hin2
    simp only [ix_nat hq, go_sem, Nat.reduceBEq]
    refine hsem_slot tyS134 hatq hrs he rfl fun s5 rd5 => ?_
    obtain ⟨a6, c6, _, rfl, _⟩ := rd5.rows (by decide) e.val.items.length (fm_len edt_len _)
    cases hv : e.live with
    | false =>
      try simp only [wsu, go_sem, Nat.reduceBEq, Nat.reduceAdd, Nat.reduceLeDiff]
      exact Again.intro (k + 1) (by first | omega | (simp only; omega)) ⟨hq, by rw [dropS_snoc he, hv]; exact m6⟩ (by repeat (first | exact wkF_e | refine wkF_c rfl ?_)) wkB_e rfl
    | true =>
      try simp only [go_sem, Nat.reduceBEq, Nat.reduceAdd, Nat.reduceLeDiff]
      refine (ih _ e.val (by omega) i1 (fun q => kids e hme hv q) _ _ _ _ _ _ _ h0 _ m6).mono ?_
      rintro _ h7 ⟨rfl, m7⟩
      try simp only [wsu, go_sem, Nat.reduceBEq]
      exact Again.intro (k + 1) (by first | omega | (simp only; omega)) ⟨hq, by rw [dropS_snoc he, hv, if_pos rfl]; exact m7⟩ (by repeat (first | exact wkF_e | refine wkF_c rfl ?_)) wkB_e rfl
  · have hq : k = t.slots.length := by simp at hq; omega
    subst hq
    rw [List.take_length] at m6
    try simp only [go_sem, Nat.reduceBEq, Nat.reduceAdd, Nat.reduceLeDiff, Nat.reduceEqDiff, Int.reduceEq, not_false_eq_true, Int.reduceToNat]
    exact ⟨rfl, m6.third.drop.third.drop⟩
theorem iDrop (N : Nat) : ∀ f, f ≤ 1099511627776 → DropI N f
  | 0, _ => fun l v hs => absurd hs (Nat.not_lt_zero _)
  | f + 1, hf => iDrop_s N f (iDrop N f (by omega)) hf
def DropS (N f : Nat) : Prop := ∀ (l : List Bk) (v : V), slotsN l < f → hIn N 1099511627776 l → refIn N v → ∀ (av : Option Addr) (nv cv : Nat) (a : Option Addr) (n bp : Nat) (R : Bag) (h0 h : Hp), My h0 h (HpB l a n bp R) → ACalls Tryz.prog 94 #[.pointer (some ⟨bp, 0, none⟩), .agg #[.int .i64 v.kind, .int .i64 v.num, .string v.str, .int .i64 v.next, .slice av nv cv]] h (HpW h0 (dropF f l v) a n bp R)
set_option maxHeartbeats 1600000 in
theorem sDrop_s (N f : Nat) (ih : DropS N f) (hf : f + 1 ≤ 1099511627776) : DropS N (f + 1) := by
  intro l v hs hin hr av nv cv a n bp R h0 h my
  have hl := hin.len
  (refine enter Tryz.func94 rfl rfl (by kernel_rfl) [] ?_; simp only [go_sem, Nat.reduceBEq])
  by_cases h5 : v.kind = 5
  case neg =>
    simp only [decide_eq_false h5, Bool.not_false, go_sem]
    exact ⟨rfl, by rw [dropF_other h5]; exact my⟩
  obtain ⟨q1, q2⟩ := hr h5
  obtain ⟨⟨w1, w2⟩, kids⟩ := hin.blk q2
  rw [← hl] at q2
  have hw : IntKind.i64.wrap ((blk l v.num.toNat).count - 1) = (blk l v.num.toNat).count - 1 := IntWalk.i64_in _ (by omega)
  have my : My h0 h ((.row 6 (l.flatMap Bk.dt), .slice a l.length n) :: (.ptr [] [.raw (.slice a l.length n)] [], .pointer (some ⟨bp, 0, none⟩)) :: R) := my
  obtain ⟨_, _, es, _, _, hat⟩ := my.row_shape (by decide) l.length (fm_len Bk.dt_len _)
  cases es
  obtain ⟨b, rfl⟩ := hat (by omega)
  simp only [decide_eq_true h5, Bool.not_true, go_sem]
  refine regionD_intro (lb := [14, 20]) (by kernel_rfl) ?_
  simp only [go_sem, Nat.reduceBEq]
  refine Hold.ld1 (i := 0) Hold.ptr tyS58 my.swap rfl rfl ?_
  simp only [go_sem, Nat.reduceBEq]
  refine Hold.ld1 (i := 0) Hold.ptr tyS58 my.swap rfl rfl ?_
  simp only [ix_int q1 q2, go_sem, Nat.reduceBEq]
  refine bcnt_ld q2 tyS3 my (by omega) ?_
  simp only [ix_int q1 q2, hw, go_sem, Nat.reduceBEq]
  refine bcnt_st _ q2 tyS3 my (by omega) fun h2 m2 => ?_
  have hlen1 : (l.set v.num.toNat ((blk l v.num.toNat).withC ((blk l v.num.toNat).count - 1))).length = l.length := List.length_set
  have hb1 : blk (l.set v.num.toNat ((blk l v.num.toNat).withC ((blk l v.num.toNat).count - 1))) v.num.toNat = (blk l v.num.toNat).withC ((blk l v.num.toNat).count - 1) := blk_set_same q2
  have hl2 : (l.set v.num.toNat ((blk l v.num.toNat).withC ((blk l v.num.toNat).count - 1))).set v.num.toNat bk0 = l.set v.num.toNat bk0 := List.set_set _
  have hkeep := dropF_keep (f := f) (l := l) h5
  generalize l.set v.num.toNat ((blk l v.num.toNat).withC ((blk l v.num.toNat).count - 1)) = l1 at *
  have q3 : v.num.toNat < l1.length := by omega
  rw [← hlen1] at m2
  try simp only [go_sem]
  try rw [← hlen1]
  refine regionD_intro (lb := [32]) (by kernel_rfl) ?_
  simp only [go_sem, Nat.reduceBEq]
  refine Hold.ld1 (i := 0) Hold.ptr tyS58 m2.swap rfl rfl ?_
  simp only [ix_int q1 q3, go_sem, Nat.reduceBEq]
  refine bcnt_ld q3 tyS3 m2 (by omega) ?_
  rw [show (blk l1 v.num.toNat).count = (blk l v.num.toNat).count - 1 by rw [hb1]; rfl]
  try simp only [go_sem, Nat.reduceBEq]
  refine Br.intro (fun hp => ?_) (fun hp => ?_) <;> (try simp only [hp, go_sem])
  · have hp : 0 < (blk l v.num.toNat).count - 1 := by simpa using hp
    refine ⟨rfl, ?_⟩
    rw [hkeep hp]
    exact m2
  have hp : ¬ 0 < (blk l v.num.toNat).count - 1 := by simpa using hp
  rw [dropF_gone h5 hp]
  refine regionD_intro (lb := [42]) (by kernel_rfl) ?_
  simp only [go_sem, Nat.reduceBEq]
  refine Hold.ld1 (i := 0) Hold.ptr tyS58 m2.swap rfl rfl ?_
  obtain ⟨c, ah, nh, as0, ns, hd, hc, m3⟩ := bk_open q3 m2
  rw [show (blk l1 v.num.toNat).tab = (blk l v.num.toNat).tab by rw [hb1]; rfl] at m3
  generalize htt : (blk l v.num.toNat).tab = t at *
  simp only [ix_int q1 q3, go_sem, Nat.reduceBEq, Nat.reduceAdd]
  refine hd.ld1 (i := 3) tyS34 m3.third rfl (by omega) ?_
  try simp only [go_sem, Nat.reduceBEq]
  refine regionD_intro (lb := [52]) (by kernel_rfl) ?_
  simp only [go_sem, Nat.reduceBEq]
  refine Hold.ld1 (i := 0) Hold.ptr tyS58 m3.fourth rfl rfl ?_
  simp only [ix_int q1 q3, go_sem, Nat.reduceBEq]
  refine bk_store hd (u := bk0) tyS107 rfl ((m3.third.nilrow (z := 10)).nilrow (z := 1)) (by omega) fun h4 m4 => ?_
  have hs0 := slotsN_set (l := l) q2 bk0
  have hs1 : bk0.tab.slots.length = 0 := rfl
  rw [htt] at hs0
  have hin2 : hIn N 1099511627776 (l.set v.num.toNat bk0) := hin.set _ (.inr rfl) ⟨Int.le_refl _, by decide⟩
  rw [hc, hl2, hlen1] at m4
  have hlen2 : (l.set v.num.toNat bk0).length = l.length := List.length_set
  generalize l.set v.num.toNat bk0 = l2 at *
  rw [← hlen2] at m4
  have m4 : My h0 h4 (HpB l2 (some ⟨b, 0, none⟩) n bp ((.row 1 (t.heads.flatMap idt), .slice ah t.heads.length nh) :: (.row 10 (t.slots.flatMap Sl.dt), .slice as0 t.slots.length ns) :: R)) := m4.fourth.swap
  try simp only [go_sem]
  refine aloop (ι := Nat) (fun k => [(5, .val (.int .i64 (k : Nat))), (4, .val (.slice as0 t.slots.length ns)), (0, .val (.pointer (some ⟨bp, 0, none⟩)))]) (fun _ => [])
    (fun k h' => k ≤ t.slots.length ∧ My h0 h' (HpB (dropS (dropF f) l2 (t.slots.take k)) (some ⟨b, 0, none⟩) n bp ((.row 1 (t.heads.flatMap idt), .slice ah t.heads.length nh) :: (.row 10 (t.slots.flatMap Sl.dt), .slice as0 t.slots.length ns) :: R))) (fun k => t.slots.length - k) 0
    ⟨Nat.zero_le _, m4⟩ (by repeat (first | exact wkF_e | refine wkF_c rfl ?_)) wkB_e rfl ?_
  rintro k h6 ⟨hk, m6⟩
  have hk : k ≤ t.slots.length := hk
  have m6 : My h0 h6 (HpB (dropS (dropF f) l2 (t.slots.take k)) (some ⟨b, 0, none⟩) n bp ((.row 1 (t.heads.flatMap idt), .slice ah t.heads.length nh) :: (.row 10 (t.slots.flatMap Sl.dt), .slice as0 t.slots.length ns) :: R)) := m6
  try simp only [go_sem, Nat.reduceBEq]
  refine Br.intro (fun hq => ?_) (fun hq => ?_) <;> (try simp only [hq, go_sem, Nat.reduceBEq])
  · have hq : k < t.slots.length := by simpa using hq
    obtain ⟨e, he, hme⟩ := get_lt hq
    have wsu := wrap_succ (i := k) (by omega)
    have rs : Rd h6 (.row 10 (t.slots.flatMap Sl.dt)) (.slice as0 t.slots.length ns) := m6.fourth.rd
    obtain ⟨_, _, xs, eq, _, hrs, hats⟩ := rs.rows (by decide) t.slots.length (fm_len Sl.dt_len _)
    cases eq
    obtain ⟨b4, o4, rfl, hatq⟩ := hats (by omega)
    have hsub : ∀ s ∈ t.slots.take k, s.live = true → s.val.kind = 5 → 0 ≤ s.val.num ∧ s.val.num.toNat < N := fun s q => kids s (List.mem_of_mem_take q)
    obtain ⟨i1, i2⟩ := drops_in f (t.slots.take k) l2 hsub hin2
    simp only [ix_nat hq, go_sem, Nat.reduceBEq, Nat.reduceAdd]
    refine hsem_slive tyS4 hatq hrs he rfl ?_
    cases hv : e.live with
    | false =>
      try simp only [wsu, go_sem, Nat.reduceBEq]
      exact Again.intro (k + 1) (by first | omega | (simp only; omega)) ⟨hq, by rw [dropS_snoc he, hv]; exact m6⟩ (by repeat (first | exact wkF_e | refine wkF_c rfl ?_)) wkB_e rfl
    | true =>
      simp only [ix_nat hq, go_sem, Nat.reduceBEq, Nat.reduceAdd]
      refine hsem_sval tyS44 hatq hrs he rfl fun s5 rd5 => ?_
      obtain ⟨a6, c6, _, rfl, _⟩ := rd5.rows (by decide) e.val.items.length (fm_len edt_len _)
      try simp only [go_sem, Nat.reduceBEq]
      refine (ih _ e.val (by omega) i1 (fun q => kids e hme hv q) _ _ _ _ _ _ _ h0 _ m6).mono ?_
      rintro _ h7 ⟨rfl, m7⟩
      try simp only [wsu, go_sem, Nat.reduceBEq]
      exact Again.intro (k + 1) (by first | omega | (simp only; omega)) ⟨hq, by rw [dropS_snoc he, hv, if_pos rfl]; exact m7⟩ (by repeat (first | exact wkF_e | refine wkF_c rfl ?_)) wkB_e rfl
  · have hq : k = t.slots.length := by simp at hq; omega
    subst hq
    rw [List.take_length] at m6
    try simp only [go_sem, Nat.reduceBEq, Nat.reduceAdd, Nat.reduceLeDiff, Nat.reduceEqDiff, Int.reduceEq, not_false_eq_true, Int.reduceToNat]
    exact ⟨rfl, m6.third.drop.third.drop⟩
theorem sDrop (N : Nat) : ∀ f, f ≤ 1099511627776 → DropS N f
  | 0, _ => fun l v hs => absurd hs (Nat.not_lt_zero _)
  | f + 1, hf => sDrop_s N f (sDrop N f (by omega)) hf
end Go.Proofs.YtedfplodobpgfaaGreatDoor
/-! What a write into a shared heap needs. -/
namespace Go.Sx
open Go
theorem gsum_le {α : Type} {w : α → Nat} {M : Nat} : ∀ {l : List α}, (∀ a ∈ l, w a ≤ M) → gsum w l ≤ l.length * M
  | [], _ => by simp [gsum]
  | a :: r, h => by
    have h1 := h a (by simp)
    have h2 := gsum_le (w := w) (M := M) (l := r) fun b hb => h b (by simp [hb])
    have e : gsum w (a :: r) = w a + gsum w r := by simp [gsum]
    rw [e, List.length_cons, Nat.add_mul]
    omega
theorem sInv.slots {c : Int} {L B : Nat} {l : List Bk} (h : sInv c L B l) : slotsN l ≤ l.length * 1024 := gsum_le fun b hb => by
  obtain ⟨i, hi⟩ := List.getElem?_of_mem hb
  exact (h.ch i b hi).len
/-- a value as a heap holds it -/
def Hv (v : V) : Prop := v.items = [] ∧ (v.kind = 5 → v = hnd v.num.toNat)
theorem held_hv {l : List Bk} {v : V} (h : isHeld l v = true) : Hv v := ⟨(held_items h).1, fun k => by
  have e := held_form h k
  have n := (held_num h k).1
  rw [e]
  unfold hnd
  congr 1
  exact (Int.toNat_of_nonneg n).symm⟩
theorem hnd_num (i : Nat) : (hnd i).num = (i : Nat) := rfl
theorem hv_zero : Hv V.zero := ⟨rfl, fun h => absurd h (by decide)⟩
theorem inner_hv {l : List Bk} (h : inR l) (v : V) (k : Ky) : Hv (inner0 l v k) := by
  unfold inner0
  split
  · cases hf : (blk l v.num.toNat).tab.find k with
    | some j =>
      obtain ⟨s, hs, hl⟩ := Tb.find_live hf
      rw [innerH_some hf hs]
      by_cases hi : v.num.toNat < l.length
      · exact held_hv (h _ _ (blk_at hi) j s hs hl)
      · rw [blk_out (by omega)] at hs
        simp [bk0] at hs
    | none =>
      rw [innerH_none hf]
      exact hv_zero
  · exact hv_zero
theorem push_ok {l0 : List Bk} (hC : allCh l0) {v : V} (po : v.kind = 0 ∨ (v.kind = 5 ∧ (blk l0 v.num.toNat).tab.next ≤ 1000000000)) : keyOk ⟨false, (tab0 l0 v).next, ⟨#[]⟩⟩ = true := by
  have hn : 0 ≤ (tab0 l0 v).next ∧ (tab0 l0 v).next ≤ 1000000000 := by
    unfold tab0
    rcases po with h0 | ⟨h5, hn⟩
    · rw [if_neg (by omega)]
      exact ⟨Int.le_refl _, by decide⟩
    · rw [if_pos h5]
      exact ⟨((hC.blk v.num.toNat).next).1, hn⟩
  exact push_key hn.1 hn.2
section
variable {l : List Bk} {rs : List V} {i j : Int} {p : List Ky} {push : Bool}
theorem setSh_no1 (h : inRg rs i = false) : setSh l rs i p push j = (l, V.zero, 5) := by
  unfold setSh setShOk
  rw [h]
  rfl
theorem setSh_no2 (h : inRg rs j = false) : setSh l rs i p push j = (l, V.zero, 5) := by
  unfold setSh setShOk
  rw [h, Bool.false_and, Bool.and_false]
  rfl
theorem setSh_no3 (h : countedB l rs = false) : setSh l rs i p push j = (l, V.zero, 5) := by
  unfold setSh setShOk
  rw [h, Bool.false_and, Bool.and_false, Bool.and_false]
  rfl
theorem setSh_no4 (h : p.all keyOk = false) : setSh l rs i p push j = (l, V.zero, 5) := by
  unfold setSh setShOk
  rw [h, Bool.and_false, Bool.and_false, Bool.and_false]
  rfl
theorem setSh_code (h : setShOk l rs i p j = true) (k : ¬ shC l (root rs i) p push (root rs j) = 0) : setSh l rs i p push j = (l, root rs i, shC l (root rs i) p push (root rs j)) := by
  unfold setSh
  rw [if_pos h, if_neg k]
theorem setSh_go (h : setShOk l rs i p j = true) (k : shC l (root rs i) p push (root rs j) = 0) : setSh l rs i p push j = ((wrH p (shareH l (root rs j)) (root rs i) push (root rs j)).1, (wrH p (shareH l (root rs j)) (root rs i) push (root rs j)).2, 0) := by
  unfold setSh
  rw [if_pos h, if_pos k]
end
section
variable {P : Program} {h0 h : Hp} {K : Value → Hp → Prop} {bag : Bag}
/-- an own row of nothing has no room -/
theorem My.cap0 {z : Nat} {a : Option Addr} {n : Nat} (m : My h0 h ((.row z [], .slice a 0 n) :: bag)) : n = 0 := by
  obtain ⟨B1, B2, l1, _⟩ := My.cons_iff.1 m
  simp only [Ow] at l1
  obtain ⟨xs, C1, C2, o1, o2, rfl⟩ := l1
  cases o1 with
  | nil => rfl
  | row hb hn hm hz hl ht h1 hp => omega
theorem My.noitems {x : V} (m : My h0 h bag) (hx : x.items = []) (a : Option Addr) : My h0 h ((.row 8 (x.items.flatMap edt), .slice a x.items.length 0) :: bag) := by
  rw [hx]
  exact m.nilrow
theorem My.capI {x : V} {a : Option Addr} {n : Nat} (hx : x.items = []) (m : My h0 h ((.row 8 (x.items.flatMap edt), .slice a x.items.length n) :: bag)) : n = 0 := by
  rw [hx] at m
  exact My.cap0 (z := 8) m
theorem val_zip (w : V) {sl : Value} (m : My h0 h ((.row 8 (w.items.flatMap edt), sl) :: bag)) : My h0 h (w.dt.zip [.int .i64 w.kind, .int .i64 w.num, .string w.str, .int .i64 w.next, sl] ++ bag) := by
  rw [V.dt_eq]
  simp only [List.zip_cons_cons, List.zip_nil_right, List.cons_append, List.nil_append, My.raw_iff, one_int, one_str, and_self, true_and]
  exact m
/-- a heap's table is opened: its rows are taken out -/
theorem tab_at {l : List Bk} {b cap i : Nat} (hi : i < l.length) (m : My h0 h ((.row 6 (l.flatMap Bk.dt), .slice (some ⟨b, 0, none⟩) l.length cap) :: bag)) : ∃ c a n a' n',
    My h0 h ((.row 1 ((blk l i).tab.heads.flatMap idt), .slice a (blk l i).tab.heads.length n) :: (.row 10 ((blk l i).tab.slots.flatMap Sl.dt), .slice a' (blk l i).tab.slots.length n') :: (c (traws (blk l i).tab (.slice a (blk l i).tab.heads.length n) (.slice a' (blk l i).tab.slots.length n')), .slice (some ⟨b, 0, none⟩) l.length cap) :: bag) ∧
    Hold c (.slice (some ⟨b, 0, none⟩) l.length cap) b (i * 6 + 1) ∧ ∀ t : Tb, c t.dt = .row 6 ((l.set i ((blk l i).withT t)).flatMap Bk.dt) := by
  obtain ⟨c, hd, hc⟩ := hold_btab (b := b) (cap := cap) hi
  have m1 : My h0 h ((c (blk l i).tab.dt, .slice (some ⟨b, 0, none⟩) l.length cap) :: bag) := by
    rw [hc, withT_self, set_blk hi]
    exact m
  obtain ⟨a, n, a', n', m2⟩ := tb_open hd m1
  exact ⟨c, a, n, a', n', m2, hd, hc⟩
/-- the value of a slot, its items none -/
theorem slot_ld {ss : List Sl} {j : Nat} {s : Sl} {b cap : Nat} (hs : ss[j]? = some s) (hi : s.val.items = []) (m : My h0 h ((.row 10 (ss.flatMap Sl.dt), .slice (some ⟨b, 0, none⟩) ss.length cap) :: bag)) :
    ∃ a, ∀ (t i : Nat) (K : Value → Hp → Prop), tyS P t = some (true, 5) → i = j * 10 + 3 → K (.agg #[.int .i64 s.val.kind, .int .i64 s.val.num, .string s.val.str, .int .i64 s.val.next, .slice a 0 0]) h → HPure P (ldI t (.pointer (some ⟨b, i, none⟩))) h K := by
  obtain ⟨f1, f2⟩ := fm_split Sl.dt_len hs
  rw [f1] at m
  obtain ⟨a, n, m1⟩ := slot_open m
  rw [hi] at m1
  have hn : n = 0 := My.cap0 (z := 8) (by simpa using m1)
  subst hn
  have hl := lt_of_get hs
  refine ⟨a, fun t i K ht hj k => hsem_srwV ht m1.drop (by omega) (by rw [f2]; exact hj) k⟩
/-- a value whose items are taken out -/
def vrw (v : V) (u : Value) : List Value := [.int .i64 v.kind, .int .i64 v.num, .string v.str, .int .i64 v.next, u]
/-- values that lie in memory: where one has no items, its slice has no room -/
def CapR (h : Hp) (rs : List V) (u : Value) : Prop := ∀ (i : Nat) (v : V), rs[i]? = some v → v.items = [] → ∃ a, Rd h (.row 5 ((rs.take i).flatMap V.dt ++ ((vrw v (.slice a 0 0)).map .raw ++ (rs.drop (i + 1)).flatMap V.dt))) u
theorem CapR.mono {h' : Hp} {rs : List V} {u : Value} (c : CapR h rs u) (e : Ext h h') : CapR h' rs u := fun i v hi h0 => by
  obtain ⟨a, r⟩ := c i v hi h0
  exact ⟨a, r.mono e⟩
theorem My.cap {rs : List V} {u : Value} (m : My h0 h ((.row 5 (rs.flatMap V.dt), u) :: bag)) : CapR h rs u := fun i v hi hz => by
  obtain ⟨f1, f2⟩ := fm_split V.dt_len hi
  rw [f1, V.dt_eq] at m
  obtain ⟨w, m1⟩ := m.openAt (j := 4) rfl
  obtain ⟨a, n, rfl, _⟩ := m1.row_shape (by decide) v.items.length (fm_len edt_len _)
  rw [hz] at m1
  have hn : n = 0 := My.cap0 (z := 8) (by simpa using m1)
  subst hn
  exact ⟨a, m1.drop.rd⟩
theorem CapR.ld {rs : List V} {i b o len cap : Nat} {v : V} (c : CapR h rs (.slice (some ⟨b, o, none⟩) len cap)) (hi : rs[i]? = some v) (hz : v.items = []) :
    ∃ a, ∀ (t j : Nat) (K : Value → Hp → Prop), tyS P t = some (true, 5) → j = o + i * 5 → K (.agg #[.int .i64 v.kind, .int .i64 v.num, .string v.str, .int .i64 v.next, .slice a 0 0]) h → HPure P (ldI t (.pointer (some ⟨b, j, none⟩))) h K := by
  obtain ⟨a, r⟩ := c i v hi hz
  have hl := lt_of_get hi
  obtain ⟨f1, f2⟩ := fm_split V.dt_len hi
  have hlen : ((rs.take i).flatMap V.dt ++ ((vrw v (.slice a 0 0)).map Dt.raw ++ (rs.drop (i + 1)).flatMap V.dt)).length = rs.length * 5 := by
    rw [List.length_append, f2, List.length_append, fm_len V.dt_len, List.length_drop]
    show i * 5 + (5 + _) = _
    omega
  refine ⟨a, fun t j K ht hj k => ?_⟩
  obtain ⟨a', c', xs, e, _, hr, hat⟩ := r.rows (by decide) rs.length hlen
  cases e
  obtain ⟨b', o', e2, hat⟩ := hat (by omega)
  cases e2
  refine hsem_getN ht hat hr (i := i * 5) (ds := (vrw v (.slice a 0 0)).map .raw) ?_ rfl hj fun ys q => ?_
  · rw [← f2, List.drop_left]
    rfl
  · rw [q.of_raws]
    exact k
end
section
variable {P : Program} {hm : List Nat} {l : List Oper} {K : Fr → Bx → Hp → Prop} {fr : Fr} {bx : Bx} {h : Hp}
/-- a variable that the region makes is seen behind it; some loads stand still -/
theorem regionP_still {lb pl hm' : List Nat} (d : Nat) (hS : Hp) (hE : Ext hS h) (hok : okDraw P hm' lb pl l.toArray = true) (hr : arun P ⟨hm', lb, pl, some hS⟩ l.toArray l (prom d K) fr bx h) : regionDD P hm l K fr bx h :=
  .inr (.inr ⟨d, ⟨hm', lb, pl, some hS⟩, hE, hok, hr⟩)
end
end Go.Sx
namespace Go.Proofs.YtedfplodobpgfaaGreatDoor
set_option maxRecDepth 8000
open Go Go.Sx
theorem range9 : List.range 9 = [0, 1, 2, 3, 4, 5, 6, 7, 8] := by decide
theorem range9b : List.range' 9 (10 - 9) = [9] := by decide
theorem pickO_n {ops : Array Oper} : pickO ops [] = [] := rfl
def pickS (o : Option Oper) (r : List Oper) : List Oper := match o with
  | some o => o :: r
  | none => r
theorem pick_s {o : Oper} {r : List Oper} : pickS (some o) r = o :: r := rfl
theorem pickO_c {ops : Array Oper} {i : Nat} {r : List Nat} : pickO ops (i :: r) = pickS ops[i]? (pickO ops r) := by
  rw [pickO]
  cases ops[i]? <;> rfl
theorem iPutKey {c : List Dt → Dt} {val : Value} {b off : Nat} (hd : Hold c val b off) (v : V) (k : Ky) (x : V) (hl : v.items.length ≤ 1099511627776) (ax : Option Addr) (lx cx : Nat) (h0 h : Hp) (R : Bag) (m : My h0 h ((.row 8 (x.items.flatMap edt), .slice ax lx cx) :: (c v.dt, val) :: R)) :
    ACalls Tryz.prog 164 #[.pointer (some ⟨b, off, none⟩), .agg #[.bool k.text, .int .i64 k.num, .string k.str], .agg #[.int .i64 x.kind, .int .i64 x.num, .string x.str, .int .i64 x.next, .slice ax lx cx]] h (fun u h' => u = .tuple #[] ∧ My h0 h' ((c (v.setKey k x).dt, val) :: R)) := by
  (refine enter Tryz.func164 rfl rfl (by kernel_rfl) [] ?_; simp only [go_sem, Nat.reduceBEq])
  refine regionD_intro (lb := [10]) (by kernel_rfl) ?_
  simp only [go_sem, Nat.reduceBEq]
  refine var_load hd m.swap rfl fun sv rv => ?_
  simp only [go_sem, Nat.reduceBEq, Nat.reduceAdd, Nat.reduceLeDiff]
  (refine (iFindKey v k hl _ _ rv).mono ?_; rintro _ _ ⟨rfl, rfl⟩; simp only [go_sem, Nat.reduceBEq])
  obtain ⟨av, cv, m1⟩ := var_open hd m.swap
  obtain ⟨av', cv', e5, hcc, hcm, hat⟩ := m1.row_shape (by decide) v.items.length (fm_len edt_len _)
  cases e5
  cases hf : v.find k with
  | some i =>
    obtain ⟨y, hx, hg, hlt⟩ := V.find_get hf
    have es : v.setKey k x = v.withItems (v.items.take i ++ (k, x) :: v.items.drop (i + 1)) := by
      unfold V.setKey V.setAt
      rw [hf]
      simp only [hx]
    rw [es]
    obtain ⟨b5, rfl⟩ := hat (by omega)
    simp only [ixI_some, go_sem]
    refine Br.intro (fun hz => ?_) (fun hz => ?_) <;> (try simp only [hz, go_sem])
    case refine_2 => exact absurd (of_decide_eq_false hz) (by omega)
    refine regionD_intro (lb := [19]) (by kernel_rfl) ?_
    simp only [go_sem, Nat.reduceBEq, Nat.reduceAdd]
    refine var_ldItems hd m1.drop rfl ?_
    simp only [ix_nat hlt, go_sem, Nat.reduceBEq, Nat.reduceAdd, Nat.reduceLeDiff]
    obtain ⟨c6, hd6, hc6⟩ := hold_item (b := b5) (cap := cv) hx
    have hself : v.items.take i ++ (k, y) :: v.items.drop (i + 1) = v.items := by rw [← drop_cons hx, List.take_append_drop]
    have m2 : My h0 h ((.row 8 (x.items.flatMap edt), .slice ax lx cx) :: (c6 y.dt, .slice (some ⟨b5, 0, none⟩) v.items.length cv) :: (c (vraws v (.slice (some ⟨b5, 0, none⟩) v.items.length cv)), val) :: R) := by
      rw [hc6, hself]
      exact m1.third
    refine var_store hd6 (w := x) (V.dt_len y) m2 rfl fun h3 m3 => ?_
    rw [hc6] at m3
    simp only [go_sem]
    exact var_close (v := v.withItems (v.items.take i ++ (k, x) :: v.items.drop (i + 1))) hd m3
  | none =>
    have es : v.setKey k x = ⟨v.kind, v.num, v.str, if k.text then v.next else max v.next (IntKind.i64.wrap (k.num + 1)), v.items ++ [(k, x)]⟩ := by
      unfold V.setKey
      rw [hf]
    rw [es]
    simp only [ixI_none, go_sem]
    refine Br.intro (fun hz => ?_) (fun hz => ?_) <;> (try simp only [hz, go_sem])
    case refine_1 => exact absurd (of_decide_eq_true hz) (by decide)
    refine regionS_intro (lb := [26, 27]) (pl := [25]) 9 10 11 14 [10, 11, 12, 13, 14] [12, 13, 14, 10, 11] (by kernel_rfl) ?_
    simp only [range9, range9b, pickO_c, pickO_n, pick_s, List.getElem?_toArray, List.getElem?_cons_succ, List.getElem?_cons_zero, go_sem, Nat.reduceBEq, Nat.reduceAdd]
    refine var_ldItems hd m1.drop rfl ?_
    simp only [go_sem, Nat.reduceBEq, Nat.reduceAdd, Nat.reduceLeDiff]
    refine hsem_my_lit (h0 := h) (es := [.raw (.bool false), .raw (.int .i64 0), .raw (.string ⟨#[]⟩), .raw (.int .i64 0), .raw (.int .i64 0), .raw (.string ⟨#[]⟩), .raw (.int .i64 0), .raw (.slice none 0 0)]) (parts := [(0, .agg #[.bool false, .int .i64 0, .string ⟨#[]⟩, .int .i64 0, .int .i64 0, .string ⟨#[]⟩, .int .i64 0, .slice none 0 0])]) slT42 (by decide) (by decide) (by decide) rfl rfl (by simp [Value.cells]) (bag := []) ?_ rfl rfl fun l4 h4 m4 => ?_
    · simp only [flat, List.flatMap_cons, List.flatMap_nil, List.append_nil, cells_agg, List.zip_cons_cons, List.zip_nil_right, My.raw_iff, one_bool, one_int, one_str, one_sl, and_self, true_and]
      exact My.nil (Ext.refl h)
    simp only [go_sem, Nat.reduceBEq]
    refine ⟨m4.ext, ?_⟩
    have M4 : My h0 h4 ((.row 8 [.raw (.bool false), .raw (.int .i64 0), .raw (.string ⟨#[]⟩), .raw (.int .i64 0), .raw (.int .i64 0), .raw (.string ⟨#[]⟩), .raw (.int .i64 0), .raw (.slice none 0 0)], l4) :: (.row 8 (v.items.flatMap edt), .slice av v.items.length cv) :: (c (vraws v (.slice av v.items.length cv)), val) :: (.row 8 (x.items.flatMap edt), .slice ax lx cx) :: R) := m1.add m4
    refine hsem_my_append slT42 (by decide) rfl v.items.length 1 M4.swap (fm_len edt_len _) rfl (by show (v.items.length + 1) * 96 ≤ _; omega) (by omega) fun l5 h5 m5 => ?_
    obtain ⟨a6, c6, rfl, hcc6, hcm6, hat6⟩ := m5.row_shape (by decide) (v.items.length + 1) (by rw [List.length_append, fm_len edt_len]; show _ + 8 = (v.items.length + 1) * 8; omega)
    obtain ⟨b6, rfl⟩ := hat6 (by omega)
    have hd7 : Hold (fun y => .row 8 (v.items.flatMap edt ++ (y ++ []))) (.slice (some ⟨b6, 0, none⟩) (v.items.length + 1) c6) b6 (v.items.flatMap edt).length := Hold.row (by omega)
    have ix6 := ix_nat (z := 8) (b := b6) (off := 0) (show v.items.length < v.items.length + 1 by omega)
    have toZip : ∀ {h' : Hp} {u : Value}, My h0 h' ((.row 8 (x.items.flatMap edt), .slice ax lx cx) :: (.row 8 (v.items.flatMap edt ++ [.raw (.bool false), .raw (.int .i64 0), .raw (.string ⟨#[]⟩), .raw (.int .i64 0), .raw (.int .i64 0), .raw (.string ⟨#[]⟩), .raw (.int .i64 0), .raw (.slice none 0 0)]), .slice (some ⟨b6, 0, none⟩) (v.items.length + 1) c6) :: (c (vraws v u), val) :: R) →
        My h0 h' ((edt (k, x)).zip (Value.agg #[.bool k.text, .int .i64 k.num, .string k.str, .int .i64 x.kind, .int .i64 x.num, .string x.str, .int .i64 x.next, .slice ax lx cx]).cells.toList ++ ((.row 8 (v.items.flatMap edt ++ ([.raw (.bool false), .raw (.int .i64 0), .raw (.string ⟨#[]⟩), .raw (.int .i64 0), .raw (.int .i64 0), .raw (.string ⟨#[]⟩), .raw (.int .i64 0), .raw (.slice none 0 0)] ++ [])), .slice (some ⟨b6, 0, none⟩) (v.items.length + 1) c6) :: (c (vraws v u), val) :: R)) := by
      intro h' u m6
      rw [edt_eq]
      simp only [cells_agg, List.zip_cons_cons, List.zip_nil_right, List.cons_append, List.nil_append, List.append_nil, My.raw_iff, one_bool, one_int, one_str, and_self, true_and]
      exact m6
    have closed : ∀ {h' : Hp}, My h0 h' ((.row 8 (v.items.flatMap edt ++ (edt (k, x) ++ [])), .slice (some ⟨b6, 0, none⟩) (v.items.length + 1) c6) :: (c (vraws v (.slice (some ⟨b6, 0, none⟩) (v.items.length + 1) c6)), val) :: R) → My h0 h' ((c (v.withItems (v.items ++ [(k, x)])).dt, val) :: R) := by
      intro h' m7
      refine var_close (v := v.withItems (v.items ++ [(k, x)])) (u := .slice (some ⟨b6, 0, none⟩) (v.items.length + 1) c6) hd ?_
      show My h0 h' ((.row 8 ((v.items ++ [(k, x)]).flatMap edt), _) :: _)
      rw [List.flatMap_append, List.flatMap_cons, List.flatMap_nil]
      exact m7
    simp only [go_sem]
    refine ⟨?_, ?_⟩
    · simp only [ix6, go_sem, Nat.reduceBEq]
      refine hd7.store (h0 := h0) (x := [.raw (.bool false), .raw (.int .i64 0), .raw (.string ⟨#[]⟩), .raw (.int .i64 0), .raw (.int .i64 0), .raw (.string ⟨#[]⟩), .raw (.int .i64 0), .raw (.slice none 0 0)]) (es := edt (k, x)) tyS141 (toZip m5.third) rfl (edt_len _) rfl ?_ fun h7 m7 => ?_
      · rw [fm_len edt_len]
      simp only [go_sem, Nat.reduceBEq, Nat.reduceAdd]
      refine var_setRaw hd m7.swap rfl fun h8 m8 => ?_
      have m8 := closed m8.swap
      simp only [go_sem, Nat.reduceBEq]
      refine Br.intro (fun kt => ?_) (fun kt => ?_) <;> (try simp only [kt, go_sem])
      · have kt : k.text = false := by simpa using kt
        rw [kt]
        refine regionD_intro (lb := [44]) (by kernel_rfl) ?_
        simp only [go_sem, Nat.reduceBEq, Nat.reduceAdd]
        refine var_ldNext hd m8 rfl ?_
        simp only [go_sem, Nat.reduceBEq]
        (refine (iMax _ _ _).mono ?_; rintro _ _ ⟨rfl, rfl⟩; simp only [go_sem, Nat.reduceBEq, Nat.reduceAdd])
        refine var_setNext hd m8 rfl fun h9 m9 => ?_
        simp only [go_sem]
        exact m9
      · have kt : k.text = true := by simpa using kt
        rw [kt]
        exact m8
    · simp only [go_sem, Nat.reduceBEq, Nat.reduceAdd]
      refine var_setRaw hd m5.swap rfl fun h7 m7 => ?_
      simp only [ix6, go_sem, Nat.reduceBEq]
      refine hd7.store (h0 := h0) (x := [.raw (.bool false), .raw (.int .i64 0), .raw (.string ⟨#[]⟩), .raw (.int .i64 0), .raw (.int .i64 0), .raw (.string ⟨#[]⟩), .raw (.int .i64 0), .raw (.slice none 0 0)]) (es := edt (k, x)) tyS141 (toZip m7.swap.third) rfl (edt_len _) rfl ?_ fun h8 m8 => ?_
      · rw [fm_len edt_len]
      have m8 := closed m8
      simp only [go_sem, Nat.reduceBEq]
      refine Br.intro (fun kt => ?_) (fun kt => ?_) <;> (try simp only [kt, go_sem])
      · have kt : k.text = false := by simpa using kt
        rw [kt]
        refine regionD_intro (lb := [44]) (by kernel_rfl) ?_
        simp only [go_sem, Nat.reduceBEq, Nat.reduceAdd]
        refine var_ldNext hd m8 rfl ?_
        simp only [go_sem, Nat.reduceBEq]
        (refine (iMax _ _ _).mono ?_; rintro _ _ ⟨rfl, rfl⟩; simp only [go_sem, Nat.reduceBEq, Nat.reduceAdd])
        refine var_setNext hd m8 rfl fun h9 m9 => ?_
        simp only [go_sem]
        exact m9
      · have kt : k.text = true := by simpa using kt
        rw [kt]
        exact m8
end Go.Proofs.YtedfplodobpgfaaGreatDoor
namespace Go.Proofs.YtedfplodobpgfaaGreatDoor
set_option maxRecDepth 8000
open Go Go.Sx
/-- a value that can be read; nothing visible has turned -/
def RdV (h : Hp) (o : V) (u : Value) (h' : Hp) : Prop := ∃ a c, u = .agg #[.int .i64 o.kind, .int .i64 o.num, .string o.str, .int .i64 o.next, .slice a o.items.length c] ∧ Ext h h' ∧ RdE h' o.items (.slice a o.items.length c)
end Go.Proofs.YtedfplodobpgfaaGreatDoor
namespace Go.Proofs.YtedfplodobpgfaaGreatDoor
set_option maxRecDepth 8000
open Go Go.Sx
theorem sl6Set (v : V) (k : Ky) (x : V) (hl : v.items.length ≤ 1099511627776) (sl sx : Value) (h : Hp) (rd : RdE h v.items sl) (rx : RdE h x.items sx) :
    ACalls Tryz.prog 162 #[.agg #[.int .i64 v.kind, .int .i64 v.num, .string v.str, .int .i64 v.next, sl], .agg #[.bool k.text, .int .i64 k.num, .string k.str], .agg #[.int .i64 x.kind, .int .i64 x.num, .string x.str, .int .i64 x.next, sx]] h (RdV h (v.setKey k x)) := by
  obtain ⟨a, c, xs, rfl, hc, hr, hat⟩ := rd.rows (by decide) v.items.length (fm_len edt_len _)
  obtain ⟨ax, cx, _, rfl, _⟩ := rx.rows (by decide) x.items.length (fm_len edt_len _)
  obtain ⟨a2, ys, e2, rs2, rl2⟩ := Rd.sub edt_len rd 0 v.items.length (by omega) (by omega)
  rw [List.drop_zero, Nat.sub_zero, List.take_length] at rl2
  have rs : ∃ ys, RdS h 8 (.slice a v.items.length c) ys ∧ RdL h (v.items.flatMap edt) ys := by
    have := rd
    simp only [Rd] at this
    exact this
  clear e2 rs2 rl2
  obtain ⟨zs, rs2, rl2⟩ := rs
  have ly : zs.length = v.items.length * 8 := by rw [rl2.len, fm_len edt_len]
  (refine enter Tryz.func162 rfl rfl (by kernel_rfl) [] ?_; simp only [go_sem, Nat.reduceBEq, Nat.reduceAdd, Nat.reduceLeDiff])
  refine hsem_my_lit0 slT42 (My.nil (Ext.refl h)) fun v1 h1 m1 => ?_
  obtain ⟨a1, c1, rfl, _⟩ := m1.row_shape (by decide) 0 rfl
  simp only [go_sem, Nat.reduceBEq]
  refine hsem_my_appendR slT42 (by decide) rfl 0 v.items.length m1 (rs2.mono m1.ext) rfl ly (by show (0 + v.items.length) * 96 ≤ _; omega) (by omega) fun v2 h2 m2 => ?_
  have m2 : My h h2 [(.row 8 (zs.map .raw), v2)] := m2
  obtain ⟨a4, c4, rfl, hcc, hcm, hat4⟩ := m2.row_shape (by decide) v.items.length (by rw [List.length_map, ly])
  simp only [go_sem, Nat.reduceBEq, Nat.reduceAdd, Nat.reduceLeDiff]
  (refine (sFind v k hl _ _ (rd.mono m2.ext)).mono ?_; rintro _ _ ⟨rfl, rfl⟩; simp only [go_sem, Nat.reduceBEq])
  cases hf : v.find k with
  | some i =>
    obtain ⟨y, hx, hg, hlt⟩ := V.find_get hf
    obtain ⟨e, he, _⟩ := get_lt hlt
    have es : v.setKey k x = v.withItems (v.items.take i ++ (e.1, x) :: v.items.drop (i + 1)) := by
      unfold V.setKey V.setAt
      rw [hf]
      simp only [he]
    rw [es]
    obtain ⟨b4, rfl⟩ := hat4 (by omega)
    have hlen : (v.items.take i ++ (e.1, x) :: v.items.drop (i + 1)).length = v.items.length := by rw [List.length_append, List.length_cons, List.length_take, List.length_drop]; omega
    obtain ⟨P, hP⟩ : ∃ P, P = zs.take (i * 8 + 3) := ⟨_, rfl⟩
    obtain ⟨O, hO⟩ : ∃ O, O = (zs.drop (i * 8 + 3)).take 5 := ⟨_, rfl⟩
    obtain ⟨Q, hQ⟩ : ∃ Q, Q = zs.drop (i * 8 + 8) := ⟨_, rfl⟩
    have ez : zs = P ++ (O ++ Q) := by
      rw [hP, hO, hQ, show zs.drop (i * 8 + 8) = (zs.drop (i * 8 + 3)).drop 5 from by rw [List.drop_drop], List.take_append_drop, List.take_append_drop]
    have lP : P.length = i * 8 + 3 := by rw [hP, List.length_take, ly]; omega
    have lO : O.length = 5 := by rw [hO, List.length_take, List.length_drop, ly]; omega
    obtain ⟨f1, f2⟩ := fm_split edt_len he
    have rP : RdL h ((v.items.take i).flatMap edt ++ e.1.dt) P := by
      have := rl2.take (i * 8 + 3)
      rw [← hP, f1, ← f2, List.take_length_add_append, edt_eq] at this
      exact this
    have rQ : RdL h ((v.items.drop (i + 1)).flatMap edt) Q := by
      have := rl2.drop ((i + 1) * 8)
      rw [fm_drop edt_len, show (i + 1) * 8 = i * 8 + 8 by omega, ← hQ] at this
      exact this
    simp only [ixI_some, go_sem]
    refine Br.intro (fun h0 => ?_) (fun h0 => ?_) <;> (try simp only [h0, go_sem, Nat.reduceBEq, Nat.reduceAdd, Nat.reduceLeDiff])
    case refine_2 => exact absurd (of_decide_eq_false h0) (by omega)
    simp only [ix_nat hlt, go_sem, Nat.reduceBEq, Nat.reduceAdd]
    refine hsem_my_put (z := 8) (h0 := h) (es := [.raw (.int .i64 x.kind), .raw (.int .i64 x.num), .raw (.string x.str), .raw (.int .i64 x.next), .raw (.slice ax x.items.length cx)]) (p := P.map .raw) (o := O.map .raw) (q := Q.map .raw) (bag := []) (len := v.items.length) (cap := c4) tyS44 ?_ (by omega) (by rw [List.length_map, lO]) rfl ?_ ?_ fun h3 m3 => ?_
    · simp only [cells_agg, List.zip_cons_cons, List.zip_nil_right, List.cons_append, List.nil_append, My.raw_iff, one_int, one_str, one_sl, and_self, true_and]
      rw [← List.map_append, ← List.map_append, ← ez]
      exact m2
    · rfl
    · rw [List.length_map, lP]
    simp only [go_sem, Nat.reduceBEq, Nat.reduceAdd, Nat.reduceLeDiff]
    refine ⟨some ⟨b4, 0, none⟩, c4, ?_, m3.ext, ?_⟩
    · rw [V.withItems_items, hlen]
      rfl
    rw [V.withItems_items, hlen]
    refine Rd.of_raws (us := P ++ ([.int .i64 x.kind, .int .i64 x.num, .string x.str, .int .i64 x.next, .slice ax x.items.length cx] ++ Q)) (by simpa using m3.rd) ?_
    have := (rP.mono m3.ext).append (((RdL_val_mk rx).mono m3.ext).append (rQ.mono m3.ext))
    rw [List.flatMap_append, List.flatMap_cons]
    rw [List.append_assoc] at this
    simp only [edt, List.append_assoc] at this ⊢
    exact this
  | none =>
    have es : v.setKey k x = ⟨v.kind, v.num, v.str, if k.text then v.next else max v.next (IntKind.i64.wrap (k.num + 1)), v.items ++ [(k, x)]⟩ := by
      unfold V.setKey
      rw [hf]
    rw [es]
    simp only [ixI_none, go_sem]
    refine Br.intro (fun h0 => ?_) (fun h0 => ?_) <;> (try simp only [h0, go_sem, Nat.reduceBEq, Nat.reduceAdd, Nat.reduceLeDiff])
    case refine_1 => exact absurd (of_decide_eq_true h0) (by decide)
    refine hsem_my_lit (h0 := h) (es := [.raw (.bool k.text), .raw (.int .i64 k.num), .raw (.string k.str), .raw (.int .i64 x.kind), .raw (.int .i64 x.num), .raw (.string x.str), .raw (.int .i64 x.next), .raw (.slice ax x.items.length cx)]) (parts := [(0, .agg #[.bool k.text, .int .i64 k.num, .string k.str, .int .i64 x.kind, .int .i64 x.num, .string x.str, .int .i64 x.next, .slice ax x.items.length cx])]) slT42 (by decide) (by decide) (by decide) rfl rfl (by simp [Value.cells]) (bag := [(.row 8 (zs.map .raw), .slice a4 v.items.length c4)]) ?_ rfl rfl fun l4 h4 m4 => ?_
    · simp only [flat, List.flatMap_cons, List.flatMap_nil, List.append_nil, cells_agg, List.zip_cons_cons, List.zip_nil_right, List.cons_append, List.nil_append, My.raw_iff, one_bool, one_int, one_str, one_sl, and_self, true_and]
      exact m2
    simp only [go_sem, Nat.reduceBEq]
    refine hsem_my_append slT42 (by decide) rfl v.items.length 1 m4.swap (by rw [List.length_map, ly]) rfl (by show (v.items.length + 1) * 96 ≤ _; omega) (by omega) fun l5 h5 m5 => ?_
    have m5 : My h h5 [(.row 8 (zs.map .raw ++ [.raw (.bool k.text), .raw (.int .i64 k.num), .raw (.string k.str), .raw (.int .i64 x.kind), .raw (.int .i64 x.num), .raw (.string x.str), .raw (.int .i64 x.next), .raw (.slice ax x.items.length cx)]), l5)] := m5
    obtain ⟨a6, c6, rfl, _⟩ := m5.row_shape (by decide) (v.items.length + 1) (by rw [List.length_append, List.length_map, ly]; show _ + 8 = _; omega)
    have hlen : (v.items ++ [(k, x)]).length = v.items.length + 1 := by rw [List.length_append]; rfl
    have rr : RdE h5 (v.items ++ [(k, x)]) (.slice a6 (v.items.length + 1) c6) := by
      refine Rd.of_raws (us := zs ++ ([.bool k.text, .int .i64 k.num, .string k.str] ++ [.int .i64 x.kind, .int .i64 x.num, .string x.str, .int .i64 x.next, .slice ax x.items.length cx])) (by simpa using m5.rd) ?_
      have rk : RdL h5 k.dt [.bool k.text, .int .i64 k.num, .string k.str] := by simp only [Ky.dt, RdL_cc, Rd_raw, RdL_nil, true_and, and_true]; exact ⟨rfl, rfl, rfl⟩
      have := (rl2.mono m5.ext).append (rk.append ((RdL_val_mk rx).mono m5.ext))
      rw [List.flatMap_append, List.flatMap_cons, List.flatMap_nil, List.append_nil]
      exact this
    simp only [go_sem, Nat.reduceBEq, Nat.reduceAdd, Nat.reduceLeDiff]
    refine Br.intro (fun kt => ?_) (fun kt => ?_) <;> (try simp only [kt, go_sem, Nat.reduceBEq, Nat.reduceAdd, Nat.reduceLeDiff])
    · have kt : k.text = false := by simpa using kt
      (refine (sMax v.next (IntKind.i64.wrap (k.num + 1)) _).mono ?_; rintro _ _ ⟨rfl, rfl⟩; simp only [go_sem, Nat.reduceBEq, Nat.reduceAdd, Nat.reduceLeDiff])
      rw [kt]
      refine ⟨a6, c6, ?_, m5.ext, ?_⟩
      · rw [V.items_mk, hlen]
        rfl
      · rw [V.items_mk, hlen]
        exact rr
    · have kt : k.text = true := by simpa using kt
      rw [kt]
      refine ⟨a6, c6, ?_, m5.ext, ?_⟩
      · rw [V.items_mk, hlen]
        rfl
      · rw [V.items_mk, hlen]
        exact rr
end Go.Proofs.YtedfplodobpgfaaGreatDoor
namespace Go.Proofs.YtedfplodobpgfaaGreatDoor
set_option maxRecDepth 8000
open Go Go.Sx
/-- a value made, and a number -/
def MadeI (h : Hp) (o : V) (n : Int) (u : Value) (h' : Hp) : Prop := ∃ a c, u = .tuple #[.agg #[.int .i64 o.kind, .int .i64 o.num, .string o.str, .int .i64 o.next, .slice a o.items.length c], .int .i64 n] ∧ My h h' [(.row 8 (o.items.flatMap edt), .slice a o.items.length c)]
theorem MadeI.of {h h1 h2 : Hp} {o : V} {n : Int} {u : Value} (e : Ext h h1) (m : MadeI h1 o n u h2) : MadeI h o n u h2 := by
  obtain ⟨a, c, h1, h2⟩ := m
  exact ⟨a, c, h1, h2.base e⟩
end Go.Proofs.YtedfplodobpgfaaGreatDoor
namespace Go.Proofs.YtedfplodobpgfaaGreatDoor
set_option maxRecDepth 8000
open Go Go.Sx
theorem rd_arr (h : Hp) : RdE h V.arr.items (.slice none 0 0) := ((My.nil (Ext.refl h)).nilrow (z := 8)).rd
theorem iAllKeys (l : List Ky) (hl : l.length ≤ 1099511627776) (sl : Value) (h : Hp) (rd : Rd h (.row 3 (l.flatMap Ky.dt)) sl) (hE : Env h) : ACalls Tryz.prog 105 #[sl] h (Is (.bool (l.all keyOk)) h) := by
  obtain ⟨a, c, xs, rfl, hc, hr, hat⟩ := rd.rows (by decide) l.length (fm_len Ky.dt_len _)
  (refine enter Tryz.func105 rfl rfl (by kernel_rfl) [] ?_; simp only [go_sem, Nat.reduceBEq])
  refine aloop (ι := Nat) (fun i => [(7, .val (.int .i64 (i : Nat))), (6, .val (.int .i64 (l.length : Nat))), (5, .val (.slice a l.length c))]) (fun _ => []) (fun i h' => i ≤ l.length ∧ Ext h h' ∧ (l.drop i).all keyOk = l.all keyOk) (fun i => l.length - i) 0 ⟨Nat.zero_le _, Ext.refl _, rfl⟩ (by repeat (first | exact wkF_e | refine wkF_c rfl ?_)) wkB_e rfl ?_
  rintro i h1 ⟨hi, e1, hq⟩
  have hi : i ≤ l.length := hi
  simp only [go_sem, Nat.reduceBEq]
  refine Br.intro (fun hb => ?_) (fun hb => ?_) <;> (try simp only [hb, go_sem, Nat.reduceBEq])
  · have hb : i < l.length := by simpa using hb
    obtain ⟨b, off, rfl, hat'⟩ := hat (by omega)
    obtain ⟨e, he, hm⟩ := get_lt hb
    have wsu := wrap_succ (i := i) (by omega)
    rw [drop_cons he, List.all_cons] at hq
    simp only [ix_nat hb, go_sem, Nat.reduceBEq]
    refine hsem_row (f := Ky.dt) (o := 0) (ds := e.dt) Ky.dt_len tyS40 (hat'.mono e1) (hr.mono e1) he (Nat.le_refl _) rfl ?_ fun ys q1 => ?_
    · omega
    rw [RdL_key q1]
    simp only [go_sem, Nat.reduceBEq, Nat.reduceAdd, Nat.reduceLeDiff]
    refine (iIsKey e _ (hE.ext e1)).mono ?_
    rintro _ h2 ⟨rfl, e2⟩
    simp only [go_sem, Nat.reduceBEq]
    refine Br.intro (fun hk => ?_) (fun hk => ?_) <;> (try simp only [hk, go_sem, Nat.reduceBEq])
    · have hk : keyOk e = false := by simpa using hk
      rw [hk] at hq
      exact ⟨by rw [← hq]; rfl, e1.trans e2⟩
    · have hk : keyOk e = true := by simpa using hk
      rw [hk] at hq
      try simp only [wsu, go_sem]
      exact Again.intro (i + 1) (by first | omega | (simp only; omega)) ⟨hb, e1.trans e2, by simpa using hq⟩ (by repeat (first | exact wkF_e | refine wkF_c rfl ?_)) wkB_e rfl
  · have hb : i = l.length := by simp at hb; omega
    rw [List.drop_eq_nil_of_le (by omega)] at hq
    exact ⟨by rw [← hq]; rfl, e1⟩
theorem sAllKeys (l : List Ky) (hl : l.length ≤ 1099511627776) (hs : ∀ k ∈ l, k.str.size ≤ 1152921504606846976) (sl : Value) (h : Hp) (rd : Rd h (.row 3 (l.flatMap Ky.dt)) sl) : ACalls Tryz.prog 102 #[sl] h (Is (.bool (l.all keyOk)) h) := by
  obtain ⟨a, c, xs, rfl, hc, hr, hat⟩ := rd.rows (by decide) l.length (fm_len Ky.dt_len _)
  (refine enter Tryz.func102 rfl rfl (by kernel_rfl) [] ?_; simp only [go_sem])
  refine aloop (ι := Nat) (fun i => [(3, .val (.int .i64 (i : Nat))), (0, .val (.slice a l.length c))]) (fun _ => []) (fun i h' => i ≤ l.length ∧ Ext h h' ∧ (l.drop i).all keyOk = l.all keyOk) (fun i => l.length - i) 0 ⟨Nat.zero_le _, Ext.refl _, rfl⟩ (by repeat (first | exact wkF_e | refine wkF_c rfl ?_)) wkB_e rfl ?_
  rintro i h1 ⟨hi, e1, hq⟩
  have hi : i ≤ l.length := hi
  simp only [go_sem, Nat.reduceBEq]
  refine Br.intro (fun hb => ?_) (fun hb => ?_) <;> (try simp only [hb, go_sem, Nat.reduceBEq])
  · have hb : i < l.length := by simpa using hb
    obtain ⟨b, off, rfl, hat'⟩ := hat (by omega)
    obtain ⟨e, he, hm⟩ := get_lt hb
    have wsu := wrap_succ (i := i) (by omega)
    rw [drop_cons he, List.all_cons] at hq
    simp only [ix_nat hb, go_sem, Nat.reduceBEq]
    refine hsem_row (f := Ky.dt) (o := 0) (ds := e.dt) Ky.dt_len tyS40 (hat'.mono e1) (hr.mono e1) he (Nat.le_refl _) rfl ?_ fun ys q1 => ?_
    · omega
    rw [RdL_key q1]
    simp only [go_sem, Nat.reduceBEq]
    refine (sIsKey e _ (hs e hm)).mono ?_
    rintro _ h2 ⟨rfl, e2⟩
    simp only [go_sem, Nat.reduceBEq]
    refine Br.intro (fun hk => ?_) (fun hk => ?_) <;> (try simp only [hk, go_sem, Nat.reduceBEq])
    · have hk : keyOk e = false := by simpa using hk
      rw [hk] at hq
      exact ⟨by rw [← hq]; rfl, e1.trans e2⟩
    · have hk : keyOk e = true := by simpa using hk
      rw [hk] at hq
      try simp only [wsu, go_sem]
      exact Again.intro (i + 1) (by first | omega | (simp only; omega)) ⟨hb, e1.trans e2, by simpa using hq⟩ (by repeat (first | exact wkF_e | refine wkF_c rfl ?_)) wkB_e rfl
  · have hb : i = l.length := by simp at hb; omega
    rw [List.drop_eq_nil_of_le (by omega)] at hq
    exact ⟨by rw [← hq]; rfl, e1⟩
theorem iArr (h : Hp) : ACalls Tryz.prog 143 #[] h (Pu (.agg #[.int .i64 4, .int .i64 0, .string ⟨#[]⟩, .int .i64 0, .slice none 0 0]) h) := by
  (refine enter Tryz.func143 rfl rfl (by kernel_rfl) [] ?_; simp only [go_sem, Nat.reduceBEq, Nat.reduceAdd, Nat.reduceLeDiff])
  exact ⟨rfl, rfl⟩
theorem sArr (h : Hp) : ACalls Tryz.prog 142 #[] h (Pu (.agg #[.int .i64 4, .int .i64 0, .string ⟨#[]⟩, .int .i64 0, .slice none 0 0]) h) := by
  (refine enter Tryz.func142 rfl rfl (by kernel_rfl) [] ?_; simp only [go_sem, Nat.reduceBEq, Nat.reduceAdd, Nat.reduceLeDiff])
  exact ⟨rfl, rfl⟩
/-- a value that can be read, and a number -/
def PutP (h : Hp) (o : V × Int) (u : Value) (h' : Hp) : Prop := ∃ a c, u = .tuple #[.agg #[.int .i64 o.1.kind, .int .i64 o.1.num, .string o.1.str, .int .i64 o.1.next, .slice a o.1.items.length c], .int .i64 o.2] ∧ Ext h h' ∧ RdE h' o.1.items (.slice a o.1.items.length c)
theorem d00 : decide (((0 : Nat) : Int) = 0) = true := by decide
/-- what writePath leaves: the number, and, where that is 0, the value written -/
def Wrote (h0 : Hp) (c : List Dt → Dt) (val : Value) (R : Bag) (o : V × Int) (u : Value) (h' : Hp) : Prop := u = .int .i64 o.2 ∧ ∃ w, My h0 h' ((c w.dt, val) :: R) ∧ (o.2 = 0 → w = o.1)
theorem dc0 (k : Ky) (r : List Ky) : decide ((((k :: r).length : Nat) : Int) = 0) = false := decide_eq_false (by rw [List.length_cons]; omega)
theorem arr_get (k : Ky) : V.arr.get k = none := rfl
theorem arr_find (k : Ky) : V.arr.find k = none := rfl
theorem sl12Set : ∀ (path : List Ky) (v : V) (push : Bool) (x : V) (_ : V.bulks v.items ≤ 1099511627776) (_ : path.length ≤ 1099511627776) (sl sp sx : Value) (h : Hp) (_ : RdE h v.items sl) (_ : Rd h (.row 3 (path.flatMap Ky.dt)) sp) (_ : RdE h x.items sx),
    ACalls Tryz.prog 150 #[.agg #[.int .i64 v.kind, .int .i64 v.num, .string v.str, .int .i64 v.next, sl], sp, .bool push, .agg #[.int .i64 x.kind, .int .i64 x.num, .string x.str, .int .i64 x.next, sx]] h (PutP h (v.put path push x)) := by
  intro path
  induction path with
  | nil =>
    intro v push x hl hp sl sp sx h rd rp rx
    have hlen := V.bulks_len v.items
    obtain ⟨ap, cp, xp, rfl, _⟩ := rp.rows (by decide) ([] : List Ky).length (fm_len Ky.dt_len _)
    obtain ⟨a, c, _, rfl, _⟩ := rd.rows (by decide) v.items.length (fm_len edt_len _)
    obtain ⟨ax, cx, _, rfl, _⟩ := rx.rows (by decide) x.items.length (fm_len edt_len _)
    (refine enter Tryz.func150 rfl rfl (by kernel_rfl) [] ?_; simp only [go_sem, Nat.reduceBEq])
    cases push with
    | false =>
      rw [V.put_nil_f]
      simp only [d00, go_sem, Nat.reduceBEq, Nat.reduceAdd, Nat.reduceLeDiff]
      exact ⟨_, _, rfl, Ext.refl _, rx⟩
    | true =>
      rw [V.put_nil_t]
      simp only [d00, go_sem, Nat.reduceBEq]
      by_cases k0 : v.kind = 0
      · rw [V.asArr_null k0]
        have dk0 := decide_eq_true k0
        simp only [dk0, go_sem]
        (refine (sArr _).mono ?_; rintro _ _ ⟨rfl, rfl⟩; simp only [go_sem, Nat.reduceBEq, Nat.reduceAdd, Nat.reduceLeDiff])
        simp only [d00, go_sem, Nat.reduceBEq]
        (refine (l1In_c _ _ _ _).mono ?_; rintro _ _ ⟨rfl, rfl⟩; simp only [go_sem, Nat.reduceBEq])
        have dd : decide ((0 : Int) ≤ 0 ∧ (0 : Int) ≤ 1000000000) = true := by decide
        simp only [dd, go_sem, Nat.reduceBEq, Nat.reduceAdd, Nat.reduceLeDiff]
        rw [if_neg (by decide), if_neg (by decide)]
        refine (sl6Set V.arr ⟨false, V.arr.next, ⟨#[]⟩⟩ x (by decide) _ _ _ (rd_arr _) rx).mono ?_
        rintro _ h5 ⟨a5, c5, rfl, e5, r5⟩
        simp only [go_sem, Nat.reduceBEq, Nat.reduceAdd, Nat.reduceLeDiff]
        exact ⟨_, _, rfl, e5, r5⟩
      rw [V.asArr_other k0]
      have dk0 := decide_eq_false k0
      simp only [dk0, go_sem, Nat.reduceBEq]
      by_cases k4 : v.kind = 4
      case neg =>
        have dk4 := decide_eq_false k4
        simp only [dk4, go_sem, Nat.reduceBEq, Nat.reduceAdd, Nat.reduceLeDiff]
        rw [if_pos k4]
        exact ⟨_, _, rfl, Ext.refl _, rd⟩
      have dk4 := decide_eq_true k4
      simp only [dk4, d00, go_sem, Nat.reduceBEq]
      (refine (l1In_c _ _ _ _).mono ?_; rintro _ _ ⟨rfl, rfl⟩; simp only [go_sem, Nat.reduceBEq])
      rw [if_neg (by simpa using k4)]
      refine Br.intro (fun hn => ?_) (fun hn => ?_) <;> (try simp only [hn, go_sem, Nat.reduceBEq, Nat.reduceAdd, Nat.reduceLeDiff])
      · have hn : ¬ (0 ≤ v.next ∧ v.next ≤ 1000000000) := of_decide_eq_false (by simpa only [Bool.not_eq_true'] using hn)
        rw [if_pos hn]
        exact ⟨_, _, rfl, Ext.refl _, rd⟩
      · have hn : 0 ≤ v.next ∧ v.next ≤ 1000000000 := of_decide_eq_true (by simpa only [Bool.not_eq_false'] using hn)
        rw [if_neg (fun h => h hn)]
        refine (sl6Set v ⟨false, v.next, ⟨#[]⟩⟩ x (by omega) _ _ _ rd rx).mono ?_
        rintro _ h5 ⟨a5, c5, rfl, e5, r5⟩
        simp only [go_sem, Nat.reduceBEq, Nat.reduceAdd, Nat.reduceLeDiff]
        exact ⟨_, _, rfl, e5, r5⟩
  | cons k r ih =>
    intro v push x hl hp sl sp sx h rd rp rx
    have hlen := V.bulks_len v.items
    obtain ⟨ap, cp, xp, rfl, hcp, hrp, hatp⟩ := rp.rows (by decide) (k :: r).length (fm_len Ky.dt_len _)
    obtain ⟨a, c, _, rfl, _⟩ := rd.rows (by decide) v.items.length (fm_len edt_len _)
    obtain ⟨ax, cx, _, rfl, _⟩ := rx.rows (by decide) x.items.length (fm_len edt_len _)
    have hn : 0 < (k :: r).length := by rw [List.length_cons]; omega
    obtain ⟨bp, offp, rfl, hatp'⟩ := hatp hn
    have ix0 : ∀ n : Nat, 0 < n → ixA (some 3) (some ⟨bp, offp, none⟩) n 0 = some (.pointer (some ⟨bp, offp + 0 * 3, none⟩)) := fun n hn => ix_nat (i := 0) hn
    obtain ⟨a3, ys3, e3, rs3, rl3⟩ := Rd.sub Ky.dt_len rp 1 (k :: r).length (by simp only [List.length_cons]; omega) (Nat.le_refl _)
    have e3 : slA (some 3) (some ⟨bp, offp, none⟩) (r.length + 1) cp 1 ((r.length + 1 : Nat) : Int) = some (.slice a3 (r.length + 1 - 1) (cp - 1)) := e3
    have rp3 : Rd h (.row 3 (r.flatMap Ky.dt)) (.slice a3 (r.length + 1 - 1) (cp - 1)) := by
      simp only [Rd]
      exact ⟨_, rs3, by simpa using rl3⟩
    have dc := dc0 k r
    rw [List.length_cons] at dc
    (refine enter Tryz.func150 rfl rfl (by kernel_rfl) [] ?_; simp only [go_sem, Nat.reduceBEq])
    rw [V.put_cons]
    simp only [dc, go_sem, Nat.reduceBEq]
    by_cases k0 : v.kind = 0
    · rw [V.asArr_null k0]
      have dk0 := decide_eq_true k0
      simp only [dk0, go_sem]
      (refine (sArr _).mono ?_; rintro _ _ ⟨rfl, rfl⟩; simp only [go_sem, Nat.reduceBEq, Nat.reduceAdd, Nat.reduceLeDiff])
      simp only [dc, go_sem]
      rw [if_neg (by decide)]
      refine regionD_intro (lb := [45]) (by kernel_rfl) ?_
      simp only [ix0 _ (show 0 < r.length + 1 by omega), go_sem, Nat.reduceBEq, Nat.reduceAdd, Nat.reduceLeDiff]
      refine hsem_row (f := Ky.dt) (o := 0) (i := 0) (ds := k.dt) Ky.dt_len tyS40 hatp' hrp rfl (Nat.le_refl _) rfl ?_ fun ys q1 => ?_
      · omega
      rw [RdL_key q1]
      simp only [go_sem, Nat.reduceBEq]
      refine (sGet V.arr k (by decide) _ _ (rd_arr _)).mono ?_
      rintro _ _ ⟨rfl, s2, rfl, rd2⟩
      obtain ⟨a2, c2, _, rfl, _⟩ := rd2.rows (by decide) _ (fm_len edt_len _)
      simp only [go_sem, Nat.reduceBEq, Nat.reduceAdd, Nat.reduceLeDiff]
      refine regionD_intro (lb := [53, 57]) (by kernel_rfl) ?_
      simp only [e3, go_sem, Nat.reduceBEq, Nat.reduceAdd, Nat.reduceLeDiff]
      have hgb := getD_bulk V.arr k
      refine (ih ((V.get V.arr k).getD V.null) push x (by exact Nat.le_trans hgb (by decide)) (by simp only [List.length_cons] at hp ⊢; omega) _ _ _ _ rd2 rp3 rx).mono ?_
      rintro _ h4 ⟨a4, c4, rfl, e4, r4⟩
      simp only [go_sem, Nat.reduceBEq, Nat.reduceAdd, Nat.reduceLeDiff]
      refine Br.intro (fun hc => ?_) (fun hc => ?_) <;> (try simp only [hc, go_sem, Nat.reduceBEq, Nat.reduceAdd, Nat.reduceLeDiff])
      · have hc : ¬ (V.put ((V.get V.arr k).getD V.null) r push x).2 = 0 := by simpa using hc
        rw [if_neg hc]
        exact ⟨_, _, rfl, e4, rd_arr _⟩
      · have hc : (V.put ((V.get V.arr k).getD V.null) r push x).2 = 0 := by simpa using hc
        rw [if_pos hc]
        refine regionD_intro (lb := [65, 69]) (by kernel_rfl) ?_
        simp only [ix0 _ (show 0 < r.length + 1 by omega), go_sem, Nat.reduceBEq, Nat.reduceAdd, Nat.reduceLeDiff]
        refine hsem_row (f := Ky.dt) (o := 0) (i := 0) (ds := k.dt) Ky.dt_len tyS40 (hatp'.mono e4) (hrp.mono e4) rfl (Nat.le_refl _) rfl ?_ fun ys q2 => ?_
        · omega
        rw [RdL_key q2]
        simp only [go_sem, Nat.reduceBEq, Nat.reduceAdd, Nat.reduceLeDiff]
        refine (sl6Set V.arr k _ (by decide) _ _ _ (rd_arr _) r4).mono ?_
        rintro _ h5 ⟨a5, c5, rfl, e5, r5⟩
        simp only [go_sem, Nat.reduceBEq, Nat.reduceAdd, Nat.reduceLeDiff]
        exact ⟨_, _, rfl, e4.trans e5, r5⟩
    rw [V.asArr_other k0]
    have dk0 := decide_eq_false k0
    simp only [dk0, go_sem, Nat.reduceBEq]
    by_cases k4 : v.kind = 4
    case neg =>
      have dk4 := decide_eq_false k4
      simp only [dk4, go_sem, Nat.reduceBEq, Nat.reduceAdd, Nat.reduceLeDiff]
      rw [if_pos k4]
      exact ⟨_, _, rfl, Ext.refl _, rd⟩
    have dk4 := decide_eq_true k4
    simp only [dk4, dc, go_sem, Nat.reduceBEq]
    rw [if_neg (by simpa using k4)]
    refine regionD_intro (lb := [45]) (by kernel_rfl) ?_
    simp only [ix0 _ (show 0 < r.length + 1 by omega), go_sem, Nat.reduceBEq, Nat.reduceAdd, Nat.reduceLeDiff]
    refine hsem_row (f := Ky.dt) (o := 0) (i := 0) (ds := k.dt) Ky.dt_len tyS40 hatp' hrp rfl (Nat.le_refl _) rfl ?_ fun ys q1 => ?_
    · omega
    rw [RdL_key q1]
    simp only [go_sem, Nat.reduceBEq]
    refine (sGet v k (by omega) _ _ (rd)).mono ?_
    rintro _ _ ⟨rfl, s2, rfl, rd2⟩
    obtain ⟨a2, c2, _, rfl, _⟩ := rd2.rows (by decide) _ (fm_len edt_len _)
    simp only [go_sem, Nat.reduceBEq, Nat.reduceAdd, Nat.reduceLeDiff]
    refine regionD_intro (lb := [53, 57]) (by kernel_rfl) ?_
    simp only [e3, go_sem, Nat.reduceBEq, Nat.reduceAdd, Nat.reduceLeDiff]
    have hgb := getD_bulk v k
    refine (ih ((V.get v k).getD V.null) push x (by omega) (by simp only [List.length_cons] at hp ⊢; omega) _ _ _ _ rd2 rp3 rx).mono ?_
    rintro _ h4 ⟨a4, c4, rfl, e4, r4⟩
    simp only [go_sem, Nat.reduceBEq, Nat.reduceAdd, Nat.reduceLeDiff]
    refine Br.intro (fun hc => ?_) (fun hc => ?_) <;> (try simp only [hc, go_sem, Nat.reduceBEq, Nat.reduceAdd, Nat.reduceLeDiff])
    · have hc : ¬ (V.put ((V.get v k).getD V.null) r push x).2 = 0 := by simpa using hc
      rw [if_neg hc]
      exact ⟨_, _, rfl, e4, (rd.mono e4)⟩
    · have hc : (V.put ((V.get v k).getD V.null) r push x).2 = 0 := by simpa using hc
      rw [if_pos hc]
      refine regionD_intro (lb := [65, 69]) (by kernel_rfl) ?_
      simp only [ix0 _ (show 0 < r.length + 1 by omega), go_sem, Nat.reduceBEq, Nat.reduceAdd, Nat.reduceLeDiff]
      refine hsem_row (f := Ky.dt) (o := 0) (i := 0) (ds := k.dt) Ky.dt_len tyS40 (hatp'.mono e4) (hrp.mono e4) rfl (Nat.le_refl _) rfl ?_ fun ys q2 => ?_
      · omega
      rw [RdL_key q2]
      simp only [go_sem, Nat.reduceBEq, Nat.reduceAdd, Nat.reduceLeDiff]
      refine (sl6Set v k _ (by omega) _ _ _ (rd.mono e4) r4).mono ?_
      rintro _ h5 ⟨a5, c5, rfl, e5, r5⟩
      simp only [go_sem, Nat.reduceBEq, Nat.reduceAdd, Nat.reduceLeDiff]
      exact ⟨_, _, rfl, e4.trans e5, r5⟩
/-- the value set, or why there is none -/
def setOf (v : V) (path : List Ky) (push : Bool) (x : V) : V × Int :=
  if v.valid && x.valid && path.all keyOk then (if (v.put path push x).2 = 0 then (if (v.put path push x).1.weight ≤ 200 then ((v.put path push x).1, 0) else (v, 9)) else (v, (v.put path push x).2)) else (v, 5)
theorem d200 (n : Nat) : decide ((200 : Int) < ((n : Nat) : Int)) = !decide (n ≤ 200) := by
  rw [← decide_not]
  exact decide_eq_decide.2 (by omega)
theorem iWrite : ∀ (path : List Ky) (v : V) (push : Bool) (x : V) (_ : v.wf = true) (_ : V.bulks v.items ≤ 549755813888) (_ : path.length ≤ 1099511627776) (c : List Dt → Dt) (val : Value) (b off : Nat) (_ : Hold c val b off) (ax : Option Addr) (lx cx : Nat) (sp : Value) (h0 h : Hp) (R : Bag)
    (_ : Rd h0 (.row 3 (path.flatMap Ky.dt)) sp) (_ : My h0 h ((.row 8 (x.items.flatMap edt), .slice ax lx cx) :: (c v.dt, val) :: R)),
    ACalls Tryz.prog 152 #[.pointer (some ⟨b, off, none⟩), sp, .bool push, .agg #[.int .i64 x.kind, .int .i64 x.num, .string x.str, .int .i64 x.next, .slice ax lx cx]] h (Wrote h0 c val R (v.put path push x)) := by
  intro path
  induction path with
  | nil =>
    intro v push x hwf hl hp c val b off hd ax lx cx sp h0 h R rp m
    have hlen := V.bulks_len v.items
    obtain ⟨ap, cp, xp, rfl, _⟩ := rp.rows (by decide) ([] : List Ky).length (fm_len Ky.dt_len _)
    (refine enter Tryz.func152 rfl rfl (by kernel_rfl) [10] ?_; simp only [go_sem, Nat.reduceBEq])
    cases push with
    | false =>
      rw [V.put_nil_f]
      simp only [d00, go_sem, Nat.reduceBEq, Nat.reduceAdd, Nat.reduceLeDiff]
      refine var_store hd (w := x) (V.dt_len v) m rfl fun h3 m3 => ?_
      simp only [go_sem, Nat.reduceBEq]
      exact ⟨rfl, x, m3, fun _ => rfl⟩
    | true =>
      rw [V.put_nil_t]
      simp only [d00, go_sem, Nat.reduceBEq]
      refine var_ldKind hd m.swap rfl ?_
      simp only [go_sem, Nat.reduceBEq]
      by_cases k0 : v.kind = 0
      · rw [V.asArr_null k0]
        have dk0 := decide_eq_true k0
        simp only [dk0, go_sem, Nat.reduceBEq]
        (refine (iArr _).mono ?_; rintro _ _ ⟨rfl, rfl⟩; simp only [go_sem, Nat.reduceBEq])
        refine var_store hd (w := V.arr) (sl := .slice none 0 0) (V.dt_len v) (m.swap.nilrow (z := 8)) rfl fun h3 m3 => ?_
        simp only [go_sem, Nat.reduceBEq]
        refine var_ldKind hd m3 rfl ?_
        have a4 : V.arr.kind = 4 := rfl
        have an : V.arr.next = 0 := rfl
        simp only [a4, d00, go_sem, Nat.reduceBEq, Nat.reduceAdd]
        refine var_ldNext hd m3 rfl ?_
        simp only [an, go_sem, Nat.reduceBEq]
        rw [if_neg (by decide), if_neg (by decide)]
        refine regionD_intro (lb := [49]) (by kernel_rfl) ?_
        simp only [go_sem, Nat.reduceBEq, Nat.reduceAdd]
        refine var_ldNext hd m3 rfl ?_
        simp only [go_sem, Nat.reduceBEq]
        (refine (iIntKey _ _).mono ?_; rintro _ _ ⟨rfl, rfl⟩; simp only [go_sem, Nat.reduceBEq, Nat.reduceAdd, Nat.reduceLeDiff])
        refine (iPutKey hd V.arr ⟨false, V.arr.next, ⟨#[]⟩⟩ x (by decide) _ _ _ _ _ _ m3.swap).mono ?_
        rintro _ h5 ⟨rfl, m5⟩
        simp only [go_sem, Nat.reduceBEq]
        exact ⟨rfl, _, m5, fun _ => rfl⟩
      rw [V.asArr_other k0]
      have dk0 := decide_eq_false k0
      simp only [dk0, go_sem, Nat.reduceBEq]
      refine var_ldKind hd m.swap rfl ?_
      by_cases k4 : v.kind = 4
      case neg =>
        have dk4 := decide_eq_false k4
        simp only [dk4, go_sem, Nat.reduceBEq]
        rw [if_pos k4]
        exact ⟨rfl, v, m.drop, fun h => by simp at h⟩
      have dk4 := decide_eq_true k4
      have hn0 := wf_next hwf k4
      simp only [dk4, d00, go_sem, Nat.reduceBEq, Nat.reduceAdd]
      refine var_ldNext hd m.swap rfl ?_
      simp only [go_sem, Nat.reduceBEq]
      rw [if_neg (by simpa using k4)]
      refine Br.intro (fun hn => ?_) (fun hn => ?_) <;> (try simp only [hn, go_sem, Nat.reduceBEq])
      · have hn := of_decide_eq_true hn
        rw [if_pos (by omega)]
        exact ⟨rfl, v, m.drop, fun h => by simp at h⟩
      · have hn := of_decide_eq_false hn
        rw [if_neg (fun h => h ⟨by omega, by omega⟩)]
        refine regionD_intro (lb := [49]) (by kernel_rfl) ?_
        simp only [go_sem, Nat.reduceBEq, Nat.reduceAdd]
        refine var_ldNext hd m.swap rfl ?_
        simp only [go_sem, Nat.reduceBEq]
        (refine (iIntKey _ _).mono ?_; rintro _ _ ⟨rfl, rfl⟩; simp only [go_sem, Nat.reduceBEq, Nat.reduceAdd, Nat.reduceLeDiff])
        refine (iPutKey hd v ⟨false, v.next, ⟨#[]⟩⟩ x (by omega) _ _ _ _ _ _ m).mono ?_
        rintro _ h5 ⟨rfl, m5⟩
        simp only [go_sem, Nat.reduceBEq]
        exact ⟨rfl, _, m5, fun _ => rfl⟩
  | cons k r ih =>
    intro v push x hwf hl hp c val b off hd ax lx cx sp h0 h R rp m
    have hlen := V.bulks_len v.items
    obtain ⟨ap, cp, xp, rfl, hcp, hrp, hatp⟩ := rp.rows (by decide) (k :: r).length (fm_len Ky.dt_len _)
    have hn : 0 < (k :: r).length := by rw [List.length_cons]; omega
    obtain ⟨bp, offp, rfl, hatp'⟩ := hatp hn
    have ix0 : ∀ n : Nat, 0 < n → ixA (some 3) (some ⟨bp, offp, none⟩) n 0 = some (.pointer (some ⟨bp, offp + 0 * 3, none⟩)) := fun n hn => ix_nat (i := 0) hn
    obtain ⟨a3, ys3, e3, rs3, rl3⟩ := Rd.sub Ky.dt_len rp 1 (k :: r).length (by simp only [List.length_cons]; omega) (Nat.le_refl _)
    have e3 : slA (some 3) (some ⟨bp, offp, none⟩) (r.length + 1) cp 1 ((r.length + 1 : Nat) : Int) = some (.slice a3 (r.length + 1 - 1) (cp - 1)) := e3
    have rp3 : Rd h0 (.row 3 (r.flatMap Ky.dt)) (.slice a3 (r.length + 1 - 1) (cp - 1)) := by
      simp only [Rd]
      exact ⟨_, rs3, by simpa using rl3⟩
    have hpr : r.length ≤ 1099511627776 := by simp only [List.length_cons] at hp; omega
    have dc := dc0 k r
    rw [List.length_cons] at dc
    (refine enter Tryz.func152 rfl rfl (by kernel_rfl) [10] ?_; simp only [go_sem, Nat.reduceBEq])
    rw [V.put_cons]
    simp only [dc, go_sem, Nat.reduceBEq]
    refine var_ldKind hd m.swap rfl ?_
    simp only [go_sem, Nat.reduceBEq]
    by_cases k0 : v.kind = 0
    · rw [V.asArr_null k0]
      have dk0 := decide_eq_true k0
      simp only [dk0, go_sem, Nat.reduceBEq]
      (refine (iArr _).mono ?_; rintro _ _ ⟨rfl, rfl⟩; simp only [go_sem, Nat.reduceBEq])
      refine var_store hd (w := V.arr) (sl := .slice none 0 0) (V.dt_len v) (m.swap.nilrow (z := 8)) rfl fun h3 m3 => ?_
      simp only [go_sem, Nat.reduceBEq]
      refine var_ldKind hd m3 rfl ?_
      have a4 : V.arr.kind = 4 := rfl
      simp only [a4, dc, go_sem, Nat.reduceBEq]
      rw [if_neg (by decide)]
      refine regionD_intro (lb := []) (by kernel_rfl) ?_
      simp only [go_sem, Nat.reduceBEq]
      refine var_load hd m3 rfl fun so ro => ?_
      simp only [ix0 _ (show 0 < r.length + 1 by omega), go_sem, Nat.reduceBEq]
      refine hsem_row (f := Ky.dt) (o := 0) (i := 0) (ds := k.dt) Ky.dt_len tyS40 (hatp'.mono m3.ext) (hrp.mono m3.ext) rfl (Nat.le_refl _) rfl ?_ fun ys q1 => ?_
      · omega
      rw [RdL_key q1]
      simp only [go_sem, Nat.reduceBEq]
      refine (iFindKey V.arr k (by decide) _ _ ro).mono ?_
      rintro _ _ ⟨rfl, rfl⟩
      rw [arr_find, arr_get]
      simp only [ixI_none, Option.getD_none, go_sem, Nat.reduceBEq]
      refine Br.intro (fun hx => ?_) (fun hx => ?_) <;> (try simp only [hx, go_sem])
      case refine_1 => exact absurd (of_decide_eq_true hx) (by decide)
      (refine (iNull _).mono ?_; rintro _ _ ⟨rfl, rfl⟩; simp only [go_sem, Nat.reduceBEq])
      refine hsem_my_alloc (z := [.int .i64 0, .int .i64 0, .string ⟨#[]⟩, .int .i64 0, .slice none 0 0]) (by kernel_rfl) rfl m3 fun b0 h4 m4 => ?_
      simp only [go_sem, Nat.reduceBEq]
      refine var_store (w := V.null) (sl := .slice none 0 0) Hold.ptr rfl (m4.nilrow (z := 8)) rfl fun h5 m5 => ?_
      simp only [go_sem]
      refine regionD_intro (lb := [76]) (by kernel_rfl) ?_
      simp only [e3, go_sem, Nat.reduceBEq, Nat.reduceAdd, Nat.reduceLeDiff]
      refine (ih V.null push x wf_null (by decide) hpr _ _ _ _ Hold.ptr _ _ _ _ _ _ _ rp3 m5.third).mono ?_
      rintro _ h6 ⟨rfl, w, m6, hw⟩
      simp only [go_sem, Nat.reduceBEq]
      refine Br.intro (fun hc => ?_) (fun hc => ?_) <;> (try simp only [hc, go_sem, Nat.reduceBEq])
      · have hc := of_decide_eq_true hc
        rw [if_pos hc]
        have hw := hw hc
        subst hw
        refine regionD_intro (lb := []) (by kernel_rfl) ?_
        simp only [ix0 _ (show 0 < r.length + 1 by omega), go_sem, Nat.reduceBEq]
        refine hsem_row (f := Ky.dt) (o := 0) (i := 0) (ds := k.dt) Ky.dt_len tyS40 (hatp'.mono m6.ext) (hrp.mono m6.ext) rfl (Nat.le_refl _) rfl ?_ fun ys q2 => ?_
        · omega
        rw [RdL_key q2]
        simp only [go_sem, Nat.reduceBEq]
        refine var_take Hold.ptr m6 rfl fun a7 n7 m7 => ?_
        simp only [go_sem, Nat.reduceBEq]
        refine (iPutKey hd V.arr k _ (by decide) _ _ _ _ _ _ m7).mono ?_
        rintro _ h8 ⟨rfl, m8⟩
        simp only [go_sem, Nat.reduceBEq]
        exact ⟨by rw [hc], _, m8, fun _ => rfl⟩
      · have hc := of_decide_eq_false hc
        rw [if_neg hc]
        exact ⟨rfl, _, m6.drop, fun h => absurd h hc⟩
    rw [V.asArr_other k0]
    have dk0 := decide_eq_false k0
    simp only [dk0, go_sem, Nat.reduceBEq]
    refine var_ldKind hd m.swap rfl ?_
    by_cases k4 : v.kind = 4
    case neg =>
      have dk4 := decide_eq_false k4
      simp only [dk4, go_sem, Nat.reduceBEq]
      rw [if_pos k4]
      exact ⟨rfl, v, m.drop, fun h => by simp at h⟩
    have dk4 := decide_eq_true k4
    simp only [dk4, dc, go_sem, Nat.reduceBEq]
    rw [if_neg (by simpa using k4)]
    have m3 := m.swap
    refine regionD_intro (lb := []) (by kernel_rfl) ?_
    simp only [go_sem, Nat.reduceBEq]
    refine var_load hd m3 rfl fun so ro => ?_
    simp only [ix0 _ (show 0 < r.length + 1 by omega), go_sem, Nat.reduceBEq]
    refine hsem_row (f := Ky.dt) (o := 0) (i := 0) (ds := k.dt) Ky.dt_len tyS40 (hatp'.mono m3.ext) (hrp.mono m3.ext) rfl (Nat.le_refl _) rfl ?_ fun ys q1 => ?_
    · omega
    rw [RdL_key q1]
    simp only [go_sem, Nat.reduceBEq]
    refine (iFindKey v k (by omega) _ _ ro).mono ?_
    rintro _ _ ⟨rfl, rfl⟩
    cases hf : v.find k with
    | none =>
      rw [V.find_none hf]
      simp only [ixI_none, Option.getD_none, go_sem, Nat.reduceBEq]
      refine Br.intro (fun hx => ?_) (fun hx => ?_) <;> (try simp only [hx, go_sem])
      case refine_1 => exact absurd (of_decide_eq_true hx) (by decide)
      (refine (iNull _).mono ?_; rintro _ _ ⟨rfl, rfl⟩; simp only [go_sem, Nat.reduceBEq])
      refine hsem_my_alloc (z := [.int .i64 0, .int .i64 0, .string ⟨#[]⟩, .int .i64 0, .slice none 0 0]) (by kernel_rfl) rfl m3 fun b0 h4 m4 => ?_
      simp only [go_sem, Nat.reduceBEq]
      refine var_store (w := V.null) (sl := .slice none 0 0) Hold.ptr rfl (m4.nilrow (z := 8)) rfl fun h5 m5 => ?_
      simp only [go_sem]
      refine regionD_intro (lb := [76]) (by kernel_rfl) ?_
      simp only [e3, go_sem, Nat.reduceBEq, Nat.reduceAdd, Nat.reduceLeDiff]
      refine (ih V.null push x wf_null (by decide) hpr _ _ _ _ Hold.ptr _ _ _ _ _ _ _ rp3 m5.third).mono ?_
      rintro _ h6 ⟨rfl, w, m6, hw⟩
      simp only [go_sem, Nat.reduceBEq]
      refine Br.intro (fun hc => ?_) (fun hc => ?_) <;> (try simp only [hc, go_sem, Nat.reduceBEq])
      · have hc := of_decide_eq_true hc
        rw [if_pos hc]
        have hw := hw hc
        subst hw
        refine regionD_intro (lb := []) (by kernel_rfl) ?_
        simp only [ix0 _ (show 0 < r.length + 1 by omega), go_sem, Nat.reduceBEq]
        refine hsem_row (f := Ky.dt) (o := 0) (i := 0) (ds := k.dt) Ky.dt_len tyS40 (hatp'.mono m6.ext) (hrp.mono m6.ext) rfl (Nat.le_refl _) rfl ?_ fun ys q2 => ?_
        · omega
        rw [RdL_key q2]
        simp only [go_sem, Nat.reduceBEq]
        refine var_take Hold.ptr m6 rfl fun a7 n7 m7 => ?_
        simp only [go_sem, Nat.reduceBEq]
        refine (iPutKey hd v k _ (by omega) _ _ _ _ _ _ m7).mono ?_
        rintro _ h8 ⟨rfl, m8⟩
        simp only [go_sem, Nat.reduceBEq]
        exact ⟨by rw [hc], _, m8, fun _ => rfl⟩
      · have hc := of_decide_eq_false hc
        rw [if_neg hc]
        exact ⟨rfl, _, m6.drop, fun h => absurd h hc⟩
    | some i =>
      obtain ⟨y, hx, hg, hlt⟩ := V.find_get hf
      have hyb := V.get_bulk hg
      have hyw := wf_get hwf hg
      rw [hg]
      simp only [ixI_some, Option.getD_some, go_sem, Nat.reduceBEq]
      refine Br.intro (fun hz => ?_) (fun hz => ?_) <;> (try simp only [hz, go_sem])
      case refine_2 => exact absurd (of_decide_eq_false hz) (by omega)
      obtain ⟨av, cv, m1⟩ := var_open hd m3
      obtain ⟨av', cv', e5, hcc, hcm, hat⟩ := m1.row_shape (by decide) v.items.length (fm_len edt_len _)
      cases e5
      obtain ⟨b5, rfl⟩ := hat (by omega)
      refine regionD_intro (lb := [70]) (by kernel_rfl) ?_
      simp only [go_sem, Nat.reduceBEq, Nat.reduceAdd]
      refine var_ldItems hd m1.drop rfl ?_
      simp only [ix_nat hlt, e3, go_sem, Nat.reduceBEq, Nat.reduceAdd, Nat.reduceLeDiff]
      obtain ⟨c6, hd6, hc6⟩ := hold_item (b := b5) (cap := cv) hx
      have hself : v.items.take i ++ (k, y) :: v.items.drop (i + 1) = v.items := by rw [← drop_cons hx, List.take_append_drop]
      have m2 : My h0 h ((.row 8 (x.items.flatMap edt), .slice ax lx cx) :: (c6 y.dt, .slice (some ⟨b5, 0, none⟩) v.items.length cv) :: (c (vraws v (.slice (some ⟨b5, 0, none⟩) v.items.length cv)), val) :: R) := by
        rw [hc6, hself]
        exact m1.third
      refine (ih y push x hyw (by omega) hpr _ _ _ _ hd6 _ _ _ _ _ _ _ rp3 m2).mono ?_
      rintro _ h6 ⟨rfl, w, m6, hw⟩
      rw [hc6] at m6
      have m7 := var_close (v := v.withItems (v.items.take i ++ (k, w) :: v.items.drop (i + 1))) hd m6
      simp only [go_sem, Nat.reduceBEq]
      by_cases hc : (y.put r push x).2 = 0
      · rw [if_pos hc]
        have hw := hw hc
        subst hw
        refine ⟨by rw [hc], _, m7, fun _ => ?_⟩
        simp only [V.setKey, hf, V.setAt, hx]
      · rw [if_neg hc]
        exact ⟨rfl, _, m7, fun h => absurd h hc⟩
theorem iSetPath (v : V) (path : List Ky) (push : Bool) (x : V) (hv : v.bulk ≤ 274877906944) (hx : x.bulk ≤ 274877906944) (hp : kbulk path ≤ 274877906944) (hpl : path.length ≤ 1099511627776) (sl sp sx : Value) (h : Hp) (rd : RdE h v.items sl) (rp : Rd h (.row 3 (path.flatMap Ky.dt)) sp) (rx : RdE h x.items sx) (hE : Env h) :
    ACalls Tryz.prog 106 #[.agg #[.int .i64 v.kind, .int .i64 v.num, .string v.str, .int .i64 v.next, sl], sp, .bool push, .agg #[.int .i64 x.kind, .int .i64 x.num, .string x.str, .int .i64 x.next, sx]] h (MadeI h (setOf v path push x).1 (setOf v path push x).2) := by
  have hBv := V.bulk_eq v
  have hBx := V.bulk_eq x
  have hpb := put_bulk path v push x
  have hBp := V.bulk_eq (v.put path push x).1
  obtain ⟨ap, cp, xp, rfl, _⟩ := rp.rows (by decide) path.length (fm_len Ky.dt_len _)
  obtain ⟨a, c, _, rfl, _⟩ := rd.rows (by decide) v.items.length (fm_len edt_len _)
  obtain ⟨ax, cx, _, rfl, _⟩ := rx.rows (by decide) x.items.length (fm_len edt_len _)
  unfold setOf
  (refine enter Tryz.func106 rfl rfl (by kernel_rfl) [10] ?_; simp only [go_sem, Nat.reduceBEq, Nat.reduceAdd, Nat.reduceLeDiff])
  refine (iIsValue v (by omega) _ _ rd hE).mono ?_
  rintro _ h1 ⟨rfl, e1⟩
  cases vv : v.valid with
  | false =>
      simp only [go_sem, Nat.reduceBEq, Nat.reduceAdd, Nat.reduceLeDiff]
      refine (copyValue_c v (by omega) _ _ (rd.mono e1)).mono ?_
      rintro _ h9 ⟨a9, c9, rfl, m9⟩
      simp only [go_sem, Nat.reduceBEq, Nat.reduceAdd, Nat.reduceLeDiff]
      exact ⟨_, _, rfl, m9.base e1⟩
  | true =>
  simp only [go_sem, Nat.reduceBEq, Nat.reduceAdd, Nat.reduceLeDiff]
  refine (iIsValue x (by omega) _ _ (rx.mono e1) (hE.ext e1)).mono ?_
  rintro _ h2 ⟨rfl, e2⟩
  have e12 := e1.trans e2
  cases vx : x.valid with
  | false =>
      simp only [go_sem, Nat.reduceBEq, Nat.reduceAdd, Nat.reduceLeDiff]
      refine (copyValue_c v (by omega) _ _ (rd.mono e12)).mono ?_
      rintro _ h9 ⟨a9, c9, rfl, m9⟩
      simp only [go_sem, Nat.reduceBEq, Nat.reduceAdd, Nat.reduceLeDiff]
      exact ⟨_, _, rfl, m9.base e12⟩
  | true =>
  simp only [go_sem, Nat.reduceBEq]
  refine (iAllKeys path hpl _ _ (rp.mono e12) (hE.ext e12)).mono ?_
  rintro _ h3 ⟨rfl, e3⟩
  have e13 := e12.trans e3
  cases vk : path.all keyOk with
  | false =>
      simp only [go_sem, Nat.reduceBEq, Nat.reduceAdd, Nat.reduceLeDiff]
      refine (copyValue_c v (by omega) _ _ (rd.mono e13)).mono ?_
      rintro _ h9 ⟨a9, c9, rfl, m9⟩
      simp only [go_sem, Nat.reduceBEq, Nat.reduceAdd, Nat.reduceLeDiff]
      exact ⟨_, _, rfl, m9.base e13⟩
  | true =>
  simp only [if_true]
  have hwf : v.wf = true := by
    unfold V.valid at vv
    rw [Bool.and_eq_true] at vv
    exact vv.2
  simp only [go_sem, Nat.reduceBEq, Nat.reduceAdd, Nat.reduceLeDiff]
  refine (copyValue_c v (by omega) _ _ (rd.mono e13)).mono ?_
  rintro _ h4 ⟨a4, c4, rfl, m4⟩
  simp only [go_sem, Nat.reduceBEq]
  refine hsem_my_alloc (z := [.int .i64 0, .int .i64 0, .string ⟨#[]⟩, .int .i64 0, .slice none 0 0]) (by kernel_rfl) rfl m4 fun b0 h5 m5 => ?_
  simp only [go_sem, Nat.reduceBEq]
  refine var_store (w := v) Hold.ptr rfl m5.swap rfl fun h6 m6 => ?_
  simp only [go_sem, Nat.reduceBEq, Nat.reduceAdd, Nat.reduceLeDiff]
  refine (copyValue_c x (by omega) _ _ (rx.mono (e13.trans m6.ext))).mono ?_
  rintro _ h7 ⟨a7, c7, rfl, m7⟩
  simp only [go_sem, Nat.reduceBEq]
  refine (iWrite path v push x hwf (by omega) hpl _ _ _ _ Hold.ptr _ _ _ _ _ _ _ (rp.mono e13) (m6.add m7)).mono ?_
  rintro _ h8 ⟨rfl, w, m8, hw⟩
  simp only [go_sem, Nat.reduceBEq]
  have rd8 := rd.mono (e13.trans m8.ext)
  refine Br.intro (fun hc => ?_) (fun hc => ?_) <;> (try simp only [hc, go_sem, Nat.reduceBEq, Nat.reduceAdd, Nat.reduceLeDiff])
  · have hc := of_decide_eq_true hc
    rw [if_pos hc]
    have hw := hw hc
    subst hw
    refine var_load Hold.ptr m8 rfl fun so ro => ?_
    simp only [go_sem, Nat.reduceBEq]
    (refine (iWeight _ (by omega) _ _ ro).mono ?_; rintro _ _ ⟨rfl, rfl⟩; simp only [go_sem, Nat.reduceBEq])
    simp only [d200, go_sem]
    refine Br.intro (fun hz => ?_) (fun hz => ?_) <;> (try simp only [hz, go_sem, Nat.reduceBEq, Nat.reduceAdd, Nat.reduceLeDiff, Int.reduceEq])
    · have hz : ¬ (v.put path push x).1.weight ≤ 200 := by simpa using hz
      rw [if_neg hz]
      refine (copyValue_c v (by omega) _ _ rd8).mono ?_
      rintro _ h9 ⟨a9, c9, rfl, m9⟩
      simp only [go_sem, Nat.reduceBEq, Nat.reduceAdd, Nat.reduceLeDiff]
      exact ⟨_, _, rfl, m9.base (e13.trans m8.ext)⟩
    · have hz : (v.put path push x).1.weight ≤ 200 := by simpa using hz
      rw [if_pos hz]
      have dz : decide ((v.put path push x).2 = 0) = true := decide_eq_true hc
      simp only [dz, go_sem, Nat.reduceBEq]
      refine var_take Hold.ptr m8 rfl fun a9 c9 m9 => ?_
      simp only [go_sem, Nat.reduceBEq, Nat.reduceAdd, Nat.reduceLeDiff]
      exact ⟨_, _, rfl, m9.base e13⟩
  · have hc := of_decide_eq_false hc
    rw [if_neg hc]
    have dz : decide ((v.put path push x).2 = 0) = false := decide_eq_false hc
    try simp only [go_sem]
    refine (copyValue_c v (by omega) _ _ rd8).mono ?_
    rintro _ h9 ⟨a9, c9, rfl, m9⟩
    simp only [go_sem, Nat.reduceBEq, Nat.reduceAdd, Nat.reduceLeDiff]
    exact ⟨_, _, rfl, m9.base (e13.trans m8.ext)⟩
end Go.Proofs.YtedfplodobpgfaaGreatDoor
namespace Go.Proofs.YtedfplodobpgfaaGreatDoor
set_option maxRecDepth 8000
open Go Go.Sx
theorem own_R {h0 : Hp} {l : List Bk} {v : V} {av : Option Addr} {bp : Nat} {R : Bag} {u : Value} {h' : Hp} (hv : Hv v) (q : HpOwn h0 l v (.agg #[.int .i64 v.kind, .int .i64 v.num, .string v.str, .int .i64 v.next, .slice av 0 0]) bp R u h') : HpR h0 (hnd (ownH l v).2) (ownH l v).1 bp R u h' := by
  by_cases h : v.kind = 5 ∧ (blk l v.num.toNat).count = 1
  · rw [HpOwn_same h] at q
    obtain ⟨rfl, a, n, m⟩ := q
    have e : ownH l v = (l, v.num.toNat) := by unfold ownH; rw [if_pos h.1, if_pos h.2]
    rw [e]
    obtain ⟨i, rfl⟩ : ∃ i, v = hnd i := ⟨_, hv.2 h.1⟩
    exact ⟨av, 0, a, n, rfl, m.nilrow (z := 8)⟩
  · rw [HpOwn_new h] at q
    exact q
theorem len_pos (k : Ky) (r : List Ky) : decide ((0 : Int) < (((k :: r).length : Nat) : Int)) = true := decide_eq_true (by rw [List.length_cons]; omega)
set_option maxHeartbeats 3200000 in
theorem iWriteSh {B : Nat} (hB : B ≤ 1048576) {l0 : List Bk} (hR : inR l0) (hC : allCh l0) (push : Bool) {x : V} (hx : x.bulk ≤ B) (hxi : Hv x) : ∀ (p : List Ky) {c : Int} {L : Nat} {l : List Bk} {v : V}, (∀ k ∈ p, keyOk k = true) → down l0 l → sInv c L B l → 1 ≤ c → c + 1024 * ((p.length : Int) + 1) ≤ 1099511627776 → L + p.length + 1 ≤ 1024 → was l0 v → Hv v → pathOk l0 p v push → refIn l.length x → l.length + p.length + 1 ≤ 1073741000 →
    ∀ (av ax : Option Addr) (sp : Value) (a : Option Addr) (n bp : Nat) (R : Bag) (h0 h : Hp), Rd h0 (.row 3 (p.flatMap Ky.dt)) sp → My h0 h (HpB l a n bp R) →
    ACalls Tryz.prog 107 #[.pointer (some ⟨bp, 0, none⟩), .agg #[.int .i64 v.kind, .int .i64 v.num, .string v.str, .int .i64 v.next, .slice av 0 0], sp, .bool push, .agg #[.int .i64 x.kind, .int .i64 x.num, .string x.str, .int .i64 x.next, .slice ax x.items.length 0]] h (HpR h0 (wrH p l v push x).2 (wrH p l v push x).1 bp R) := by
  intro p
  induction p with
  | nil =>
    intro c L l v hk hd hi hc hcb hL w hv po hr hlb av ax sp a n bp R h0 h rp my
    obtain ⟨ap, cp, _, rfl, _⟩ := rp.rows (by decide) ([] : List Ky).length (fm_len Ky.dt_len _)
    have hrv : refIn l.length v := fun q => by
      have := w q
      have := hd.len
      omega
    simp only [List.length_nil, Nat.add_zero] at hL hlb hcb
    (refine enter Tryz.func107 rfl rfl (by kernel_rfl) [] ?_; simp only [go_sem, Nat.reduceBEq])
    cases push with
    | false =>
      rw [wrH_drop]
      have hsl := hi.slots
      simp only [d00, go_sem, Nat.reduceBEq, Nat.reduceAdd, Nat.reduceLeDiff]
      refine (iDrop l.length (slotsN l + 1) (by omega) l v (by omega) (hi.inn.up (by omega)) hrv _ _ _ a n bp R h0 _ my).mono ?_
      rintro _ h2 ⟨rfl, m2⟩
      try simp only [go_sem, Nat.reduceBEq, Nat.reduceAdd, Nat.reduceLeDiff]
      exact ⟨ax, 0, a, n, rfl, m2.noitems hxi.1 ax⟩
    | true =>
      rw [wrH_push]
      have hkd : v.kind = 0 ∨ v.kind = 5 := (po rfl).imp id (·.1)
      have hp5 : v.kind = 5 → 0 < (blk l v.num.toNat).count := fun q => by
        obtain ⟨q1, q2, q3⟩ := w q
        exact (hd.same _ q2 q3).2
      obtain ⟨d1, i1, o1, o2, o3, o4⟩ := own_ok hd hi hc w
      simp only [d00, go_sem, Nat.reduceBEq, Nat.reduceAdd, Nat.reduceLeDiff]
      refine ((iOwn l v hi hc (by omega) hB (by omega) hkd hrv hp5 av 0 0 a n bp R h0 _ my).mono fun _ _ q => own_R hv q).mono ?_
      generalize (ownH l v).1 = l1 at *
      generalize (ownH l v).2 = i at *
      rintro _ h2 ⟨b2, c2, a2, n2, rfl, m2⟩
      have hc2 : c2 = 0 := My.cap0 (z := 8) m2
      subst hc2
      obtain ⟨_, _, es, _, _, hat⟩ := m2.drop.row_shape (by decide) l1.length (fm_len Bk.dt_len _)
      cases es
      obtain ⟨b, rfl⟩ := hat (by omega)
      have m3 : My h0 h2 ((.row 6 (l1.flatMap Bk.dt), .slice (some ⟨b, 0, none⟩) l1.length n2) :: (.ptr [] [.raw (.slice (some ⟨b, 0, none⟩) l1.length n2)] [], .pointer (some ⟨bp, 0, none⟩)) :: R) := m2.drop
      obtain ⟨tch, tlv, _, _⟩ := i1.bk i
      have hkk : keyOk ⟨false, (blk l1 i).tab.next, ⟨#[]⟩⟩ = true := by rw [o4]; exact push_ok hC (po rfl)
      obtain ⟨hx1, mA, mB⟩ := m3.swap.part
      obtain ⟨c, a3, n3, a4, n4, mo, hd3, hcu⟩ := tab_at o1 mB
      try simp only [d00, go_sem, Nat.reduceBEq, Nat.reduceAdd, Nat.reduceLeDiff]
      refine regionD_intro (lb := [36]) (by kernel_rfl) ?_
      simp only [go_sem, Nat.reduceBEq]
      refine Hold.ld1 (i := 0) Hold.ptr tyS58 m3.swap rfl rfl ?_
      simp only [hnd_num, ix_nat o1, go_sem, Nat.reduceBEq]
      refine tb_ldraw hd3 tyS36 mo.third (by omega) ?_
      simp only [go_sem, Nat.reduceBEq, Nat.reduceAdd, Nat.reduceLeDiff]
      refine regionD_still (lb := [45, 46, 48, 50]) (pl := [43]) hx1 mB.ext (by kernel_rfl) ?_
      simp only [go_sem, Nat.reduceBEq]
      refine Hold.ld1 (i := 0) Hold.ptr tyS58 mA rfl rfl ?_
      simp only [go_sem, Nat.reduceBEq, Nat.reduceAdd, Nat.reduceLeDiff]
      (refine (iIntKey _ _).mono ?_; rintro _ _ ⟨rfl, rfl⟩; simp only [go_sem, Nat.reduceBEq, Nat.reduceAdd, Nat.reduceLeDiff])
      refine ⟨mB.ext, ?_⟩
      try simp only [go_sem, Nat.reduceBEq, Nat.reduceAdd, Nat.reduceLeDiff, Nat.reduceEqDiff, Int.reduceEq, not_false_eq_true, Int.reduceToNat]
      have mx := mo.noitems hxi.1 ax
      refine (iPut (blk l1 i).tab tch ⟨false, (blk l1 i).tab.next, ⟨#[]⟩⟩ hkk x (fun _ => by omega) ax a3 a4 0 n3 n4 hx1 _ _ mx).mono ?_
      rintro _ h3 ⟨a8, c8, a9, c9, rfl, m4⟩
      refine ⟨m4.ext, ?_⟩
      simp only [ix_nat o1, go_sem, Nat.reduceBEq]
      refine tb_store hd3 tyS36 (traws_len _ _ _) m4 (by omega) fun h5 m5 => ?_
      rw [hcu] at m5
      refine ⟨m5.ext, ?_⟩
      have m6 := ((mA.add m5).perm List.perm_append_comm).swap
      try simp only [go_sem, Nat.reduceBEq, Nat.reduceAdd, Nat.reduceLeDiff]
      refine ⟨b2, 0, some ⟨b, 0, none⟩, n2, rfl, ?_⟩
      unfold HpB setT
      rw [List.length_set]
      exact m6.nilrow (z := 8)
  | cons k r ih =>
    intro c L l v hk hd hi hc hcb hL w hv po hr hlb av ax sp a n bp R h0 h rp my
    obtain ⟨ap, cp, xp, rfl, hcp, hrp, hatp⟩ := rp.rows (by decide) (k :: r).length (fm_len Ky.dt_len _)
    have hn : 0 < (k :: r).length := by rw [List.length_cons]; omega
    obtain ⟨bq, offp, rfl, hatp'⟩ := hatp hn
    have ix0 : ∀ n : Nat, 0 < n → ixA (some 3) (some ⟨bq, offp, none⟩) n 0 = some (.pointer (some ⟨bq, offp + 0 * 3, none⟩)) := fun n hn => ix_nat (i := 0) hn
    obtain ⟨aq, ysq, e3, rs3, rl3⟩ := Rd.sub Ky.dt_len rp 1 (k :: r).length (by simp only [List.length_cons]; omega) (Nat.le_refl _)
    have e3 : slA (some 3) (some ⟨bq, offp, none⟩) (r.length + 1) cp 1 ((r.length + 1 : Nat) : Int) = some (.slice aq (r.length + 1 - 1) (cp - 1)) := e3
    have rp3 : Rd h0 (.row 3 (r.flatMap Ky.dt)) (.slice aq (r.length + 1 - 1) (cp - 1)) := by
      simp only [Rd]
      exact ⟨_, rs3, by simpa using rl3⟩
    have hrv : refIn l.length v := fun q => by
      have := w q
      have := hd.len
      omega
    obtain ⟨hkd, po2⟩ : (v.kind = 0 ∨ v.kind = 5) ∧ pathOk l0 r (inner0 l0 v k) push := po
    have hk0 : keyOk k = true := hk k (by simp)
    have hks : k.str.size ≤ 1152921504606846976 := by have := keyOk_size hk0; omega
    have dc := dc0 k r
    have dp := len_pos k r
    simp only [List.length_cons] at hL hlb hcb dc dp
    rw [wrH_cons]
    (refine enter Tryz.func107 rfl rfl (by kernel_rfl) [] ?_; simp only [go_sem, Nat.reduceBEq])
    have hp5 : v.kind = 5 → 0 < (blk l v.num.toNat).count := fun q => by
      obtain ⟨q1, q2, q3⟩ := w q
      exact (hd.same _ q2 q3).2
    obtain ⟨d1, i1, o1, o2, o3, o4⟩ := own_ok hd hi hc w
    simp only [dc, go_sem, Nat.reduceBEq, Nat.reduceAdd, Nat.reduceLeDiff]
    refine ((iOwn l v hi hc (by omega) hB (by omega) hkd hrv hp5 av 0 0 a n bp R h0 _ my).mono fun _ _ q => own_R hv q).mono ?_
    generalize (ownH l v).1 = l1 at *
    generalize (ownH l v).2 = i at *
    rintro _ h2 ⟨b2, c2, a2, n2, rfl, m2⟩
    have hc2 : c2 = 0 := My.cap0 (z := 8) m2
    subst hc2
    obtain ⟨_, _, es, _, _, hat⟩ := m2.drop.row_shape (by decide) l1.length (fm_len Bk.dt_len _)
    cases es
    obtain ⟨b, rfl⟩ := hat (by omega)
    have m3 : My h0 h2 ((.row 6 (l1.flatMap Bk.dt), .slice (some ⟨b, 0, none⟩) l1.length n2) :: (.ptr [] [.raw (.slice (some ⟨b, 0, none⟩) l1.length n2)] [], .pointer (some ⟨bp, 0, none⟩)) :: R) := m2.drop
    obtain ⟨tch, tlv, _, _⟩ := i1.bk i
    obtain ⟨c, a3, n3, a4, n4, mo, hd3, hcu⟩ := tab_at o1 m3
    obtain ⟨_, _, es4, _, _, hat4⟩ := mo.drop.row_shape (by decide) (blk l1 i).tab.slots.length (fm_len Sl.dt_len _)
    cases es4
    try simp only [go_sem, Nat.reduceBEq, Nat.reduceAdd, Nat.reduceLeDiff]
    (refine (iNull _).mono ?_; rintro _ _ ⟨rfl, rfl⟩; simp only [go_sem, Nat.reduceBEq, Nat.reduceAdd, Nat.reduceLeDiff])
    refine ⟨trivial, ?_⟩
    try simp only [go_sem, Nat.reduceBEq, Nat.reduceAdd, Nat.reduceLeDiff, Nat.reduceEqDiff, Int.reduceEq, not_false_eq_true, Int.reduceToNat]
    refine regionD_intro (lb := [61]) (by kernel_rfl) ?_
    simp only [go_sem, Nat.reduceBEq]
    refine Hold.ld1 (i := 0) Hold.ptr tyS58 m3.swap rfl rfl ?_
    simp only [hnd_num, ix_nat o1, go_sem, Nat.reduceBEq]
    refine tb_ldraw hd3 tyS36 mo.third (by omega) ?_
    simp only [ix0 _ (show 0 < r.length + 1 by omega), go_sem, Nat.reduceBEq]
    refine hsem_row (f := Ky.dt) (o := 0) (i := 0) (ds := k.dt) Ky.dt_len tyS40 (hatp'.mono m3.ext) (hrp.mono m3.ext) rfl (Nat.le_refl _) rfl ?_ fun ys q1 => ?_
    · omega
    rw [RdL_key q1]
    simp only [go_sem, Nat.reduceBEq]
    (refine (iFind (blk l1 i).tab k tch hks _ _ _ mo.rd mo.drop.rd).mono ?_; rintro _ _ ⟨rfl, rfl⟩; simp only [go_sem, Nat.reduceBEq])
    cases hf : (blk l1 i).tab.find k with
    | none =>
      have eI : innerH l1 i k = V.zero := innerH_none hf
      have ew : inner0 l0 v k = V.zero := by rw [← inner_tab o4 k, eI]
      have wI : was l0 V.zero := ew ▸ inner_was hR w k
      have hvI : Hv V.zero := hv_zero
      simp only [ixI_none, go_sem]
      refine Br.intro (fun hz => ?_) (fun hz => ?_) <;> (try simp only [hz, go_sem])
      case refine_1 => exact absurd (of_decide_eq_true hz) (by decide)
      have w1 := wr_ok hR hC push hx r (fun q hq => hk q (by simp [hq])) d1 i1 (by omega) (by omega) wI (ew ▸ po2) (hr.up o3)
      obtain ⟨s2, s3, s4, s5, s6⟩ := w1
      try refine ⟨trivial, ?_⟩
      refine regionD_intro (lb := [86, 90]) (by kernel_rfl) ?_
      simp only [e3, go_sem, Nat.reduceBEq, Nat.reduceAdd, Nat.reduceLeDiff]
      refine (ih (v := V.zero) (fun q hq => hk q (by simp [hq])) d1 i1 (by omega) (by omega) (by omega) wI hvI (ew ▸ po2) (hr.up o3) (by omega) none ax _ _ n2 bp R h0 _ rp3 m3).mono ?_
      rw [eI] at *
      generalize (wrH r l1 (V.zero) push x).1 = l2 at *
      generalize (wrH r l1 (V.zero) push x).2 = w2 at *
      rintro _ h5 ⟨b5, c5, a5, n5, rfl, m5⟩
      have o5 : i < l2.length := by omega
      obtain ⟨t2ch, t2lv, _, _⟩ := s2.bk i
      obtain ⟨_, _, es6, _, _, hat6⟩ := m5.drop.row_shape (by decide) l2.length (fm_len Bk.dt_len _)
      cases es6
      obtain ⟨b6, rfl⟩ := hat6 (by omega)
      have m5 : My h0 h5 ((.row 8 (w2.items.flatMap edt), .slice b5 w2.items.length c5) :: (.row 6 (l2.flatMap Bk.dt), .slice (some ⟨b6, 0, none⟩) l2.length n5) :: (.ptr [] [.raw (.slice (some ⟨b6, 0, none⟩) l2.length n5)] [], .pointer (some ⟨bp, 0, none⟩)) :: R) := m5
      simp only [go_sem, Nat.reduceBEq, Nat.reduceAdd, Nat.reduceLeDiff]
      obtain ⟨hx1, mA, mB⟩ := m5.third.part
      obtain ⟨c7, a7, n7, a8, n8, mp, hd7, hc7⟩ := tab_at o5 mB.swap
      refine regionD_still (lb := [97, 103, 110]) (pl := [95]) hx1 mB.ext (by kernel_rfl) ?_
      simp only [go_sem, Nat.reduceBEq]
      refine Hold.ld1 (i := 0) Hold.ptr tyS58 mA rfl rfl ?_
      simp only [go_sem, Nat.reduceBEq]
      refine Hold.ld1 (i := 0) Hold.ptr tyS58 m5.third rfl rfl ?_
      simp only [ix_nat o5, go_sem, Nat.reduceBEq]
      refine tb_ldraw hd7 tyS36 mp.third (by omega) ?_
      simp only [ix0 _ (show 0 < r.length + 1 by omega), go_sem, Nat.reduceBEq]
      refine hsem_row (f := Ky.dt) (o := 0) (i := 0) (ds := k.dt) Ky.dt_len tyS40 (hatp'.mono m5.ext) (hrp.mono m5.ext) rfl (Nat.le_refl _) rfl ?_ fun ys q2 => ?_
      · omega
      rw [RdL_key q2]
      simp only [go_sem, Nat.reduceBEq, Nat.reduceAdd, Nat.reduceLeDiff]
      refine (iPut (blk l2 i).tab t2ch k hk0 w2 (fun _ => by omega) b5 a7 a8 c5 n7 n8 hx1 _ _ mp.fourth).mono ?_
      rintro _ h6 ⟨a10, c10, a11, c11, rfl, m7⟩
      refine ⟨m7.ext, ?_⟩
      simp only [ix_nat o5, go_sem, Nat.reduceBEq]
      refine tb_store hd7 tyS36 (traws_len _ _ _) m7 (by omega) fun h8 m8 => ?_
      rw [hc7] at m8
      refine ⟨m8.ext, ?_⟩
      have m9 := ((mA.add m8).perm List.perm_append_comm).swap
      try simp only [go_sem, Nat.reduceBEq, Nat.reduceAdd, Nat.reduceLeDiff]
      refine ⟨b2, 0, some ⟨b6, 0, none⟩, n5, rfl, ?_⟩
      unfold HpB setT
      rw [List.length_set]
      exact m9.nilrow (z := 8)
    | some j =>
      obtain ⟨s, hs, hsl⟩ := Tb.find_live hf
      have hjl := lt_of_get hs
      obtain ⟨b4, rfl⟩ := hat4 (by omega)
      have eI : innerH l1 i k = s.val := innerH_some hf hs
      have ew : inner0 l0 v k = s.val := by rw [← inner_tab o4 k, eI]
      have wI : was l0 s.val := ew ▸ inner_was hR w k
      have hvI : Hv s.val := ew ▸ inner_hv hR v k
      obtain ⟨a5', hld⟩ := slot_ld hs hvI.1 mo.drop
      simp only [ixI_some, go_sem]
      refine Br.intro (fun hz => ?_) (fun hz => ?_) <;> (try simp only [hz, go_sem])
      case refine_2 => exact absurd (of_decide_eq_false hz) (by omega)
      refine regionD_intro (lb := [76]) (by kernel_rfl) ?_
      simp only [go_sem, Nat.reduceBEq]
      refine Hold.ld1 (i := 0) Hold.ptr tyS58 m3.swap rfl rfl ?_
      simp only [ix_nat o1, go_sem, Nat.reduceBEq, Nat.reduceAdd]
      refine Hold.ld1 (i := 2) hd3 tyS34 mo.third rfl (by omega) ?_
      simp only [ix_nat hjl, go_sem, Nat.reduceBEq, Nat.reduceAdd]
      refine hld _ _ _ tyS44 (by omega) ?_
      simp only [go_sem, Nat.reduceBEq, Nat.reduceAdd, Nat.reduceLeDiff]
      have w1 := wr_ok hR hC push hx r (fun q hq => hk q (by simp [hq])) d1 i1 (by omega) (by omega) wI (ew ▸ po2) (hr.up o3)
      obtain ⟨s2, s3, s4, s5, s6⟩ := w1
      try refine ⟨trivial, ?_⟩
      refine regionD_intro (lb := [86, 90]) (by kernel_rfl) ?_
      simp only [e3, go_sem, Nat.reduceBEq, Nat.reduceAdd, Nat.reduceLeDiff]
      refine (ih (v := s.val) (fun q hq => hk q (by simp [hq])) d1 i1 (by omega) (by omega) (by omega) wI hvI (ew ▸ po2) (hr.up o3) (by omega) a5' ax _ _ n2 bp R h0 _ rp3 m3).mono ?_
      rw [eI] at *
      generalize (wrH r l1 (s.val) push x).1 = l2 at *
      generalize (wrH r l1 (s.val) push x).2 = w2 at *
      rintro _ h5 ⟨b5, c5, a5, n5, rfl, m5⟩
      have o5 : i < l2.length := by omega
      obtain ⟨t2ch, t2lv, _, _⟩ := s2.bk i
      obtain ⟨_, _, es6, _, _, hat6⟩ := m5.drop.row_shape (by decide) l2.length (fm_len Bk.dt_len _)
      cases es6
      obtain ⟨b6, rfl⟩ := hat6 (by omega)
      have m5 : My h0 h5 ((.row 8 (w2.items.flatMap edt), .slice b5 w2.items.length c5) :: (.row 6 (l2.flatMap Bk.dt), .slice (some ⟨b6, 0, none⟩) l2.length n5) :: (.ptr [] [.raw (.slice (some ⟨b6, 0, none⟩) l2.length n5)] [], .pointer (some ⟨bp, 0, none⟩)) :: R) := m5
      simp only [go_sem, Nat.reduceBEq, Nat.reduceAdd, Nat.reduceLeDiff]
      obtain ⟨hx1, mA, mB⟩ := m5.third.part
      obtain ⟨c7, a7, n7, a8, n8, mp, hd7, hc7⟩ := tab_at o5 mB.swap
      refine regionD_still (lb := [97, 103, 110]) (pl := [95]) hx1 mB.ext (by kernel_rfl) ?_
      simp only [go_sem, Nat.reduceBEq]
      refine Hold.ld1 (i := 0) Hold.ptr tyS58 mA rfl rfl ?_
      simp only [go_sem, Nat.reduceBEq]
      refine Hold.ld1 (i := 0) Hold.ptr tyS58 m5.third rfl rfl ?_
      simp only [ix_nat o5, go_sem, Nat.reduceBEq]
      refine tb_ldraw hd7 tyS36 mp.third (by omega) ?_
      simp only [ix0 _ (show 0 < r.length + 1 by omega), go_sem, Nat.reduceBEq]
      refine hsem_row (f := Ky.dt) (o := 0) (i := 0) (ds := k.dt) Ky.dt_len tyS40 (hatp'.mono m5.ext) (hrp.mono m5.ext) rfl (Nat.le_refl _) rfl ?_ fun ys q2 => ?_
      · omega
      rw [RdL_key q2]
      simp only [go_sem, Nat.reduceBEq, Nat.reduceAdd, Nat.reduceLeDiff]
      refine (iPut (blk l2 i).tab t2ch k hk0 w2 (fun _ => by omega) b5 a7 a8 c5 n7 n8 hx1 _ _ mp.fourth).mono ?_
      rintro _ h6 ⟨a10, c10, a11, c11, rfl, m7⟩
      refine ⟨m7.ext, ?_⟩
      simp only [ix_nat o5, go_sem, Nat.reduceBEq]
      refine tb_store hd7 tyS36 (traws_len _ _ _) m7 (by omega) fun h8 m8 => ?_
      rw [hc7] at m8
      refine ⟨m8.ext, ?_⟩
      have m9 := ((mA.add m8).perm List.perm_append_comm).swap
      try simp only [go_sem, Nat.reduceBEq, Nat.reduceAdd, Nat.reduceLeDiff]
      refine ⟨b2, 0, some ⟨b6, 0, none⟩, n5, rfl, ?_⟩
      unfold HpB setT
      rw [List.length_set]
      exact m9.nilrow (z := 8)
set_option maxHeartbeats 3200000 in
theorem sWriteSh {B : Nat} (hB : B ≤ 1048576) {l0 : List Bk} (hR : inR l0) (hC : allCh l0) (push : Bool) {x : V} (hx : x.bulk ≤ B) (hxi : Hv x) : ∀ (p : List Ky) {c : Int} {L : Nat} {l : List Bk} {v : V}, (∀ k ∈ p, keyOk k = true) → down l0 l → sInv c L B l → 1 ≤ c → c + 1024 * ((p.length : Int) + 1) ≤ 1099511627776 → L + p.length + 1 ≤ 1024 → was l0 v → Hv v → pathOk l0 p v push → refIn l.length x → l.length + p.length + 1 ≤ 1073741000 →
    ∀ (av ax : Option Addr) (sp : Value) (a : Option Addr) (n bp : Nat) (R : Bag) (h0 h : Hp), Rd h0 (.row 3 (p.flatMap Ky.dt)) sp → My h0 h (HpB l a n bp R) →
    ACalls Tryz.prog 104 #[.pointer (some ⟨bp, 0, none⟩), .agg #[.int .i64 v.kind, .int .i64 v.num, .string v.str, .int .i64 v.next, .slice av 0 0], sp, .bool push, .agg #[.int .i64 x.kind, .int .i64 x.num, .string x.str, .int .i64 x.next, .slice ax x.items.length 0]] h (HpR h0 (wrH p l v push x).2 (wrH p l v push x).1 bp R) := by
  intro p
  induction p with
  | nil =>
    intro c L l v hk hd hi hc hcb hL w hv po hr hlb av ax sp a n bp R h0 h rp my
    obtain ⟨ap, cp, _, rfl, _⟩ := rp.rows (by decide) ([] : List Ky).length (fm_len Ky.dt_len _)
    have hrv : refIn l.length v := fun q => by
      have := w q
      have := hd.len
      omega
    simp only [List.length_nil, Nat.add_zero] at hL hlb hcb
    (refine enter Tryz.func104 rfl rfl (by kernel_rfl) [] ?_; simp only [go_sem, Nat.reduceBEq])
    cases push with
    | false =>
      rw [wrH_drop]
      have hsl := hi.slots
      simp only [d00, go_sem, Nat.reduceBEq, Nat.reduceAdd, Nat.reduceLeDiff]
      refine (sDrop l.length (slotsN l + 1) (by omega) l v (by omega) (hi.inn.up (by omega)) hrv _ _ _ a n bp R h0 _ my).mono ?_
      rintro _ h2 ⟨rfl, m2⟩
      try simp only [go_sem, Nat.reduceBEq, Nat.reduceAdd, Nat.reduceLeDiff]
      exact ⟨ax, 0, a, n, rfl, m2.noitems hxi.1 ax⟩
    | true =>
      rw [wrH_push]
      have hkd : v.kind = 0 ∨ v.kind = 5 := (po rfl).imp id (·.1)
      have hp5 : v.kind = 5 → 0 < (blk l v.num.toNat).count := fun q => by
        obtain ⟨q1, q2, q3⟩ := w q
        exact (hd.same _ q2 q3).2
      obtain ⟨d1, i1, o1, o2, o3, o4⟩ := own_ok hd hi hc w
      simp only [d00, go_sem, Nat.reduceBEq, Nat.reduceAdd, Nat.reduceLeDiff]
      refine ((sOwn l v hi hc (by omega) hB (by omega) hkd hrv hp5 av 0 0 a n bp R h0 _ my).mono fun _ _ q => own_R hv q).mono ?_
      generalize (ownH l v).1 = l1 at *
      generalize (ownH l v).2 = i at *
      rintro _ h2 ⟨b2, c2, a2, n2, rfl, m2⟩
      have hc2 : c2 = 0 := My.cap0 (z := 8) m2
      subst hc2
      obtain ⟨_, _, es, _, _, hat⟩ := m2.drop.row_shape (by decide) l1.length (fm_len Bk.dt_len _)
      cases es
      obtain ⟨b, rfl⟩ := hat (by omega)
      have m3 : My h0 h2 ((.row 6 (l1.flatMap Bk.dt), .slice (some ⟨b, 0, none⟩) l1.length n2) :: (.ptr [] [.raw (.slice (some ⟨b, 0, none⟩) l1.length n2)] [], .pointer (some ⟨bp, 0, none⟩)) :: R) := m2.drop
      obtain ⟨tch, tlv, _, _⟩ := i1.bk i
      have hkk : keyOk ⟨false, (blk l1 i).tab.next, ⟨#[]⟩⟩ = true := by rw [o4]; exact push_ok hC (po rfl)
      obtain ⟨c, a3, n3, a4, n4, mo, hd3, hcu⟩ := tab_at o1 m3
      try simp only [go_sem, Nat.reduceBEq, Nat.reduceAdd, Nat.reduceLeDiff]
      refine regionD_intro (lb := [34]) (by kernel_rfl) ?_
      simp only [go_sem, Nat.reduceBEq]
      refine Hold.ld1 (i := 0) Hold.ptr tyS58 m3.swap rfl rfl ?_
      simp only [hnd_num, ix_nat o1, go_sem, Nat.reduceBEq]
      refine tb_ldraw hd3 tyS36 mo.third (by omega) ?_
      simp only [go_sem, Nat.reduceBEq, Nat.reduceAdd, Nat.reduceLeDiff]
      have mx := mo.noitems hxi.1 ax
      refine (sSet (blk l1 i).tab tch _ hkk x ax a3 a4 0 n3 n4 h0 _ _ mx).mono ?_
      rintro _ h3 ⟨_, rfl, a8, c8, a9, c9, rfl, m4⟩
      rw [set_yes (roomy_of (fun _ => by omega))] at m4 ⊢
      simp only [go_sem, Nat.reduceBEq, Nat.reduceAdd, Nat.reduceLeDiff]
      try refine ⟨trivial, ?_⟩
      refine regionD_intro (lb := [87, 88]) (by kernel_rfl) ?_
      simp only [go_sem, Nat.reduceBEq]
      refine Hold.ld1 (i := 0) Hold.ptr tyS58 m4.fourth rfl rfl ?_
      simp only [ix_nat o1, go_sem, Nat.reduceBEq, Nat.reduceAdd, Nat.reduceLeDiff]
      refine tb_store hd3 tyS36 (traws_len _ _ _) m4 (by omega) fun h5 m5 => ?_
      rw [hcu] at m5
      try simp only [go_sem, Nat.reduceBEq, Nat.reduceAdd, Nat.reduceLeDiff]
      refine ⟨b2, 0, some ⟨b, 0, none⟩, n2, rfl, ?_⟩
      unfold HpB setT
      rw [List.length_set]
      exact m5.nilrow (z := 8)
  | cons k r ih =>
    intro c L l v hk hd hi hc hcb hL w hv po hr hlb av ax sp a n bp R h0 h rp my
    obtain ⟨ap, cp, xp, rfl, hcp, hrp, hatp⟩ := rp.rows (by decide) (k :: r).length (fm_len Ky.dt_len _)
    have hn : 0 < (k :: r).length := by rw [List.length_cons]; omega
    obtain ⟨bq, offp, rfl, hatp'⟩ := hatp hn
    have ix0 : ∀ n : Nat, 0 < n → ixA (some 3) (some ⟨bq, offp, none⟩) n 0 = some (.pointer (some ⟨bq, offp + 0 * 3, none⟩)) := fun n hn => ix_nat (i := 0) hn
    obtain ⟨aq, ysq, e3, rs3, rl3⟩ := Rd.sub Ky.dt_len rp 1 (k :: r).length (by simp only [List.length_cons]; omega) (Nat.le_refl _)
    have e3 : slA (some 3) (some ⟨bq, offp, none⟩) (r.length + 1) cp 1 ((r.length + 1 : Nat) : Int) = some (.slice aq (r.length + 1 - 1) (cp - 1)) := e3
    have rp3 : Rd h0 (.row 3 (r.flatMap Ky.dt)) (.slice aq (r.length + 1 - 1) (cp - 1)) := by
      simp only [Rd]
      exact ⟨_, rs3, by simpa using rl3⟩
    have hrv : refIn l.length v := fun q => by
      have := w q
      have := hd.len
      omega
    obtain ⟨hkd, po2⟩ : (v.kind = 0 ∨ v.kind = 5) ∧ pathOk l0 r (inner0 l0 v k) push := po
    have hk0 : keyOk k = true := hk k (by simp)
    have hks : k.str.size ≤ 1152921504606846976 := by have := keyOk_size hk0; omega
    have dc := dc0 k r
    have dp := len_pos k r
    simp only [List.length_cons] at hL hlb hcb dc dp
    rw [wrH_cons]
    (refine enter Tryz.func104 rfl rfl (by kernel_rfl) [] ?_; simp only [go_sem, Nat.reduceBEq])
    have hp5 : v.kind = 5 → 0 < (blk l v.num.toNat).count := fun q => by
      obtain ⟨q1, q2, q3⟩ := w q
      exact (hd.same _ q2 q3).2
    obtain ⟨d1, i1, o1, o2, o3, o4⟩ := own_ok hd hi hc w
    simp only [dc, go_sem, Nat.reduceBEq, Nat.reduceAdd, Nat.reduceLeDiff]
    refine ((sOwn l v hi hc (by omega) hB (by omega) hkd hrv hp5 av 0 0 a n bp R h0 _ my).mono fun _ _ q => own_R hv q).mono ?_
    generalize (ownH l v).1 = l1 at *
    generalize (ownH l v).2 = i at *
    rintro _ h2 ⟨b2, c2, a2, n2, rfl, m2⟩
    have hc2 : c2 = 0 := My.cap0 (z := 8) m2
    subst hc2
    obtain ⟨_, _, es, _, _, hat⟩ := m2.drop.row_shape (by decide) l1.length (fm_len Bk.dt_len _)
    cases es
    obtain ⟨b, rfl⟩ := hat (by omega)
    have m3 : My h0 h2 ((.row 6 (l1.flatMap Bk.dt), .slice (some ⟨b, 0, none⟩) l1.length n2) :: (.ptr [] [.raw (.slice (some ⟨b, 0, none⟩) l1.length n2)] [], .pointer (some ⟨bp, 0, none⟩)) :: R) := m2.drop
    obtain ⟨tch, tlv, _, _⟩ := i1.bk i
    obtain ⟨c, a3, n3, a4, n4, mo, hd3, hcu⟩ := tab_at o1 m3
    obtain ⟨_, _, es4, _, _, hat4⟩ := mo.drop.row_shape (by decide) (blk l1 i).tab.slots.length (fm_len Sl.dt_len _)
    cases es4
    try simp only [go_sem, Nat.reduceBEq, Nat.reduceAdd, Nat.reduceLeDiff]
    refine regionD_intro (lb := [34]) (by kernel_rfl) ?_
    simp only [go_sem, Nat.reduceBEq]
    refine Hold.ld1 (i := 0) Hold.ptr tyS58 m3.swap rfl rfl ?_
    simp only [hnd_num, ix_nat o1, go_sem, Nat.reduceBEq]
    refine tb_ldraw hd3 tyS36 mo.third (by omega) ?_
    simp only [dp, go_sem, Nat.reduceBEq, Nat.reduceAdd, Nat.reduceLeDiff]
    simp only [ix0 _ (show 0 < r.length + 1 by omega), go_sem, Nat.reduceBEq]
    refine hsem_row (f := Ky.dt) (o := 0) (i := 0) (ds := k.dt) Ky.dt_len tyS40 (hatp'.mono m3.ext) (hrp.mono m3.ext) rfl (Nat.le_refl _) rfl ?_ fun ys q1 => ?_
    · omega
    rw [RdL_key q1]
    simp only [go_sem, Nat.reduceBEq, Nat.reduceAdd, Nat.reduceLeDiff]
    (refine (sFind7 (blk l1 i).tab k tch hks _ _ _ mo.rd mo.drop.rd).mono ?_; rintro _ _ ⟨rfl, rfl⟩; simp only [go_sem, Nat.reduceBEq])
    cases hf : (blk l1 i).tab.find k with
    | none =>
      have eI : innerH l1 i k = V.zero := innerH_none hf
      have ew : inner0 l0 v k = V.zero := by rw [← inner_tab o4 k, eI]
      have wI : was l0 V.zero := ew ▸ inner_was hR w k
      have hvI : Hv V.zero := hv_zero
      simp only [ixI_none, go_sem]
      refine Br.intro (fun hz => ?_) (fun hz => ?_) <;> (try simp only [hz, go_sem, Nat.reduceBEq])
      case refine_1 => exact absurd (of_decide_eq_true hz) (by decide)
      have w1 := wr_ok hR hC push hx r (fun q hq => hk q (by simp [hq])) d1 i1 (by omega) (by omega) wI (ew ▸ po2) (hr.up o3)
      obtain ⟨s2, s3, s4, s5, s6⟩ := w1
      try refine ⟨trivial, ?_⟩
      refine regionD_intro (lb := [60, 64]) (by kernel_rfl) ?_
      simp only [e3, go_sem, Nat.reduceBEq, Nat.reduceAdd, Nat.reduceLeDiff]
      refine (ih (v := V.zero) (fun q hq => hk q (by simp [hq])) d1 i1 (by omega) (by omega) (by omega) wI hvI (ew ▸ po2) (hr.up o3) (by omega) none ax _ _ n2 bp R h0 _ rp3 m3).mono ?_
      rw [eI] at *
      generalize (wrH r l1 (V.zero) push x).1 = l2 at *
      generalize (wrH r l1 (V.zero) push x).2 = w2 at *
      rintro _ h5 ⟨b5, c5, a5, n5, rfl, m5⟩
      have o5 : i < l2.length := by omega
      obtain ⟨t2ch, t2lv, _, _⟩ := s2.bk i
      obtain ⟨_, _, es6, _, _, hat6⟩ := m5.drop.row_shape (by decide) l2.length (fm_len Bk.dt_len _)
      cases es6
      obtain ⟨b6, rfl⟩ := hat6 (by omega)
      have m5 : My h0 h5 ((.row 8 (w2.items.flatMap edt), .slice b5 w2.items.length c5) :: (.row 6 (l2.flatMap Bk.dt), .slice (some ⟨b6, 0, none⟩) l2.length n5) :: (.ptr [] [.raw (.slice (some ⟨b6, 0, none⟩) l2.length n5)] [], .pointer (some ⟨bp, 0, none⟩)) :: R) := m5
      simp only [go_sem, Nat.reduceBEq, Nat.reduceAdd, Nat.reduceLeDiff]
      obtain ⟨c7, a7, n7, a8, n8, mp, hd7, hc7⟩ := tab_at o5 m5.swap
      try refine ⟨trivial, ?_⟩
      refine regionD_intro (lb := [71]) (by kernel_rfl) ?_
      simp only [go_sem, Nat.reduceBEq]
      refine Hold.ld1 (i := 0) Hold.ptr tyS58 m5.third rfl rfl ?_
      simp only [ix_nat o5, go_sem, Nat.reduceBEq]
      refine tb_ldraw hd7 tyS36 mp.third (by omega) ?_
      simp only [go_sem, Nat.reduceBEq, Nat.reduceAdd, Nat.reduceLeDiff]
      refine (sSet (blk l2 i).tab t2ch k hk0 w2 b5 a7 a8 c5 n7 n8 h0 _ _ mp.fourth).mono ?_
      rintro _ h6 ⟨_, rfl, a10, c10, a11, c11, rfl, m7⟩
      rw [set_yes (roomy_of (fun _ => by omega))] at m7 ⊢
      simp only [go_sem, Nat.reduceBEq, Nat.reduceAdd, Nat.reduceLeDiff]
      try refine ⟨trivial, ?_⟩
      refine regionD_intro (lb := [87, 88]) (by kernel_rfl) ?_
      simp only [go_sem, Nat.reduceBEq]
      refine Hold.ld1 (i := 0) Hold.ptr tyS58 m7.fourth rfl rfl ?_
      simp only [ix_nat o5, go_sem, Nat.reduceBEq, Nat.reduceAdd, Nat.reduceLeDiff]
      refine tb_store hd7 tyS36 (traws_len _ _ _) m7 (by omega) fun h8 m8 => ?_
      rw [hc7] at m8
      try simp only [go_sem, Nat.reduceBEq, Nat.reduceAdd, Nat.reduceLeDiff]
      refine ⟨b2, 0, some ⟨b6, 0, none⟩, n5, rfl, ?_⟩
      unfold HpB setT
      rw [List.length_set]
      exact m8.nilrow (z := 8)
    | some j =>
      obtain ⟨s, hs, hsl⟩ := Tb.find_live hf
      have hjl := lt_of_get hs
      obtain ⟨b4, rfl⟩ := hat4 (by omega)
      have eI : innerH l1 i k = s.val := innerH_some hf hs
      have ew : inner0 l0 v k = s.val := by rw [← inner_tab o4 k, eI]
      have wI : was l0 s.val := ew ▸ inner_was hR w k
      have hvI : Hv s.val := ew ▸ inner_hv hR v k
      obtain ⟨a5', hld⟩ := slot_ld hs hvI.1 mo.drop
      simp only [ixI_some, go_sem]
      refine Br.intro (fun hz => ?_) (fun hz => ?_) <;> (try simp only [hz, go_sem, Nat.reduceBEq])
      case refine_2 => exact absurd (of_decide_eq_false hz) (by omega)
      simp only [ix_nat hjl, go_sem, Nat.reduceBEq, Nat.reduceAdd]
      refine hld _ _ _ tyS44 (by omega) ?_
      simp only [go_sem, Nat.reduceBEq, Nat.reduceAdd, Nat.reduceLeDiff]
      have w1 := wr_ok hR hC push hx r (fun q hq => hk q (by simp [hq])) d1 i1 (by omega) (by omega) wI (ew ▸ po2) (hr.up o3)
      obtain ⟨s2, s3, s4, s5, s6⟩ := w1
      try refine ⟨trivial, ?_⟩
      refine regionD_intro (lb := [60, 64]) (by kernel_rfl) ?_
      simp only [e3, go_sem, Nat.reduceBEq, Nat.reduceAdd, Nat.reduceLeDiff]
      refine (ih (v := s.val) (fun q hq => hk q (by simp [hq])) d1 i1 (by omega) (by omega) (by omega) wI hvI (ew ▸ po2) (hr.up o3) (by omega) a5' ax _ _ n2 bp R h0 _ rp3 m3).mono ?_
      rw [eI] at *
      generalize (wrH r l1 (s.val) push x).1 = l2 at *
      generalize (wrH r l1 (s.val) push x).2 = w2 at *
      rintro _ h5 ⟨b5, c5, a5, n5, rfl, m5⟩
      have o5 : i < l2.length := by omega
      obtain ⟨t2ch, t2lv, _, _⟩ := s2.bk i
      obtain ⟨_, _, es6, _, _, hat6⟩ := m5.drop.row_shape (by decide) l2.length (fm_len Bk.dt_len _)
      cases es6
      obtain ⟨b6, rfl⟩ := hat6 (by omega)
      have m5 : My h0 h5 ((.row 8 (w2.items.flatMap edt), .slice b5 w2.items.length c5) :: (.row 6 (l2.flatMap Bk.dt), .slice (some ⟨b6, 0, none⟩) l2.length n5) :: (.ptr [] [.raw (.slice (some ⟨b6, 0, none⟩) l2.length n5)] [], .pointer (some ⟨bp, 0, none⟩)) :: R) := m5
      simp only [go_sem, Nat.reduceBEq, Nat.reduceAdd, Nat.reduceLeDiff]
      obtain ⟨c7, a7, n7, a8, n8, mp, hd7, hc7⟩ := tab_at o5 m5.swap
      try refine ⟨trivial, ?_⟩
      refine regionD_intro (lb := [71]) (by kernel_rfl) ?_
      simp only [go_sem, Nat.reduceBEq]
      refine Hold.ld1 (i := 0) Hold.ptr tyS58 m5.third rfl rfl ?_
      simp only [ix_nat o5, go_sem, Nat.reduceBEq]
      refine tb_ldraw hd7 tyS36 mp.third (by omega) ?_
      simp only [go_sem, Nat.reduceBEq, Nat.reduceAdd, Nat.reduceLeDiff]
      refine (sSet (blk l2 i).tab t2ch k hk0 w2 b5 a7 a8 c5 n7 n8 h0 _ _ mp.fourth).mono ?_
      rintro _ h6 ⟨_, rfl, a10, c10, a11, c11, rfl, m7⟩
      rw [set_yes (roomy_of (fun _ => by omega))] at m7 ⊢
      simp only [go_sem, Nat.reduceBEq, Nat.reduceAdd, Nat.reduceLeDiff]
      try refine ⟨trivial, ?_⟩
      refine regionD_intro (lb := [87, 88]) (by kernel_rfl) ?_
      simp only [go_sem, Nat.reduceBEq]
      refine Hold.ld1 (i := 0) Hold.ptr tyS58 m7.fourth rfl rfl ?_
      simp only [ix_nat o5, go_sem, Nat.reduceBEq, Nat.reduceAdd, Nat.reduceLeDiff]
      refine tb_store hd7 tyS36 (traws_len _ _ _) m7 (by omega) fun h8 m8 => ?_
      rw [hc7] at m8
      try simp only [go_sem, Nat.reduceBEq, Nat.reduceAdd, Nat.reduceLeDiff]
      refine ⟨b2, 0, some ⟨b6, 0, none⟩, n5, rfl, ?_⟩
      unfold HpB setT
      rw [List.length_set]
      exact m8.nilrow (z := 8)
end Go.Proofs.YtedfplodobpgfaaGreatDoor
namespace Go.Proofs.YtedfplodobpgfaaGreatDoor
set_option maxRecDepth 8000
open Go Go.Sx
theorem arrI_c (h : Hp) : ACalls Tryz.prog 143 #[] h (Pu (.agg #[.int .i64 4, .int .i64 0, .string ⟨#[]⟩, .int .i64 0, .slice none 0 0]) h) := by
  (refine enter Tryz.func143 rfl rfl (by kernel_rfl) [] ?_; simp only [go_sem, Nat.reduceBEq, Nat.reduceAdd, Nat.reduceLeDiff])
  exact ⟨rfl, rfl⟩
theorem arrS_c (h : Hp) : ACalls Tryz.prog 142 #[] h (Pu (.agg #[.int .i64 4, .int .i64 0, .string ⟨#[]⟩, .int .i64 0, .slice none 0 0]) h) := by
  (refine enter Tryz.func142 rfl rfl (by kernel_rfl) [] ?_; simp only [go_sem, Nat.reduceBEq, Nat.reduceAdd, Nat.reduceLeDiff])
  exact ⟨rfl, rfl⟩
end Go.Proofs.YtedfplodobpgfaaGreatDoor
namespace Go.Proofs.YtedfplodobpgfaaGreatDoor
set_option maxRecDepth 8000
open Go Go.Sx
def LoadI (l : List Bk) (f : Nat) : Prop := ∀ (v : V), weighed l f v → ∀ (s sl : Value) (h : Hp), RdB h l s → RdE h v.items sl → ACalls Tryz.prog 85 #[.agg #[s], .agg #[.int .i64 v.kind, .int .i64 v.num, .string v.str, .int .i64 v.next, sl]] h (Made h (ldF l f v))
set_option maxHeartbeats 800000 in
theorem iLoad (l : List Bk) (hb : szG Bk.bulk l ≤ 1099511627776) (hin : inR l) : ∀ f, LoadI l f
  | 0, v, w, s, sl, h, r1, rd => by
    have hit := (held_items w.1).1
    have h5 : ¬ v.kind = 5 := fun q => by
      obtain ⟨n, hn⟩ := w.2 q
      cases hn
    have hlen := szG_len (w := Bk.bulk) l
    obtain ⟨a1, c1, xs1, rfl, hc1, hr1, hat1⟩ := r1.rows (by decide) l.length (fm_len Bk.dt_len _)
    obtain ⟨a, c, xs, rfl, hc, hr, hat⟩ := rd.rows (by decide) v.items.length (fm_len edt_len _)
    (refine enter Tryz.func85 rfl rfl (by kernel_rfl) [] ?_; simp only [go_sem, Nat.reduceBEq])
    simp only [decide_eq_false h5, Bool.not_false, go_sem, Nat.reduceBEq, Nat.reduceAdd, Nat.reduceLeDiff]
    refine (copyValue_c v (by rw [hit]; decide) _ _ rd).mono ?_
    rintro _ h2 ⟨a3, c3, rfl, m2⟩
    simp only [go_sem, Nat.reduceBEq, Nat.reduceAdd, Nat.reduceLeDiff]
    exact ⟨_, _, rfl, m2⟩
  | f + 1, v, w, s, sl, h, r1, rd => by
    have hit := (held_items w.1).1
    have hlen := szG_len (w := Bk.bulk) l
    obtain ⟨a1, c1, xs1, rfl, hc1, hr1, hat1⟩ := r1.rows (by decide) l.length (fm_len Bk.dt_len _)
    obtain ⟨a, c, xs, rfl, hc, hr, hat⟩ := rd.rows (by decide) v.items.length (fm_len edt_len _)
    (refine enter Tryz.func85 rfl rfl (by kernel_rfl) [] ?_; simp only [go_sem, Nat.reduceBEq])
    by_cases h5 : v.kind = 5
    case neg =>
      rw [ldF_other h5]
      simp only [decide_eq_false h5, Bool.not_false, go_sem, Nat.reduceBEq, Nat.reduceAdd, Nat.reduceLeDiff]
      refine (copyValue_c v (by rw [hit]; decide) _ _ rd).mono ?_
      rintro _ h2 ⟨a3, c3, rfl, m2⟩
      simp only [go_sem, Nat.reduceBEq, Nat.reduceAdd, Nat.reduceLeDiff]
      exact ⟨_, _, rfl, m2⟩
    rw [ldF_handle h5]
    obtain ⟨q1, q2, q3⟩ := held_num w.1 h5
    have hbk := blk_at q2
    have hsb := slots_bulk hbk
    obtain ⟨hsl, hsv⟩ := tab_slots (blk l v.num.toNat).tab
    have kids := w.kids hin h5
    obtain ⟨b1, o1, rfl, hat1'⟩ := hat1 (by omega)
    simp only [decide_eq_true h5, Bool.not_true, ix_int q1 q2, go_sem, Nat.reduceBEq]
    refine hsem_btab tyS36 hat1' hr1 hbk (by omega) fun s2 u2 rh ru => ?_
    obtain ⟨a3, c3, xs3, rfl, hc3, hr3, hat3⟩ := rh.rows (by decide) (blk l v.num.toNat).tab.heads.length (fm_len idt_len _)
    obtain ⟨a2, c2, xs2, rfl, hc2, hr2, hat2⟩ := ru.rows (by decide) (blk l v.num.toNat).tab.slots.length (fm_len Sl.dt_len _)
    generalize htt : (blk l v.num.toNat).tab = t at *
    try simp only [go_sem, Nat.reduceBEq, Nat.reduceAdd, Nat.reduceLeDiff]
    (refine (arrI_c _).mono ?_; rintro _ _ ⟨rfl, rfl⟩; simp only [go_sem, Nat.reduceBEq, Nat.reduceAdd, Nat.reduceLeDiff])
    refine aloop (ι := Nat × Value) (fun x => [(28, .val (.int .i64 (x.1 : Nat))), (27, .val (.int .i64 (t.slots.length : Nat))), (26, .val (.slice a2 t.slots.length c2)), (6, .box 6 0), (4, .box 4 0), (2, .box 2 0)])
      (fun x => [(6, [.int .i64 4, .int .i64 0, .string ⟨#[]⟩, .int .i64 t.next, x.2]), (4, [.int .i64 0, .int .i64 0, .string ⟨#[]⟩, .int .i64 0, .slice none 0 0]), (2, [.slice (some ⟨b1, o1, none⟩) l.length c1])])
      (fun x h' => x.1 ≤ t.slots.length ∧ My h h' [(.row 8 ((ldS (ldF l f) (t.slots.take x.1)).flatMap edt), x.2)]) (fun x => t.slots.length - x.1) (0, .slice none 0 0)
      ⟨Nat.zero_le _, (My.nil (Ext.refl h)).nilrow⟩ (by repeat (first | exact wkF_e | refine wkF_c rfl ?_)) (wkB_c rfl (wkB_c rfl (wkB_c rfl wkB_e))) rfl ?_
    rintro ⟨i, o⟩ h1 ⟨hi, m1⟩
    have hi : i ≤ t.slots.length := hi
    have m1 : My h h1 [(.row 8 ((ldS (ldF l f) (t.slots.take i)).flatMap edt), o)] := m1
    have hvl := ldS_le (ldF l f) t.slots i
    have htl : ((ldS (ldF l f) (t.slots.take i)).flatMap edt).length = (ldS (ldF l f) (t.slots.take i)).length * 8 := fm_len edt_len _
    obtain ⟨ao, co, rfl, _⟩ := m1.row_shape (by decide) _ htl
    simp only [go_sem, Nat.reduceBEq]
    refine Br.intro (fun hq => ?_) (fun hq => ?_) <;> (try simp only [hq, go_sem, Nat.reduceBEq, Nat.reduceAdd, Nat.reduceLeDiff])
    · have hq : i < t.slots.length := by simpa using hq
      obtain ⟨b, off, rfl, hat'⟩ := hat2 (by omega)
      obtain ⟨e, he, hm⟩ := get_lt hq
      have wsu := wrap_succ (i := i) (by omega)
      simp only [ix_nat hq, go_sem, Nat.reduceBEq]
      refine hsem_slot tyS134 (hat'.mono m1.ext) (hr2.mono m1.ext) he rfl fun s2 rd2 => ?_
      obtain ⟨a5, c5, _, rfl, _⟩ := rd2.rows (by decide) e.val.items.length (fm_len edt_len _)
      cases hv : e.live with
      | false =>
        simp only [wsu, go_sem, Nat.reduceBEq, Nat.reduceAdd, Nat.reduceLeDiff]
        exact Again.intro (i + 1, .slice ao (ldS (ldF l f) (t.slots.take i)).length co) (by first | omega | (simp only; omega)) ⟨hq, by rw [ldS_snoc he, hv]; exact m1⟩ (by repeat (first | exact wkF_e | refine wkF_c rfl ?_)) (wkB_c rfl (wkB_c rfl (wkB_c rfl wkB_e))) rfl
      | true =>
      try simp only [go_sem, Nat.reduceBEq, Nat.reduceAdd, Nat.reduceLeDiff]
      refine regionD_intro (lb := [35, 37, 38, 40]) (by kernel_rfl) ?_
      simp only [go_sem, Nat.reduceBEq, Nat.reduceAdd, Nat.reduceLeDiff]
      refine (iLoad l hb hin f e.val (kids i e he hv) _ _ _ (r1.mono m1.ext) rd2).mono ?_
      rintro _ h2 ⟨a3, c3, rfl, m2⟩
      simp only [go_sem, Nat.reduceBEq, Nat.reduceAdd, Nat.reduceLeDiff]
      have m3 := (m1.add m2)
      refine hsem_my_lit (h0 := h) (es := edt (e.key, ldF l f e.val)) (parts := [(0, .agg #[.bool e.key.text, .int .i64 e.key.num, .string e.key.str, .int .i64 (ldF l f e.val).kind, .int .i64 (ldF l f e.val).num, .string (ldF l f e.val).str, .int .i64 (ldF l f e.val).next, .slice a3 (ldF l f e.val).items.length c3])]) slT42 (by decide) (by decide) (by decide) rfl rfl (by simp [Value.cells]) (bag := [(.row 8 ((ldS (ldF l f) (t.slots.take i)).flatMap edt), .slice ao (ldS (ldF l f) (t.slots.take i)).length co)]) ?_ rfl (edt_len _) fun l4 h4 m4 => ?_
      · simp only [edt_eq, flat, List.flatMap_cons, List.flatMap_nil, List.append_nil, cells_agg, List.zip_cons_cons, List.zip_nil_right, List.cons_append, List.nil_append, My.raw_iff, one_bool, one_int, one_str, and_self, true_and]
        exact m3
      simp only [go_sem, Nat.reduceBEq]
      refine hsem_my_append slT42 (by decide) rfl (ldS (ldF l f) (t.slots.take i)).length 1 m4.swap htl (edt_len _) (by show ((ldS (ldF l f) (t.slots.take i)).length + 1) * 96 ≤ _; omega) (by omega) fun l5 h5' m5 => ?_
      have m5 : My h h5' [(.row 8 ((ldS (ldF l f) (t.slots.take i)).flatMap edt ++ edt (e.key, ldF l f e.val)), l5)] := m5
      have e5 : (ldS (ldF l f) (t.slots.take i)).flatMap edt ++ edt (e.key, ldF l f e.val) = (ldS (ldF l f) (t.slots.take (i + 1))).flatMap edt := by rw [ldS_snoc he, hv, if_pos rfl, List.flatMap_append, List.flatMap_cons, List.flatMap_nil, List.append_nil]
      rw [e5] at m5
      obtain ⟨a6, c6, rfl, _⟩ := m5.row_shape (by decide) _ (fm_len edt_len _)
      simp only [wsu, go_sem, Nat.reduceBEq, Nat.reduceAdd, Nat.reduceLeDiff]
      exact Again.intro (i + 1, .slice a6 (ldS (ldF l f) (t.slots.take (i + 1))).length c6) (by first | omega | (simp only; omega)) ⟨hq, m5⟩ (by repeat (first | exact wkF_e | refine wkF_c rfl ?_)) (wkB_c rfl (wkB_c rfl (wkB_c rfl wkB_e))) rfl
    · have hq : i = t.slots.length := by simp at hq; omega
      subst hq
      rw [List.take_length] at m1
      simp only [List.take_length, go_sem]
      try simp only [go_sem, Nat.reduceBEq, Nat.reduceAdd, Nat.reduceLeDiff, Nat.reduceEqDiff, Int.reduceEq, not_false_eq_true, Int.reduceToNat]
      exact ⟨_, _, rfl, m1⟩
/-- what reads as one thing reads as the other -/
def AsC (d e : Dt) : Prop := ∀ (h : Hp) (v : Value), Rd h d v → Rd h e v
def AsL (ds es : List Dt) : Prop := ds.length = es.length ∧ ∀ (h : Hp) (xs : List Value), RdL h ds xs → RdL h es xs
theorem AsL.nil : AsL [] [] := ⟨rfl, fun _ _ r => r⟩
theorem AsL.append {p q p' q' : List Dt} (h1 : AsL p p') (h2 : AsL q q') : AsL (p ++ q) (p' ++ q') := ⟨by rw [List.length_append, List.length_append, h1.1, h2.1], fun h xs r => by
  obtain ⟨ys, zs, rfl, r1, r2⟩ := r.split
  exact (h1.2 h ys r1).append (h2.2 h zs r2)⟩
theorem AsC.row {z : Nat} {ds es : List Dt} (h1 : AsL ds es) : AsC (.row z ds) (.row z es) := fun h v r => by
  simp only [Rd] at r ⊢
  obtain ⟨xs, r1, r2⟩ := r
  exact ⟨xs, r1, h1.2 h xs r2⟩
theorem AsC.empty {z : Nat} {h0 : Hp} {u : Value} (r : Rd h0 (.row z []) u) : AsC (.raw u) (.row z []) := fun h v q => by
  obtain ⟨rfl, _⟩ := Rd_raw.1 q
  simp only [Rd, RdL] at r ⊢
  obtain ⟨xs, r1, rfl⟩ := r
  refine ⟨[], ?_, rfl⟩
  obtain ⟨⟨a, n, c, rfl, k1, k2, k3⟩, k4⟩ := r1
  exact ⟨⟨a, n, c, rfl, k1, k2, .inl rfl⟩, k4⟩
def ecs (k : Ky) (x : V) (d : Dt) : List Dt := [.raw (.bool k.text), .raw (.int .i64 k.num), .raw (.string k.str), .raw (.int .i64 x.kind), .raw (.int .i64 x.num), .raw (.string x.str), .raw (.int .i64 x.next), d]
theorem AsL.entry {k : Ky} {x : V} {d : Dt} (h1 : AsC d (.row 8 (x.items.flatMap edt))) : AsL (ecs k x d) (edt (k, x)) := ⟨by rw [edt_len]; rfl, fun h xs r => by
  rw [edt_eq]
  simp only [ecs, RdL_cons, RdL_nil, Rd_raw] at r
  obtain ⟨_, _, rfl, ⟨rfl, _⟩, _, _, rfl, ⟨rfl, _⟩, _, _, rfl, ⟨rfl, _⟩, _, _, rfl, ⟨rfl, _⟩, _, _, rfl, ⟨rfl, _⟩, _, _, rfl, ⟨rfl, _⟩, _, _, rfl, ⟨rfl, _⟩, _, _, rfl, hd, rfl⟩ := r
  simp only [RdL_cc, Rd_raw, RdL_nil, true_and, and_true]
  exact ⟨rfl, rfl, rfl, rfl, rfl, rfl, rfl, h1 h _ hd⟩⟩
/-- a value that reads, some of its memory old -/
def LdR (h : Hp) (v : V) (u : Value) (h' : Hp) : Prop := ∃ a c d, u = .agg #[.int .i64 v.kind, .int .i64 v.num, .string v.str, .int .i64 v.next, .slice a v.items.length c] ∧ My h h' [(d, .slice a v.items.length c)] ∧ AsC d (.row 8 (v.items.flatMap edt))
def LoadS (l : List Bk) (f : Nat) : Prop := ∀ (v : V), weighed l f v → ∀ (bp op : Nat) (s sl : Value) (h : Hp), At h ⟨bp, op, none⟩ [s] → RdB h l s → RdE h v.items sl → ACalls Tryz.prog 83 #[.pointer (some ⟨bp, op, none⟩), .agg #[.int .i64 v.kind, .int .i64 v.num, .string v.str, .int .i64 v.next, sl]] h (LdR h (ldF l f v))
set_option maxHeartbeats 1600000 in
theorem sLoad (l : List Bk) (hb : szG Bk.bulk l ≤ 1099511627776) (hin : inR l) : ∀ f, LoadS l f
  | 0, v, w, bp, op, s, sl, h, hp, r1, rd => by
    have hit := (held_items w.1).1
    have h5 : ¬ v.kind = 5 := fun q => by
      obtain ⟨n, hn⟩ := w.2 q
      cases hn
    obtain ⟨a, c, xs, rfl, hc, hr, hat⟩ := rd.rows (by decide) v.items.length (fm_len edt_len _)
    have has0 : AsC (.raw (.slice a v.items.length c)) (.row 8 (v.items.flatMap edt)) := by
      have rd : Rd h (.row 8 (v.items.flatMap edt)) (.slice a v.items.length c) := rd
      rw [hit] at rd ⊢
      exact AsC.empty rd
    (refine enter Tryz.func83 rfl rfl (by kernel_rfl) [] ?_; simp only [go_sem, Nat.reduceBEq])
    simp only [decide_eq_false h5, Bool.not_false, go_sem, Nat.reduceBEq, Nat.reduceAdd, Nat.reduceLeDiff]
    exact ⟨_, _, _, rfl, (My.nil (Ext.refl h)).raw rfl, has0⟩
  | f + 1, v, w, bp, op, s, sl, h, hp, r1, rd => by
    have hit := (held_items w.1).1
    have hlen := szG_len (w := Bk.bulk) l
    obtain ⟨a1, c1, xs1, rfl, hc1, hr1, hat1⟩ := r1.rows (by decide) l.length (fm_len Bk.dt_len _)
    obtain ⟨a, c, xs, rfl, hc, hr, hat⟩ := rd.rows (by decide) v.items.length (fm_len edt_len _)
    have has0 : AsC (.raw (.slice a v.items.length c)) (.row 8 (v.items.flatMap edt)) := by
      have rd : Rd h (.row 8 (v.items.flatMap edt)) (.slice a v.items.length c) := rd
      rw [hit] at rd ⊢
      exact AsC.empty rd
    (refine enter Tryz.func83 rfl rfl (by kernel_rfl) [] ?_; simp only [go_sem, Nat.reduceBEq])
    by_cases h5 : v.kind = 5
    case neg =>
      rw [ldF_other h5]
      simp only [decide_eq_false h5, Bool.not_false, go_sem, Nat.reduceBEq, Nat.reduceAdd, Nat.reduceLeDiff]
      exact ⟨_, _, _, rfl, (My.nil (Ext.refl h)).raw rfl, has0⟩
    rw [ldF_handle h5]
    obtain ⟨q1, q2, q3⟩ := held_num w.1 h5
    have hbk := blk_at q2
    have hsb := slots_bulk hbk
    obtain ⟨hsl, hsv⟩ := tab_slots (blk l v.num.toNat).tab
    have kids := w.kids hin h5
    obtain ⟨b1, o1, rfl, hat1'⟩ := hat1 (by omega)
    simp only [decide_eq_true h5, Bool.not_true, go_sem]
    refine regionD_intro (lb := [17]) (by kernel_rfl) ?_
    simp only [go_sem, Nat.reduceBEq]
    refine hsem_at1 (i := 0) tyS58 hp rfl (by omega) ?_
    simp only [ix_int q1 q2, go_sem, Nat.reduceBEq]
    refine hsem_btab tyS36 hat1' hr1 hbk (by omega) fun s2 u2 rh ru => ?_
    obtain ⟨a3, c3, xs3, rfl, hc3, hr3, hat3⟩ := rh.rows (by decide) (blk l v.num.toNat).tab.heads.length (fm_len idt_len _)
    obtain ⟨a2, c2, xs2, rfl, hc2, hr2, hat2⟩ := ru.rows (by decide) (blk l v.num.toNat).tab.slots.length (fm_len Sl.dt_len _)
    generalize htt : (blk l v.num.toNat).tab = t at *
    try simp only [go_sem, Nat.reduceBEq, Nat.reduceAdd, Nat.reduceLeDiff]
    (refine (arrS_c _).mono ?_; rintro _ _ ⟨rfl, rfl⟩; simp only [go_sem, Nat.reduceBEq, Nat.reduceAdd, Nat.reduceLeDiff])
    refine aloop (ι := Nat × Value × List Dt) (fun x => [(7, .val (.int .i64 (x.1 : Nat))), (6, .box 6 0), (5, .box 5 0), (4, .box 4 0), (0, .val (.pointer (some ⟨bp, op, none⟩)))])
      (fun x => [(6, [.int .i64 4, .int .i64 0, .string ⟨#[]⟩, .int .i64 t.next, x.2.1]), (5, [.bool t.hashed, .slice a3 t.heads.length c3, .slice a2 t.slots.length c2, .int .i64 t.next, .int .i64 t.count]), (4, [.int .i64 0, .int .i64 0, .string ⟨#[]⟩, .int .i64 0, .slice none 0 0])])
      (fun x h' => x.1 ≤ t.slots.length ∧ My h h' [(.row 8 x.2.2, x.2.1)] ∧ AsL x.2.2 ((ldS (ldF l f) (t.slots.take x.1)).flatMap edt)) (fun x => t.slots.length - x.1) (0, .slice none 0 0, [])
      ⟨Nat.zero_le _, (My.nil (Ext.refl h)).nilrow, AsL.nil⟩ (by repeat (first | exact wkF_e | refine wkF_c rfl ?_)) (wkB_c rfl (wkB_c rfl (wkB_c rfl wkB_e))) rfl ?_
    rintro ⟨i, o, ds⟩ h1 ⟨hi, m1, al⟩
    have hi : i ≤ t.slots.length := hi
    have m1 : My h h1 [(.row 8 ds, o)] := m1
    have al : AsL ds ((ldS (ldF l f) (t.slots.take i)).flatMap edt) := al
    have hvl := ldS_le (ldF l f) t.slots i
    have htl : ds.length = (ldS (ldF l f) (t.slots.take i)).length * 8 := by rw [al.1, fm_len edt_len]
    obtain ⟨ao, co, rfl, _⟩ := m1.row_shape (by decide) _ htl
    simp only [go_sem, Nat.reduceBEq]
    refine Br.intro (fun hq => ?_) (fun hq => ?_) <;> (try simp only [hq, go_sem, Nat.reduceBEq, Nat.reduceAdd, Nat.reduceLeDiff])
    · have hq : i < t.slots.length := by simpa using hq
      obtain ⟨b, off, rfl, hat'⟩ := hat2 (by omega)
      obtain ⟨e, he, hm⟩ := get_lt hq
      have wsu := wrap_succ (i := i) (by omega)
      simp only [ix_nat hq, go_sem, Nat.reduceBEq, Nat.reduceAdd]
      refine hsem_slive tyS4 (hat'.mono m1.ext) (hr2.mono m1.ext) he rfl ?_
      cases hv : e.live with
      | false =>
        simp only [wsu, go_sem, Nat.reduceBEq]
        exact Again.intro (i + 1, .slice ao (ldS (ldF l f) (t.slots.take i)).length co, ds) (by first | omega | (simp only; omega)) ⟨hq, m1, by rw [ldS_snoc he, hv]; exact al⟩ (by repeat (first | exact wkF_e | refine wkF_c rfl ?_)) (wkB_c rfl (wkB_c rfl (wkB_c rfl wkB_e))) rfl
      | true =>
      try simp only [go_sem, Nat.reduceBEq]
      refine regionD_still (lb := [39, 41, 48]) (pl := [45]) h m1.ext (by kernel_rfl) ?_
      simp only [ix_nat hq, go_sem, Nat.reduceBEq]
      refine hsem_skey tyS40 hat' hr2 he rfl ?_
      simp only [ix_nat hq, go_sem, Nat.reduceBEq, Nat.reduceAdd]
      refine hsem_sval tyS44 (hat'.mono m1.ext) (hr2.mono m1.ext) he rfl fun s2 rd2 => ?_
      simp only [go_sem, Nat.reduceBEq]
      refine (sLoad l hb hin f e.val (kids i e he hv) bp op _ _ _ (hp.mono m1.ext) (r1.mono m1.ext) rd2).mono ?_
      rintro _ h2 ⟨a3, c3, d, rfl, m2, ad⟩
      simp only [go_sem, Nat.reduceBEq, Nat.reduceAdd, Nat.reduceLeDiff]
      refine ⟨m1.ext.trans m2.ext, ?_⟩
      have m3 := m1.add m2
      have ae := AsL.entry (k := e.key) ad
      refine hsem_my_lit (h0 := h) (es := ecs e.key (ldF l f e.val) d) (parts := [(0, .agg #[.bool e.key.text, .int .i64 e.key.num, .string e.key.str, .int .i64 (ldF l f e.val).kind, .int .i64 (ldF l f e.val).num, .string (ldF l f e.val).str, .int .i64 (ldF l f e.val).next, .slice a3 (ldF l f e.val).items.length c3])]) slT42 (by decide) (by decide) (by decide) rfl rfl (by simp [Value.cells]) (bag := [(.row 8 ds, .slice ao (ldS (ldF l f) (t.slots.take i)).length co)]) ?_ rfl rfl fun l4 h4 m4 => ?_
      · simp only [ecs, flat, List.flatMap_cons, List.flatMap_nil, List.append_nil, cells_agg, List.zip_cons_cons, List.zip_nil_right, List.cons_append, List.nil_append, My.raw_iff, one_bool, one_int, one_str, and_self, true_and]
        exact m3
      simp only [go_sem, Nat.reduceBEq]
      refine ⟨m4.ext, ?_⟩
      refine hsem_my_append slT42 (by decide) rfl (ldS (ldF l f) (t.slots.take i)).length 1 m4.swap htl rfl (by show ((ldS (ldF l f) (t.slots.take i)).length + 1) * 96 ≤ _; omega) (by omega) fun l5 h5' m5 => ?_
      have m5 : My h h5' [(.row 8 (ds ++ ecs e.key (ldF l f e.val) d), l5)] := m5
      have al5 : AsL (ds ++ ecs e.key (ldF l f e.val) d) ((ldS (ldF l f) (t.slots.take (i + 1))).flatMap edt) := by
        rw [ldS_snoc he, hv, if_pos rfl, List.flatMap_append, List.flatMap_cons, List.flatMap_nil, List.append_nil]
        exact al.append ae
      obtain ⟨a6, c6, rfl, _⟩ := m5.row_shape (by decide) (ldS (ldF l f) (t.slots.take (i + 1))).length (by rw [al5.1, fm_len edt_len])
      simp only [wsu, go_sem, Nat.reduceBEq, Nat.reduceAdd, Nat.reduceLeDiff]
      refine ⟨m5.ext, ?_⟩
      try simp only [wsu, go_sem, Nat.reduceBEq, Nat.reduceAdd, Nat.reduceLeDiff, Nat.reduceEqDiff, Int.reduceEq, not_false_eq_true, Int.reduceToNat]
      exact Again.intro (i + 1, .slice a6 (ldS (ldF l f) (t.slots.take (i + 1))).length c6, ds ++ ecs e.key (ldF l f e.val) d) (by first | omega | (simp only; omega)) ⟨hq, m5, al5⟩ (by repeat (first | exact wkF_e | refine wkF_c rfl ?_)) (wkB_c rfl (wkB_c rfl (wkB_c rfl wkB_e))) rfl
    · have hq : i = t.slots.length := by simp at hq; omega
      subst hq
      rw [List.take_length] at m1 al
      simp only [List.take_length, go_sem]
      try simp only [go_sem, Nat.reduceBEq, Nat.reduceAdd, Nat.reduceLeDiff, Nat.reduceEqDiff, Int.reduceEq, not_false_eq_true, Int.reduceToNat]
      exact ⟨_, _, _, rfl, m1, AsC.row al⟩
end Go.Proofs.YtedfplodobpgfaaGreatDoor
namespace Go.Proofs.YtedfplodobpgfaaGreatDoor
set_option maxRecDepth 8000
open Go Go.Sx
/-- a heap, a value and a number, made anew -/
def MadeHC (h : Hp) (l : List Bk) (w : V) (n : Int) (u : Value) (h' : Hp) : Prop := ∃ a c b d, u = .tuple #[.agg #[.slice a l.length c], .agg #[.int .i64 w.kind, .int .i64 w.num, .string w.str, .int .i64 w.next, .slice b w.items.length d], .int .i64 n] ∧ My h h' [(.row 6 (l.flatMap Bk.dt), .slice a l.length c), (.row 8 (w.items.flatMap edt), .slice b w.items.length d)]
theorem setOf_code {v x : V} {p : List Ky} {push : Bool} (h1 : v.valid = true) (h2 : x.valid = true) (h3 : p.all keyOk = true) : (setOf v p push x).2 = putCode v p push x := by
  unfold setOf putCode
  rw [h1, h2, h3]
  simp only [Bool.and_self, if_true]
  split
  · split <;> rfl
  · rfl
theorem sPut12 (v : V) (path : List Ky) (push : Bool) (x : V) (hv : v.bulk ≤ 274877906944) (hx : x.bulk ≤ 274877906944) (hp : kbulk path ≤ 274877906944) (hpl : path.length ≤ 1099511627776) (sl sp sx : Value) (h : Hp) (rd : RdE h v.items sl) (rp : Rd h (.row 3 (path.flatMap Ky.dt)) sp) (rx : RdE h x.items sx) :
    ACalls Tryz.prog 103 #[.agg #[.int .i64 v.kind, .int .i64 v.num, .string v.str, .int .i64 v.next, sl], sp, .bool push, .agg #[.int .i64 x.kind, .int .i64 x.num, .string x.str, .int .i64 x.next, sx]] h (fun u h' => ∃ w, PutP h (w, putCode v path push x) u h') := by
  have hBv := V.bulk_eq v
  have hBx := V.bulk_eq x
  have hpb := put_bulk path v push x
  have hBp := V.bulk_eq (v.put path push x).1
  obtain ⟨ap, cp, xp, rfl, _⟩ := rp.rows (by decide) path.length (fm_len Ky.dt_len _)
  obtain ⟨a, c, _, rfl, _⟩ := rd.rows (by decide) v.items.length (fm_len edt_len _)
  obtain ⟨ax, cx, _, rfl, _⟩ := rx.rows (by decide) x.items.length (fm_len edt_len _)
  unfold putCode
  (refine enter Tryz.func103 rfl rfl (by kernel_rfl) [] ?_; simp only [go_sem, Nat.reduceBEq, Nat.reduceAdd, Nat.reduceLeDiff])
  refine (sl12Set path v push x (by omega) hpl _ _ _ _ rd rp rx).mono ?_
  rintro _ h1 ⟨a1, c1, rfl, e1, r1⟩
  simp only [go_sem, Nat.reduceBEq, Nat.reduceAdd, Nat.reduceLeDiff]
  refine Br.intro (fun hc => ?_) (fun hc => ?_) <;> (try simp only [hc, go_sem, Nat.reduceBEq, Nat.reduceAdd, Nat.reduceLeDiff])
  · have hc := of_decide_eq_true hc
    rw [if_pos hc]
    refine (sWeigh _ (by omega) 200 (by decide) _ _ r1).mono ?_
    rintro _ _ ⟨rfl, n, rfl, hr1, hr2⟩
    have hd : decide ((200 : Int) < ((n : Nat) : Int)) = !decide ((v.put path push x).1.weight ≤ 200) := by
      rw [← decide_not]
      exact decide_eq_decide.2 (by
        constructor
        · intro h; omega
        · intro h
          rcases Nat.lt_or_ge 200 n with hh | hh
          · omega
          · have := hr2 hh; omega)
    simp only [hd, go_sem, Nat.reduceBEq]
    refine Br.intro (fun hw => ?_) (fun hw => ?_) <;> (try simp only [hw, go_sem, Nat.reduceBEq, Nat.reduceAdd, Nat.reduceLeDiff, Int.reduceEq])
    · have hw : ¬ (v.put path push x).1.weight ≤ 200 := by simpa using hw
      rw [if_neg hw]
      exact ⟨v, _, _, rfl, e1, rd.mono e1⟩
    · have hw : (v.put path push x).1.weight ≤ 200 := by simpa using hw
      rw [if_pos hw]
      have dz : decide ((v.put path push x).2 = 0) = true := decide_eq_true hc
      simp only [dz, go_sem, Nat.reduceBEq, Nat.reduceAdd, Nat.reduceLeDiff]
      exact ⟨_, _, _, rfl, e1, r1⟩
  · have hc := of_decide_eq_false hc
    rw [if_neg hc]
    have dz : decide ((v.put path push x).2 = 0) = false := decide_eq_false hc
    try simp only [dz, go_sem, Nat.reduceBEq, Nat.reduceAdd, Nat.reduceLeDiff, Nat.reduceEqDiff, Int.reduceEq, not_false_eq_true, Int.reduceToNat]
    exact ⟨v, _, _, rfl, e1, rd.mono e1⟩
set_option maxHeartbeats 3200000 in
theorem iSetShared (l : List Bk) (rs : List V) (i : Int) (p : List Ky) (push : Bool) (j : Int) (hb : szG Bk.bulk l ≤ 1048576) (hbr : szG V.bulk rs ≤ 1048576) (hp : kbulk p ≤ 274877906944) (hpl : p.length ≤ 1048576) (s u sp : Value) (h : Hp) (r1 : RdB h l s) (r2 : Rd h (.row 5 (rs.flatMap V.dt)) u) (r3 : Rd h (.row 3 (p.flatMap Ky.dt)) sp) (hE : Env h) : ACalls Tryz.prog 46 #[.agg #[s], u, .int .i64 i, sp, .bool push, .int .i64 j] h (MadeHC h (setSh l rs i p push j).1 (setSh l rs i p push j).2.1 (setSh l rs i p push j).2.2) := by
  have hlen := szG_len (w := Bk.bulk) l
  have hlr := szG_len (w := V.bulk) rs
  have hw : IntKind.i64.wrap ((rs.length : Int) - 1) = (rs.length : Int) - 1 := IntWalk.i64_in _ (by omega)
  obtain ⟨a1, c1, xs1, rfl, hc1, hr1, hat1⟩ := r1.rows (by decide) l.length (fm_len Bk.dt_len _)
  obtain ⟨a2, c2, xs2, rfl, hc2, hr2, hat2⟩ := r2.rows (by decide) rs.length (fm_len V.dt_len _)
  obtain ⟨ap, cp, _, rfl, _⟩ := r3.rows (by decide) p.length (fm_len Ky.dt_len _)
  (refine enter Tryz.func46 rfl rfl (by kernel_rfl) [15,18] ?_; simp only [go_sem, Nat.reduceBEq, Nat.reduceLeDiff])
  refine (iCopyHeap l (by omega) _ _ r1).mono ?_
  rintro _ h1 ⟨a3, c3, rfl, m1⟩
  simp only [go_sem, Nat.reduceBEq]
  refine hsem_my_alloc (z := [.slice none 0 0]) (by kernel_rfl) rfl m1 fun bp h2 m2 => ?_
  try simp only [go_sem, Nat.reduceBEq]
  refine Hold.store Hold.ptr (es := [.raw (.slice a3 l.length c3)]) tyS60 (m2.raw (u := .slice a3 l.length c3) rfl) rfl rfl rfl rfl fun h3 m3 => ?_
  have m3 : My h h3 (HpB l a3 c3 bp []) := m3.swap
  try simp only [go_sem, Nat.reduceBEq]
  try simp only [hw, go_sem]
  (refine (iInRange _ _ _ _).mono ?_; rintro _ _ ⟨rfl, rfl⟩; simp only [go_sem, Nat.reduceBEq])
  by_cases hi : 0 ≤ i ∧ i ≤ (rs.length : Int) - 1
  case neg =>
    simp only [decide_eq_false hi, Bool.not_false, go_sem, Nat.reduceBEq]
    refine regionD_still (lb := []) (pl := [46]) _ (Ext.refl _) (by kernel_rfl) ?_
    simp only [go_sem, Nat.reduceBEq]
    refine Hold.loadN Hold.ptr (i := 0) (ds := [.raw (.slice a3 l.length c3)]) tyS60 m3.swap rfl rfl rfl fun ys r => ?_
    obtain rfl : ys = [.slice a3 l.length c3] := RdL.of_raws (us := [.slice a3 l.length c3]) r
    try simp only [go_sem]
    (refine (iNull _).mono ?_; rintro _ _ ⟨rfl, rfl⟩; simp only [go_sem, Nat.reduceBEq, Nat.reduceAdd, Nat.reduceLeDiff])
    try refine ⟨Ext.refl _, ?_⟩
    try simp only [go_sem, Nat.reduceBEq, Nat.reduceAdd, Nat.reduceLeDiff, Nat.reduceEqDiff, Int.reduceEq, not_false_eq_true, Int.reduceToNat]
    rw [setSh_no1 (decide_eq_false hi)]
    exact ⟨_, _, none, 0, rfl, m3.swap.drop.nilrow.swap⟩
  have hI : inRg rs i = true := decide_eq_true hi
  simp only [decide_eq_true hi, Bool.not_true, go_sem, Nat.reduceBEq]
  try simp only [hw, go_sem]
  (refine (iInRange _ _ _ _).mono ?_; rintro _ _ ⟨rfl, rfl⟩; simp only [go_sem, Nat.reduceBEq])
  by_cases hj : 0 ≤ j ∧ j ≤ (rs.length : Int) - 1
  case neg =>
    simp only [decide_eq_false hj, Bool.not_false, go_sem, Nat.reduceBEq]
    refine regionD_still (lb := []) (pl := [46]) _ (Ext.refl _) (by kernel_rfl) ?_
    simp only [go_sem, Nat.reduceBEq]
    refine Hold.loadN Hold.ptr (i := 0) (ds := [.raw (.slice a3 l.length c3)]) tyS60 m3.swap rfl rfl rfl fun ys r => ?_
    obtain rfl : ys = [.slice a3 l.length c3] := RdL.of_raws (us := [.slice a3 l.length c3]) r
    try simp only [go_sem]
    (refine (iNull _).mono ?_; rintro _ _ ⟨rfl, rfl⟩; simp only [go_sem, Nat.reduceBEq, Nat.reduceAdd, Nat.reduceLeDiff])
    try refine ⟨Ext.refl _, ?_⟩
    try simp only [go_sem, Nat.reduceBEq, Nat.reduceAdd, Nat.reduceLeDiff, Nat.reduceEqDiff, Int.reduceEq, not_false_eq_true, Int.reduceToNat]
    rw [setSh_no2 (decide_eq_false hj)]
    exact ⟨_, _, none, 0, rfl, m3.swap.drop.nilrow.swap⟩
  have hJ : inRg rs j = true := decide_eq_true hj
  simp only [decide_eq_true hj, Bool.not_true, go_sem, Nat.reduceBEq, Nat.reduceLeDiff]
  refine (iIsCounted l rs hb hbr _ _ _ (r1.mono m3.ext) (r2.mono m3.ext) (hE.ext m3.ext)).mono ?_
  rintro _ h4 ⟨rfl, e4⟩
  have m4 : My h h4 (HpB l a3 c3 bp []) := m3.mono e4
  cases hC : countedB l rs with
  | false =>
    simp only [Bool.not_false, go_sem, Nat.reduceBEq]
    refine regionD_still (lb := []) (pl := [46]) _ (Ext.refl _) (by kernel_rfl) ?_
    simp only [go_sem, Nat.reduceBEq]
    refine Hold.loadN Hold.ptr (i := 0) (ds := [.raw (.slice a3 l.length c3)]) tyS60 m4.swap rfl rfl rfl fun ys r => ?_
    obtain rfl : ys = [.slice a3 l.length c3] := RdL.of_raws (us := [.slice a3 l.length c3]) r
    try simp only [go_sem]
    (refine (iNull _).mono ?_; rintro _ _ ⟨rfl, rfl⟩; simp only [go_sem, Nat.reduceBEq, Nat.reduceAdd, Nat.reduceLeDiff])
    try refine ⟨Ext.refl _, ?_⟩
    try simp only [go_sem, Nat.reduceBEq, Nat.reduceAdd, Nat.reduceLeDiff, Nat.reduceEqDiff, Int.reduceEq, not_false_eq_true, Int.reduceToNat]
    rw [setSh_no3 hC]
    exact ⟨_, _, none, 0, rfl, m4.swap.drop.nilrow.swap⟩
  | true =>
  simp only [Bool.not_true, go_sem, Nat.reduceBEq]
  refine (iAllKeys p (by omega) _ _ (r3.mono m4.ext) (hE.ext m4.ext)).mono ?_
  rintro _ h5 ⟨rfl, e5⟩
  have m5 : My h h5 (HpB l a3 c3 bp []) := m4.mono e5
  cases hK : p.all keyOk with
  | false =>
    simp only [Bool.not_false, go_sem, Nat.reduceBEq]
    refine regionD_still (lb := []) (pl := [46]) _ (Ext.refl _) (by kernel_rfl) ?_
    simp only [go_sem, Nat.reduceBEq]
    refine Hold.loadN Hold.ptr (i := 0) (ds := [.raw (.slice a3 l.length c3)]) tyS60 m5.swap rfl rfl rfl fun ys r => ?_
    obtain rfl : ys = [.slice a3 l.length c3] := RdL.of_raws (us := [.slice a3 l.length c3]) r
    try simp only [go_sem]
    (refine (iNull _).mono ?_; rintro _ _ ⟨rfl, rfl⟩; simp only [go_sem, Nat.reduceBEq, Nat.reduceAdd, Nat.reduceLeDiff])
    try refine ⟨Ext.refl _, ?_⟩
    try simp only [go_sem, Nat.reduceBEq, Nat.reduceAdd, Nat.reduceLeDiff, Nat.reduceEqDiff, Int.reduceEq, not_false_eq_true, Int.reduceToNat]
    rw [setSh_no4 hK]
    exact ⟨_, _, none, 0, rfl, m5.swap.drop.nilrow.swap⟩
  | true =>
  have hok : setShOk l rs i p j = true := by
    unfold setShOk
    rw [hI, hJ, hC, hK]
    rfl
  obtain ⟨gi, hi0, hil⟩ := root_get hI
  obtain ⟨gj, hj0, hjl⟩ := root_get hJ
  obtain ⟨hH, hD⟩ := counted_parts hC
  have ho := heapB_iff.1 hH
  have hvi := hD _ (List.mem_of_getElem? gi)
  have hxj := hD _ (List.mem_of_getElem? gj)
  have hsi := ld_small ho hvi
  have hsj := ld_small ho hxj
  have ei : (root rs i).items.length = 0 := by rw [(held_items hvi).1]; rfl
  have ej : (root rs j).items.length = 0 := by rw [(held_items hxj).1]; rfl
  have hbi : V.bulks (root rs i).items ≤ 1099511627776 := by
    rw [(held_items hvi).1]
    decide
  have hbj : V.bulks (root rs j).items ≤ 1099511627776 := by
    rw [(held_items hxj).1]
    decide
  obtain ⟨b2, o2, rfl, hat2'⟩ := hat2 (by omega)
  simp only [Bool.not_true, go_sem, Nat.reduceBEq]
  refine regionD_still (lb := [49, 57]) (pl := [53, 61]) h m5.ext (by kernel_rfl) ?_
  simp only [go_sem, Nat.reduceBEq, Nat.reduceLeDiff]
  simp only [ix_int hi0 hil, go_sem, Nat.reduceBEq]
  refine hsem_vrow tyS44 hat2' hr2 gi rfl fun s6 rds6 => ?_
  obtain ⟨ars6, crs6, _, rfl, _⟩ := rds6.rows (by decide) (root rs i).items.length (fm_len edt_len _)
  try simp only [go_sem, Nat.reduceBEq]
  refine (iLoad l (by omega) ho.inR 200 (root rs i) (ho.weighed hvi) _ _ _ (r1.mono m5.ext) (rds6.mono m5.ext)).mono ?_
  rintro _ h6 ⟨a6, c6, rfl, m6⟩
  have e6 := m5.ext.trans m6.ext
  refine ⟨e6, ?_⟩
  simp only [ix_int hj0 hjl, go_sem, Nat.reduceBEq, Nat.reduceLeDiff]
  refine hsem_vrow tyS44 hat2' hr2 gj rfl fun s7 rds7 => ?_
  obtain ⟨ars7, crs7, _, rfl, _⟩ := rds7.rows (by decide) (root rs j).items.length (fm_len edt_len _)
  try simp only [go_sem, Nat.reduceBEq]
  refine (iLoad l (by omega) ho.inR 200 (root rs j) (ho.weighed hxj) _ _ _ (r1.mono e6) (rds7.mono e6)).mono ?_
  rintro _ h7 ⟨a7, c7, rfl, m7⟩
  have e7 := e6.trans m7.ext
  refine ⟨e7, ?_⟩
  try simp only [go_sem, Nat.reduceBEq]
  refine (iSetPath (ldF l 200 (root rs i)) p push (ldF l 200 (root rs j)) (by omega) (by omega) hp (by omega) _ _ _ _ (m6.rd.mono m7.ext) (r3.mono e7) m7.rd (hE.ext e7)).mono ?_
  rintro _ h8 ⟨a8, c8, rfl, m8⟩
  have e8 := e7.trans m8.ext
  refine ⟨e8, ?_⟩
  have hcd : (setOf (ldF l 200 (root rs i)) p push (ldF l 200 (root rs j))).2 = shC l (root rs i) p push (root rs j) := setOf_code (ld_valid ho hvi) (ld_valid ho hxj) hK
  rw [hcd]
  have m9 : My h h8 (HpB l a3 c3 bp []) := ((m5.mono m6.ext).mono m7.ext).mono m8.ext
  try simp only [go_sem, Nat.reduceBEq, Nat.reduceAdd, Nat.reduceLeDiff]
  by_cases hz : shC l (root rs i) p push (root rs j) = 0
  case neg =>
    rw [setSh_code hok hz]
    simp only [decide_eq_false hz, Bool.not_false, go_sem]
    refine regionD_still (lb := []) (pl := [68]) _ (Ext.refl _) (by kernel_rfl) ?_
    simp only [go_sem, Nat.reduceBEq]
    refine Hold.loadN Hold.ptr (i := 0) (ds := [.raw (.slice a3 l.length c3)]) tyS60 m9.swap rfl rfl rfl fun ys r => ?_
    obtain rfl : ys = [.slice a3 l.length c3] := RdL.of_raws (us := [.slice a3 l.length c3]) r
    try simp only [go_sem, Nat.reduceBEq]
    simp only [ix_int hi0 hil, go_sem, Nat.reduceBEq]
    refine hsem_vrow tyS44 (hat2'.mono m9.ext) (hr2.mono m9.ext) gi rfl fun s9 rds9 => ?_
    obtain ⟨ars9, crs9, _, rfl, _⟩ := rds9.rows (by decide) (root rs i).items.length (fm_len edt_len _)
    try simp only [go_sem, Nat.reduceBEq]
    refine (copyValue_c (root rs i) hbi _ _ rds9).mono ?_
    rintro _ h9 ⟨a9, c9, rfl, m10⟩
    refine ⟨m10.ext, ?_⟩
    try simp only [go_sem, Nat.reduceBEq, Nat.reduceAdd, Nat.reduceLeDiff]
    exact ⟨_, _, _, _, rfl, (m9.add m10).third.drop.swap⟩
  have g := setGo.of (push := push) hok hz
  have gl := g.len
  obtain ⟨st1, st2, st3, st4, st5⟩ := g.start hb
  have fin := (g.fin hb).2
  rw [setSh_go hok hz]
  simp only [hz, decide_true, Bool.not_true, go_sem, Nat.reduceBEq]
  try simp only [go_sem, Nat.reduceBEq, Nat.reduceAdd, Nat.reduceLeDiff, Nat.reduceEqDiff, Int.reduceEq, not_false_eq_true, Int.reduceToNat]
  simp only [ix_int hj0 hjl, go_sem, Nat.reduceBEq]
  refine hsem_vrow tyS44 (hat2'.mono m9.ext) (hr2.mono m9.ext) gj rfl fun s10 rds10 => ?_
  obtain ⟨ars10, crs10, _, rfl, _⟩ := rds10.rows (by decide) (root rs j).items.length (fm_len edt_len _)
  try simp only [go_sem, Nat.reduceBEq]
  refine (iShare l (root rs j) (held_ref hxj) (fun q => by obtain ⟨q1, q2, q3⟩ := held_num hxj q; obtain ⟨z1, z2⟩ := (ho.hIn.blk q2).1; exact ⟨z1, by omega⟩) _ _ _ a3 c3 bp [] h _ m9).mono ?_
  rintro _ h10 ⟨rfl, m10⟩
  try simp only [go_sem]
  refine regionP_still (lb := []) (pl := [83, 90]) (hm' := [15]) 18 h m10.ext (by kernel_rfl) ?_
  simp only [go_sem, Nat.reduceBEq]
  simp only [ix_int hi0 hil, go_sem, Nat.reduceBEq]
  refine hsem_vrow tyS44 hat2' hr2 gi rfl fun s11 rds11 => ?_
  obtain ⟨ars11, crs11, _, rfl, _⟩ := rds11.rows (by decide) (root rs i).items.length (fm_len edt_len _)
  try simp only [go_sem, Nat.reduceBEq]
  refine (copyValue_c (root rs i) hbi _ _ (rds11.mono m10.ext)).mono ?_
  rintro _ h11 ⟨a11, c11, rfl, m11⟩
  obtain rfl : c11 = 0 := My.capI (held_items hvi).1 m11
  have e11 := m10.ext.trans m11.ext
  refine ⟨e11, ?_⟩
  simp only [ix_int hj0 hjl, go_sem, Nat.reduceBEq]
  refine hsem_vrow tyS44 hat2' hr2 gj rfl fun s12 rds12 => ?_
  obtain ⟨ars12, crs12, _, rfl, _⟩ := rds12.rows (by decide) (root rs j).items.length (fm_len edt_len _)
  try simp only [go_sem, Nat.reduceBEq]
  refine (copyValue_c (root rs j) hbj _ _ (rds12.mono e11)).mono ?_
  rintro _ h12 ⟨a12, c12, rfl, m12⟩
  obtain rfl : c12 = 0 := My.capI (held_items hxj).1 m12
  have e12 := e11.trans m12.ext
  refine ⟨e12, ?_⟩
  rw [ei]
  have mw : My h h12 (HpB (shareH l (root rs j)) a3 c3 bp []) := (m10.mono m11.ext).mono m12.ext
  try simp only [go_sem, Nat.reduceBEq]
  refine (iWriteSh (B := 1048576) (Nat.le_refl _) g.ok.inR g.ok.ch push st5 (held_hv g.hx) p g.keys st1 st2 (by decide) (by omega) (by omega) st3 (held_hv g.hv) g.path st4 (by rw [shareH_len]; omega) a11 a12 _ a3 c3 bp [] h _ r3 mw).mono ?_
  generalize wrH p (shareH l (root rs j)) (root rs i) push (root rs j) = W at *
  obtain ⟨l9, w⟩ := W
  rintro _ h13 ⟨b13, c13, a13, n13, rfl, m13⟩
  refine ⟨m13.ext, ?_⟩
  try simp only [go_sem, Nat.reduceBEq, Nat.reduceAdd, Nat.reduceLeDiff]
  refine prom_intro rfl fun b0 T hb0 => ?_
  simp only [proF_e, proF_v, proF_b, delb_e, delb_c, cond_true, cond_false, go_sem, Nat.reduceBEq]
  have m14 := my_var (h0 := h) (e := T) (es := w.dt) (us := [.int .i64 w.kind, .int .i64 w.num, .string w.str, .int .i64 w.next, .slice b13 w.items.length c13]) (val_zip w m13) hb0 (V.dt_len w)
  try simp only [go_sem, Nat.reduceBEq, Nat.reduceAdd, Nat.reduceLeDiff, Nat.reduceEqDiff, Int.reduceEq, not_false_eq_true, Int.reduceToNat]
  refine regionD_still (lb := []) (pl := [93, 94]) _ (Ext.refl _) (by kernel_rfl) ?_
  simp only [go_sem, Nat.reduceBEq]
  refine Hold.loadN Hold.ptr (i := 0) (ds := [.raw (.slice a13 l9.length n13)]) tyS60 m14.third rfl rfl rfl fun ys r => ?_
  obtain rfl : ys = [.slice a13 l9.length n13] := RdL.of_raws (us := [.slice a13 l9.length n13]) r
  try simp only [go_sem, Nat.reduceBEq]
  refine var_take Hold.ptr m14 rfl fun an nn m15 => ?_
  try simp only [go_sem, Nat.reduceBEq, Nat.reduceAdd, Nat.reduceLeDiff]
  exact ⟨_, _, _, _, rfl, m15.third.drop.swap⟩
set_option maxHeartbeats 3200000 in
theorem sSetShared (l : List Bk) (rs : List V) (i : Int) (p : List Ky) (push : Bool) (j : Int) (hb : szG Bk.bulk l ≤ 1048576) (hbr : szG V.bulk rs ≤ 1048576) (hp : kbulk p ≤ 274877906944) (hpl : p.length ≤ 1048576) (hks : ∀ k ∈ p, k.str.size ≤ 1152921504606846976) (s u sp : Value) (h : Hp) (r1 : RdB h l s) (r2 : Rd h (.row 5 (rs.flatMap V.dt)) u) (r3 : Rd h (.row 3 (p.flatMap Ky.dt)) sp) (hc : CapR h rs u) : ACalls Tryz.prog 44 #[.agg #[s], u, .int .i64 i, sp, .bool push, .int .i64 j] h (MadeHC h (setSh l rs i p push j).1 (setSh l rs i p push j).2.1 (setSh l rs i p push j).2.2) := by
  have hlen := szG_len (w := Bk.bulk) l
  have hlr := szG_len (w := V.bulk) rs
  have hw : IntKind.i64.wrap ((rs.length : Int) - 1) = (rs.length : Int) - 1 := IntWalk.i64_in _ (by omega)
  obtain ⟨a1, c1, xs1, rfl, hc1, hr1, hat1⟩ := r1.rows (by decide) l.length (fm_len Bk.dt_len _)
  obtain ⟨a2, c2, xs2, rfl, hc2, hr2, hat2⟩ := r2.rows (by decide) rs.length (fm_len V.dt_len _)
  obtain ⟨ap, cp, _, rfl, _⟩ := r3.rows (by decide) p.length (fm_len Ky.dt_len _)
  (refine enter Tryz.func44 rfl rfl (by kernel_rfl) [15] ?_; simp only [go_sem, Nat.reduceBEq, Nat.reduceLeDiff])
  refine (sCopyHeap l (by omega) _ _ r1).mono ?_
  rintro _ h1 ⟨a3, c3, rfl, m1⟩
  simp only [go_sem, Nat.reduceBEq]
  refine hsem_my_alloc (z := [.slice none 0 0]) (by kernel_rfl) rfl m1 fun bp h2 m2 => ?_
  try simp only [go_sem, Nat.reduceBEq]
  refine Hold.store Hold.ptr (es := [.raw (.slice a3 l.length c3)]) tyS60 (m2.raw (u := .slice a3 l.length c3) rfl) rfl rfl rfl rfl fun h3 m3 => ?_
  have m3 : My h h3 (HpB l a3 c3 bp []) := m3.swap
  try simp only [go_sem, Nat.reduceBEq]
  try simp only [hw, go_sem]
  (refine (l1In_c _ _ _ _).mono ?_; rintro _ _ ⟨rfl, rfl⟩; simp only [go_sem, Nat.reduceBEq])
  by_cases hi : 0 ≤ i ∧ i ≤ (rs.length : Int) - 1
  case neg =>
    simp only [decide_eq_false hi, Bool.not_false, go_sem, Nat.reduceBEq]
    refine Hold.loadN Hold.ptr (i := 0) (ds := [.raw (.slice a3 l.length c3)]) tyS60 m3.swap rfl rfl rfl fun ys r => ?_
    obtain rfl : ys = [.slice a3 l.length c3] := RdL.of_raws (us := [.slice a3 l.length c3]) r
    try simp only [go_sem, Nat.reduceBEq, Nat.reduceAdd, Nat.reduceLeDiff]
    rw [setSh_no1 (decide_eq_false hi)]
    exact ⟨_, _, none, 0, rfl, m3.swap.drop.nilrow.swap⟩
  have hI : inRg rs i = true := decide_eq_true hi
  simp only [decide_eq_true hi, Bool.not_true, go_sem, Nat.reduceBEq]
  try simp only [hw, go_sem]
  (refine (l1In_c _ _ _ _).mono ?_; rintro _ _ ⟨rfl, rfl⟩; simp only [go_sem, Nat.reduceBEq])
  by_cases hj : 0 ≤ j ∧ j ≤ (rs.length : Int) - 1
  case neg =>
    simp only [decide_eq_false hj, Bool.not_false, go_sem, Nat.reduceBEq]
    refine Hold.loadN Hold.ptr (i := 0) (ds := [.raw (.slice a3 l.length c3)]) tyS60 m3.swap rfl rfl rfl fun ys r => ?_
    obtain rfl : ys = [.slice a3 l.length c3] := RdL.of_raws (us := [.slice a3 l.length c3]) r
    try simp only [go_sem, Nat.reduceBEq, Nat.reduceAdd, Nat.reduceLeDiff]
    rw [setSh_no2 (decide_eq_false hj)]
    exact ⟨_, _, none, 0, rfl, m3.swap.drop.nilrow.swap⟩
  have hJ : inRg rs j = true := decide_eq_true hj
  simp only [decide_eq_true hj, Bool.not_true, go_sem, Nat.reduceBEq, Nat.reduceLeDiff]
  refine (sIsCounted l rs hb hbr _ _ _ (r1.mono m3.ext) (r2.mono m3.ext)).mono ?_
  rintro _ h4 ⟨rfl, e4⟩
  have m4 : My h h4 (HpB l a3 c3 bp []) := m3.mono e4
  cases hC : countedB l rs with
  | false =>
    simp only [Bool.not_false, go_sem, Nat.reduceBEq]
    refine Hold.loadN Hold.ptr (i := 0) (ds := [.raw (.slice a3 l.length c3)]) tyS60 m4.swap rfl rfl rfl fun ys r => ?_
    obtain rfl : ys = [.slice a3 l.length c3] := RdL.of_raws (us := [.slice a3 l.length c3]) r
    try simp only [go_sem, Nat.reduceBEq, Nat.reduceAdd, Nat.reduceLeDiff]
    rw [setSh_no3 hC]
    exact ⟨_, _, none, 0, rfl, m4.swap.drop.nilrow.swap⟩
  | true =>
  simp only [Bool.not_true, go_sem, Nat.reduceBEq]
  refine (sAllKeys p (by omega) hks _ _ (r3.mono m4.ext)).mono ?_
  rintro _ h5 ⟨rfl, e5⟩
  have m5 : My h h5 (HpB l a3 c3 bp []) := m4.mono e5
  cases hK : p.all keyOk with
  | false =>
    simp only [Bool.not_false, go_sem, Nat.reduceBEq]
    refine Hold.loadN Hold.ptr (i := 0) (ds := [.raw (.slice a3 l.length c3)]) tyS60 m5.swap rfl rfl rfl fun ys r => ?_
    obtain rfl : ys = [.slice a3 l.length c3] := RdL.of_raws (us := [.slice a3 l.length c3]) r
    try simp only [go_sem, Nat.reduceBEq, Nat.reduceAdd, Nat.reduceLeDiff]
    rw [setSh_no4 hK]
    exact ⟨_, _, none, 0, rfl, m5.swap.drop.nilrow.swap⟩
  | true =>
  have hok : setShOk l rs i p j = true := by
    unfold setShOk
    rw [hI, hJ, hC, hK]
    rfl
  obtain ⟨gi, hi0, hil⟩ := root_get hI
  obtain ⟨gj, hj0, hjl⟩ := root_get hJ
  obtain ⟨hH, hD⟩ := counted_parts hC
  have ho := heapB_iff.1 hH
  have hvi := hD _ (List.mem_of_getElem? gi)
  have hxj := hD _ (List.mem_of_getElem? gj)
  have hsi := ld_small ho hvi
  have hsj := ld_small ho hxj
  have ei : (root rs i).items.length = 0 := by rw [(held_items hvi).1]; rfl
  have ej : (root rs j).items.length = 0 := by rw [(held_items hxj).1]; rfl
  have hbi : V.bulks (root rs i).items ≤ 1099511627776 := by
    rw [(held_items hvi).1]
    decide
  have hbj : V.bulks (root rs j).items ≤ 1099511627776 := by
    rw [(held_items hxj).1]
    decide
  obtain ⟨b2, o2, rfl, hat2'⟩ := hat2 (by omega)
  simp only [Bool.not_true, go_sem, Nat.reduceBEq]
  obtain ⟨ysp, hryp, hatyp⟩ := Hold.rd Hold.ptr m5.swap
  have ey : ysp = [.slice a3 l.length c3] := RdL.of_raws (us := [.slice a3 l.length c3]) hryp
  subst ey
  have rl : RdB h5 l (.slice a3 l.length c3) := m5.rd
  refine regionD_still (lb := []) (pl := [52, 59]) h m5.ext (by kernel_rfl) ?_
  simp only [go_sem, Nat.reduceBEq]
  simp only [ix_int hi0 hil, go_sem, Nat.reduceBEq]
  refine hsem_vrow tyS44 hat2' hr2 gi rfl fun s6 rds6 => ?_
  obtain ⟨ars6, crs6, _, rfl, _⟩ := rds6.rows (by decide) (root rs i).items.length (fm_len edt_len _)
  try simp only [go_sem, Nat.reduceBEq]
  refine (sLoad l (by omega) ho.inR 200 (root rs i) (ho.weighed hvi) bp 0 _ _ _ hatyp rl (rds6.mono m5.ext)).mono ?_
  rintro _ h6 ⟨a6, c6, d6, rfl, m6, ad6⟩
  have e6 := m5.ext.trans m6.ext
  refine ⟨e6, ?_⟩
  simp only [ix_int hj0 hjl, go_sem, Nat.reduceBEq]
  refine hsem_vrow tyS44 hat2' hr2 gj rfl fun s7 rds7 => ?_
  obtain ⟨ars7, crs7, _, rfl, _⟩ := rds7.rows (by decide) (root rs j).items.length (fm_len edt_len _)
  try simp only [go_sem, Nat.reduceBEq]
  refine (sLoad l (by omega) ho.inR 200 (root rs j) (ho.weighed hxj) bp 0 _ _ _ (hatyp.mono m6.ext) (rl.mono m6.ext) (rds7.mono e6)).mono ?_
  rintro _ h7 ⟨a7, c7, d7, rfl, m7, ad7⟩
  have e7 := e6.trans m7.ext
  refine ⟨e7, ?_⟩
  try simp only [go_sem, Nat.reduceBEq]
  refine (sPut12 (ldF l 200 (root rs i)) p push (ldF l 200 (root rs j)) (by omega) (by omega) hp (by omega) _ _ _ _ ((ad6 _ _ m6.rd).mono m7.ext) (r3.mono e7) (ad7 _ _ m7.rd)).mono ?_
  rintro _ h8 ⟨w8, a8, c8, rfl, x8, _⟩
  have e8 := e7.trans x8
  refine ⟨e8, ?_⟩
  have hcd : putCode (ldF l 200 (root rs i)) p push (ldF l 200 (root rs j)) = shC l (root rs i) p push (root rs j) := rfl
  rw [hcd]
  have m9 : My h h8 (HpB l a3 c3 bp []) := ((m5.mono m6.ext).mono m7.ext).mono x8
  try simp only [go_sem, Nat.reduceBEq, Nat.reduceAdd, Nat.reduceLeDiff]
  by_cases hz : shC l (root rs i) p push (root rs j) = 0
  case neg =>
    rw [setSh_code hok hz]
    simp only [decide_eq_false hz, Bool.not_false, go_sem]
    refine regionD_still (lb := []) (pl := [66]) _ (Ext.refl _) (by kernel_rfl) ?_
    simp only [go_sem, Nat.reduceBEq]
    refine Hold.loadN Hold.ptr (i := 0) (ds := [.raw (.slice a3 l.length c3)]) tyS60 m9.swap rfl rfl rfl fun ys r => ?_
    obtain rfl : ys = [.slice a3 l.length c3] := RdL.of_raws (us := [.slice a3 l.length c3]) r
    try simp only [go_sem, Nat.reduceBEq]
    simp only [ix_int hi0 hil, go_sem, Nat.reduceBEq]
    refine hsem_vrow tyS44 (hat2'.mono m9.ext) (hr2.mono m9.ext) gi rfl fun s9 rds9 => ?_
    obtain ⟨ars9, crs9, _, rfl, _⟩ := rds9.rows (by decide) (root rs i).items.length (fm_len edt_len _)
    try simp only [go_sem, Nat.reduceBEq]
    refine (l5Copy_c (root rs i) hbi _ _ rds9).mono ?_
    rintro _ h9 ⟨a9, c9, rfl, m10⟩
    refine ⟨m10.ext, ?_⟩
    try simp only [go_sem, Nat.reduceBEq, Nat.reduceAdd, Nat.reduceLeDiff]
    exact ⟨_, _, _, _, rfl, (m9.add m10).third.drop.swap⟩
  have g := setGo.of (push := push) hok hz
  have gl := g.len
  obtain ⟨st1, st2, st3, st4, st5⟩ := g.start hb
  have fin := (g.fin hb).2
  rw [setSh_go hok hz]
  simp only [hz, decide_true, Bool.not_true, go_sem, Nat.reduceBEq]
  try simp only [go_sem, Nat.reduceBEq, Nat.reduceAdd, Nat.reduceLeDiff, Nat.reduceEqDiff, Int.reduceEq, not_false_eq_true, Int.reduceToNat]
  simp only [ix_int hj0 hjl, go_sem, Nat.reduceBEq]
  refine hsem_vrow tyS44 (hat2'.mono m9.ext) (hr2.mono m9.ext) gj rfl fun s10 rds10 => ?_
  obtain ⟨ars10, crs10, _, rfl, _⟩ := rds10.rows (by decide) (root rs j).items.length (fm_len edt_len _)
  try simp only [go_sem, Nat.reduceBEq]
  refine (sShare l (root rs j) (held_ref hxj) (fun q => by obtain ⟨q1, q2, q3⟩ := held_num hxj q; obtain ⟨z1, z2⟩ := (ho.hIn.blk q2).1; exact ⟨z1, by omega⟩) _ _ _ a3 c3 bp [] h _ m9).mono ?_
  rintro _ h10 ⟨rfl, m10⟩
  try simp only [go_sem]
  obtain ⟨av, hlv⟩ := (hc.mono m10.ext).ld gi (held_items hvi).1
  obtain ⟨ax, hlx⟩ := (hc.mono m10.ext).ld gj (held_items hxj).1
  have WS := (sWriteSh (B := 1048576) (Nat.le_refl _) g.ok.inR g.ok.ch push st5 (held_hv g.hx) p g.keys st1 st2 (by decide) (by omega) (by omega) st3 (held_hv g.hv) g.path st4 (by rw [shareH_len]; omega) av ax _ a3 c3 bp [] h _ r3 m10)
  rw [ej] at WS
  refine regionD_intro (lb := []) (by kernel_rfl) ?_
  simp only [go_sem, Nat.reduceBEq]
  simp only [ix_int hi0 hil, go_sem, Nat.reduceBEq]
  refine hlv _ _ _ tyS44 rfl ?_
  simp only [ix_int hj0 hjl, go_sem, Nat.reduceBEq]
  refine hlx _ _ _ tyS44 rfl ?_
  try simp only [go_sem, Nat.reduceBEq]
  refine WS.mono ?_
  clear WS
  generalize wrH p (shareH l (root rs j)) (root rs i) push (root rs j) = W at *
  obtain ⟨l9, w⟩ := W
  rintro _ h13 ⟨b13, c13, a13, n13, rfl, m13⟩
  try refine ⟨trivial, ?_⟩
  try simp only [go_sem, Nat.reduceBEq, Nat.reduceAdd, Nat.reduceLeDiff]
  refine regionD_still (lb := [90]) (pl := [89]) _ (Ext.refl _) (by kernel_rfl) ?_
  simp only [go_sem, Nat.reduceBEq]
  refine Hold.loadN Hold.ptr (i := 0) (ds := [.raw (.slice a13 l9.length n13)]) tyS60 m13.third rfl rfl rfl fun ys r => ?_
  obtain rfl : ys = [.slice a13 l9.length n13] := RdL.of_raws (us := [.slice a13 l9.length n13]) r
  try simp only [go_sem, Nat.reduceBEq, Nat.reduceAdd, Nat.reduceLeDiff]
  have hwb := V.bulk_eq w
  refine (l5Copy_c w (by simp only at fin; omega) _ _ m13.rd).mono ?_
  rintro _ h14 ⟨a14, c14, rfl, m14⟩
  refine ⟨m14.ext, ?_⟩
  try simp only [go_sem, Nat.reduceBEq, Nat.reduceAdd, Nat.reduceLeDiff]
  exact ⟨_, _, _, _, rfl, (m13.drop.swap.drop.add m14).swap⟩
end Go.Proofs.YtedfplodobpgfaaGreatDoor
namespace Go.Proofs.YtedfplodobpgfaaGreatDoor
set_option maxRecDepth 8000
open Go Go.Sx
def SzSlot (e : Sl) : Prop := ∀ (ys : List Value) (l : Int) (h : Hp), RdL h (Sl.dt e) ys → 0 ≤ l → l ≤ 1048576 → ACalls Tryz.prog 109 #[.agg ys.toArray, .int .i64 l] h (Pu (.int .i64 (less l (Sl.bulk e))) h)
theorem szSlotS_s (es : List Sl) (ih : ∀ e ∈ es, SzSlot e) (hl : es.length ≤ maxLen) (sl : Value) (l : Int) (h : Hp) (rd : Rd h (.row 10 (es.flatMap Sl.dt)) sl) (l0 : 0 ≤ l) (l1 : l ≤ 1048576) :
    ACalls Tryz.prog 50 #[sl, .int .i64 l] h (Pu (.int .i64 (less l (szG Sl.bulk es))) h) := by
  obtain ⟨a, c, xs, rfl, hc, hr, hat⟩ := rd.rows (by decide) es.length (fm_len Sl.dt_len es)
  (refine enter Tryz.func50 rfl rfl (by kernel_rfl) [] ?_; simp only [go_sem, Nat.reduceBEq])
  simp only [less_wrap l0 l1 hl, go_sem]
  refine Br.intro (fun hb => ?_) (fun hb => ?_) <;> (try simp only [hb, go_sem, Nat.reduceBEq])
  · have hb : l - (es.length : Int) < 0 := by simpa using hb
    exact ⟨by unfold szG; rw [less_neg (by unfold less; split <;> omega)], rfl⟩
  · have hb : ¬ l - (es.length : Int) < 0 := by simpa using hb
    have e0 : l - (es.length : Int) = less l (es.length + gsum Sl.bulk (es.take 0)) := by unfold less; simp [gsum]; omega
    rw [e0]
    refine aloop (ι := Nat) (fun i => [(5, .val (.int .i64 (i : Nat))), (1, .val (.int .i64 (less l (es.length + gsum Sl.bulk (es.take i))))), (0, .val (.slice a es.length c))]) (fun _ => []) (fun i h' => i ≤ es.length ∧ 0 ≤ less l (es.length + gsum Sl.bulk (es.take i)) ∧ h = h') (fun i => es.length - i) 0
      ⟨Nat.zero_le _, by rw [← e0]; omega, rfl⟩ (by repeat (first | exact wkF_e | refine wkF_c rfl ?_)) wkB_e rfl ?_
    intro i h1 hx
    have hx : i ≤ es.length ∧ 0 ≤ less l (es.length + gsum Sl.bulk (es.take i)) ∧ h = h1 := hx
    have hi := hx.1
    have hf := hx.2.1
    have he := hx.2.2
    clear hx
    subst he
    simp only [go_sem, Nat.reduceBEq]
    refine Br.intro (fun hb => ?_) (fun hb => ?_) <;> (try simp only [hb, go_sem, Nat.reduceBEq])
    · have hb : i < es.length := by simpa using hb
      obtain ⟨b, off, rfl, hat'⟩ := hat (by omega)
      obtain ⟨e, he, hm⟩ := get_lt hb
      simp only [ix_nat hb, go_sem, Nat.reduceBEq]
      refine hsem_row (f := Sl.dt) (o := 0) (ds := Sl.dt e) Sl.dt_len tyS129 hat' hr he (Nat.le_refl _) (by rw [List.drop_zero, List.take_of_length_le (by rw [Sl.dt_len]; exact Nat.le_refl _)]) ?_ fun ys r1 => ?_
      · omega
      simp only [go_sem, Nat.reduceBEq]
      (refine (ih e hm _ _ _ r1 hf (less_le l1)).mono ?_; rintro _ _ ⟨rfl, rfl⟩; simp only [go_sem, Nat.reduceBEq])
      rw [less_add hf, Nat.add_assoc, ← gsum_snoc he]
      refine Br.intro (fun hc => ?_) (fun hc => ?_) <;> (try simp only [hc, go_sem, Nat.reduceBEq])
      · have hc : less l (es.length + gsum Sl.bulk (es.take (i + 1))) < 0 := by simpa using hc
        refine ⟨?_, rfl⟩
        unfold szG
        rw [gsum_split Sl.bulk es (i + 1), ← Nat.add_assoc, less_neg hc]
      · have hc : 0 ≤ less l (es.length + gsum Sl.bulk (es.take (i + 1))) := by simpa using hc
        rw [wrap_succ (i := i) (by unfold maxLen at hl; omega)]
        exact Again.intro (i + 1) (by first | omega | (simp only; omega)) ⟨hb, hc, rfl⟩ (by repeat (first | exact wkF_e | refine wkF_c rfl ?_)) wkB_e rfl
    · have hb : i = es.length := by simp at hb; omega
      subst hb
      refine ⟨?_, rfl⟩
      rw [List.take_length]
      rfl
end Go.Proofs.YtedfplodobpgfaaGreatDoor
namespace Go.Proofs.YtedfplodobpgfaaGreatDoor
set_option maxRecDepth 8000
open Go Go.Sx
def EqSlot (e : Sl) : Prop := ∀ (h : Hp) (ys zs : List Value), RdL h (Sl.dt e) ys → RdL h (Sl.dt e) zs → ACalls Tryz.prog 131 #[.agg ys.toArray, .agg zs.toArray] h (Pu (.bool true) h)
theorem eqSlotS_s (l : List (Sl)) (ih : ∀ e ∈ l, EqSlot e) (hl : l.length ≤ 4611686018427387904) (s1 s2 : Value) (h : Hp) (r1 : Rd h (.row 10 (l.flatMap Sl.dt)) s1) (r2 : Rd h (.row 10 (l.flatMap Sl.dt)) s2) :
    ACalls Tryz.prog 67 #[s1, s2] h (Pu (.bool true) h) := by
  obtain ⟨a1, c1, xs1, rfl, hc1, hr1, hat1⟩ := r1.rows (by decide) l.length (fm_len Sl.dt_len l)
  obtain ⟨a2, c2, xs2, rfl, hc2, hr2, hat2⟩ := r2.rows (by decide) l.length (fm_len Sl.dt_len l)
  (refine enter Tryz.func67 rfl rfl (by kernel_rfl) [] ?_; simp only [go_sem, Nat.reduceBEq])
  refine aloop (ι := Nat) (fun i => [(5, .val (.int .i64 (i : Nat))), (0, .val (.slice a1 l.length c1)), (1, .val (.slice a2 l.length c2))]) (fun _ => []) (fun i h' => i ≤ l.length ∧ h' = h) (fun i => l.length - i) 0 ⟨Nat.zero_le _, rfl⟩ (by repeat (first | exact wkF_e | refine wkF_c rfl ?_)) wkB_e rfl ?_
  rintro i _ ⟨hi, rfl⟩
  simp only [go_sem, Nat.reduceBEq]
  refine Br.intro (fun hb => ?_) (fun hb => ?_) <;> (try simp only [hb, go_sem, Nat.reduceBEq])
  · have hb : i < l.length := by simpa using hb
    obtain ⟨b1, o1, rfl, hat1'⟩ := hat1 (by omega)
    obtain ⟨b2, o2, rfl, hat2'⟩ := hat2 (by omega)
    obtain ⟨e, he, hm⟩ := get_lt hb
    have wsu := wrap_succ (i := i) (by omega)
    refine regionD_intro (lb := []) (by kernel_rfl) ?_
    simp only [ix_nat hb, go_sem, Nat.reduceBEq]
    refine hsem_row (f := Sl.dt) (o := 0) (ds := Sl.dt e) Sl.dt_len tyS134 hat1' hr1 he (Nat.le_refl _) (by rw [List.drop_zero, List.take_of_length_le (Nat.le_of_eq (Sl.dt_len e))]) ?_ fun ys1 q1 => ?_
    · omega
    simp only [ix_nat hb, go_sem, Nat.reduceBEq]
    refine hsem_row (f := Sl.dt) (o := 0) (ds := Sl.dt e) Sl.dt_len tyS134 hat2' hr2 he (Nat.le_refl _) (by rw [List.drop_zero, List.take_of_length_le (Nat.le_of_eq (Sl.dt_len e))]) ?_ fun ys2 q2 => ?_
    · omega
    simp only [go_sem, Nat.reduceBEq]
    (refine (ih e hm _ _ _ q1 q2).mono ?_; rintro _ _ ⟨rfl, rfl⟩; simp only [go_sem, Nat.reduceBEq])
    simp only [wsu, go_sem]
    exact Again.intro (i + 1) (by first | omega | (simp only; omega)) ⟨hb, rfl⟩ (by repeat (first | exact wkF_e | refine wkF_c rfl ?_)) wkB_e rfl
  · exact ⟨rfl, rfl⟩
def ToSlot (e : Sl) : Prop := ∀ (h : Hp) (ys : List Value), RdL h (Sl.dt e) ys → ACalls Tryz.prog 118 #[.agg ys.toArray] h fun u h' => ∃ us, u = .agg us.toArray ∧ us.length = 10 ∧ My h h' ((Sl.dt e).zip us)
theorem toSlotS_s (l : List (Sl)) (ih : ∀ e ∈ l, ToSlot e) (hl : l.length ≤ 1048576) (sl : Value) (h : Hp) (rd : Rd h (.row 10 (l.flatMap Sl.dt)) sl) :
    ACalls Tryz.prog 58 #[sl] h fun u h' => My h h' [(.row 10 (l.flatMap Sl.dt), u)] := by
  obtain ⟨a, c, xs, rfl, hc, hr, hat⟩ := rd.rows (by decide) l.length (fm_len Sl.dt_len l)
  (refine enter Tryz.func58 rfl rfl (by kernel_rfl) [] ?_; simp only [go_sem, Nat.reduceBEq])
  refine hsem_my_make slT34 (by decide) rfl rfl hl (by decide) (My.nil (Ext.refl h)) fun bo h1 m1 => ?_
  simp only [go_sem, Nat.reduceBEq]
  generalize hzz : SlT.zero _ = zz at m1
  refine aloop (ι := Nat) (fun i => [(4, .val (.int .i64 (i : Nat))), (3, .val (.slice (some ⟨bo, 0, none⟩) l.length l.length)), (0, .val (.slice a l.length c))]) (fun _ => []) (fun i h' => i ≤ l.length ∧ My h h' [(.row 10 ((l.take i).flatMap Sl.dt ++ zeros zz (l.length - i)), .slice (some ⟨bo, 0, none⟩) l.length l.length)]) (fun i => l.length - i) 0
    ⟨Nat.zero_le _, m1⟩ (by repeat (first | exact wkF_e | refine wkF_c rfl ?_)) wkB_e rfl ?_
  rintro i h2 ⟨hi, m2⟩
  have hi : i ≤ l.length := hi
  have m2 : My h h2 [(.row 10 ((l.take i).flatMap Sl.dt ++ zeros zz (l.length - i)), .slice (some ⟨bo, 0, none⟩) l.length l.length)] := m2
  simp only [go_sem, Nat.reduceBEq]
  refine Br.intro (fun hb => ?_) (fun hb => ?_) <;> (try simp only [hb, go_sem, Nat.reduceBEq])
  · have hb : i < l.length := by simpa using hb
    obtain ⟨b, o, rfl, hat'⟩ := hat (by omega)
    have hat2 := hat'.mono m2.ext
    have hr2 := hr.mono m2.ext
    obtain ⟨e, he, hm⟩ := get_lt hb
    have wsu := wrap_succ (i := i) (by omega)
    simp only [ix_nat hb, go_sem, Nat.reduceBEq]
    refine hsem_row (f := Sl.dt) (o := 0) (ds := Sl.dt e) Sl.dt_len tyS129 hat2 hr2 he (Nat.le_refl _) (by rw [List.drop_zero, List.take_of_length_le (Nat.le_of_eq (Sl.dt_len e))]) ?_ fun ys1 q1 => ?_
    · omega
    simp only [go_sem, Nat.reduceBEq]
    refine (ih e hm _ _ q1).mono ?_
    rintro _ h3 ⟨us, rfl, hus, n3⟩
    simp only [ix_nat hb, go_sem, Nat.reduceBEq]
    have m3 := m2.add n3
    rw [zeros_sub zz hb] at m3
    refine hsem_my_put tyS134 m3 (by omega) (by rw [List.length_map, ← hzz]; rfl) (Sl.dt_len e) hus ?_ fun h4 m4 => ?_
    · rw [fm_len Sl.dt_len, List.length_take, Nat.min_eq_left hi]
    simp only [wsu, go_sem, Nat.reduceBEq]
    refine Again.intro (i + 1) (by first | omega | (simp only; omega)) ⟨hb, ?_⟩ (by repeat (first | exact wkF_e | refine wkF_c rfl ?_)) wkB_e rfl
    rw [take_snoc he, List.flatMap_append, List.flatMap_cons, List.flatMap_nil, List.append_nil, List.append_assoc]
    exact m4
  · have hb : i = l.length := by simp at hb; omega
    subst hb
    rw [List.take_length, Nat.sub_self] at m2
    simpa [zeros] using m2
end Go.Proofs.YtedfplodobpgfaaGreatDoor
namespace Go.Proofs.YtedfplodobpgfaaGreatDoor
set_option maxRecDepth 8000
open Go Go.Sx
def EqEntry (e : Ky × V) : Prop := ∀ (h : Hp) (ys zs : List Value), RdL h (edt e) ys → RdL h (edt e) zs → ACalls Tryz.prog 132 #[.agg ys.toArray, .agg zs.toArray] h (Pu (.bool true) h)
theorem eqEntryS_s (l : List (Ky × V)) (ih : ∀ e ∈ l, EqEntry e) (hl : l.length ≤ 4611686018427387904) (s1 s2 : Value) (h : Hp) (r1 : Rd h (.row 8 (l.flatMap edt)) s1) (r2 : Rd h (.row 8 (l.flatMap edt)) s2) :
    ACalls Tryz.prog 68 #[s1, s2] h (Pu (.bool true) h) := by
  obtain ⟨a1, c1, xs1, rfl, hc1, hr1, hat1⟩ := r1.rows (by decide) l.length (fm_len edt_len l)
  obtain ⟨a2, c2, xs2, rfl, hc2, hr2, hat2⟩ := r2.rows (by decide) l.length (fm_len edt_len l)
  (refine enter Tryz.func68 rfl rfl (by kernel_rfl) [] ?_; simp only [go_sem, Nat.reduceBEq])
  refine aloop (ι := Nat) (fun i => [(5, .val (.int .i64 (i : Nat))), (0, .val (.slice a1 l.length c1)), (1, .val (.slice a2 l.length c2))]) (fun _ => []) (fun i h' => i ≤ l.length ∧ h' = h) (fun i => l.length - i) 0 ⟨Nat.zero_le _, rfl⟩ (by repeat (first | exact wkF_e | refine wkF_c rfl ?_)) wkB_e rfl ?_
  rintro i _ ⟨hi, rfl⟩
  simp only [go_sem, Nat.reduceBEq]
  refine Br.intro (fun hb => ?_) (fun hb => ?_) <;> (try simp only [hb, go_sem, Nat.reduceBEq])
  · have hb : i < l.length := by simpa using hb
    obtain ⟨b1, o1, rfl, hat1'⟩ := hat1 (by omega)
    obtain ⟨b2, o2, rfl, hat2'⟩ := hat2 (by omega)
    obtain ⟨e, he, hm⟩ := get_lt hb
    have wsu := wrap_succ (i := i) (by omega)
    refine regionD_intro (lb := []) (by kernel_rfl) ?_
    simp only [ix_nat hb, go_sem, Nat.reduceBEq]
    refine hsem_row (f := edt) (o := 0) (ds := edt e) edt_len tyS141 hat1' hr1 he (Nat.le_refl _) (by rw [List.drop_zero, List.take_of_length_le (Nat.le_of_eq (edt_len e))]) ?_ fun ys1 q1 => ?_
    · omega
    simp only [ix_nat hb, go_sem, Nat.reduceBEq]
    refine hsem_row (f := edt) (o := 0) (ds := edt e) edt_len tyS141 hat2' hr2 he (Nat.le_refl _) (by rw [List.drop_zero, List.take_of_length_le (Nat.le_of_eq (edt_len e))]) ?_ fun ys2 q2 => ?_
    · omega
    simp only [go_sem, Nat.reduceBEq]
    (refine (ih e hm _ _ _ q1 q2).mono ?_; rintro _ _ ⟨rfl, rfl⟩; simp only [go_sem, Nat.reduceBEq])
    simp only [wsu, go_sem]
    exact Again.intro (i + 1) (by first | omega | (simp only; omega)) ⟨hb, rfl⟩ (by repeat (first | exact wkF_e | refine wkF_c rfl ?_)) wkB_e rfl
  · exact ⟨rfl, rfl⟩
def ToEntry (e : Ky × V) : Prop := ∀ (h : Hp) (ys : List Value), RdL h (edt e) ys → ACalls Tryz.prog 119 #[.agg ys.toArray] h fun u h' => ∃ us, u = .agg us.toArray ∧ us.length = 8 ∧ My h h' ((edt e).zip us)
theorem toEntryS_s (l : List (Ky × V)) (ih : ∀ e ∈ l, ToEntry e) (hl : l.length ≤ 1048576) (sl : Value) (h : Hp) (rd : Rd h (.row 8 (l.flatMap edt)) sl) :
    ACalls Tryz.prog 59 #[sl] h fun u h' => My h h' [(.row 8 (l.flatMap edt), u)] := by
  obtain ⟨a, c, xs, rfl, hc, hr, hat⟩ := rd.rows (by decide) l.length (fm_len edt_len l)
  (refine enter Tryz.func59 rfl rfl (by kernel_rfl) [] ?_; simp only [go_sem, Nat.reduceBEq])
  refine hsem_my_make slT42 (by decide) rfl rfl hl (by decide) (My.nil (Ext.refl h)) fun bo h1 m1 => ?_
  simp only [go_sem, Nat.reduceBEq]
  generalize hzz : SlT.zero _ = zz at m1
  refine aloop (ι := Nat) (fun i => [(4, .val (.int .i64 (i : Nat))), (3, .val (.slice (some ⟨bo, 0, none⟩) l.length l.length)), (0, .val (.slice a l.length c))]) (fun _ => []) (fun i h' => i ≤ l.length ∧ My h h' [(.row 8 ((l.take i).flatMap edt ++ zeros zz (l.length - i)), .slice (some ⟨bo, 0, none⟩) l.length l.length)]) (fun i => l.length - i) 0
    ⟨Nat.zero_le _, m1⟩ (by repeat (first | exact wkF_e | refine wkF_c rfl ?_)) wkB_e rfl ?_
  rintro i h2 ⟨hi, m2⟩
  have hi : i ≤ l.length := hi
  have m2 : My h h2 [(.row 8 ((l.take i).flatMap edt ++ zeros zz (l.length - i)), .slice (some ⟨bo, 0, none⟩) l.length l.length)] := m2
  simp only [go_sem, Nat.reduceBEq]
  refine Br.intro (fun hb => ?_) (fun hb => ?_) <;> (try simp only [hb, go_sem, Nat.reduceBEq])
  · have hb : i < l.length := by simpa using hb
    obtain ⟨b, o, rfl, hat'⟩ := hat (by omega)
    have hat2 := hat'.mono m2.ext
    have hr2 := hr.mono m2.ext
    obtain ⟨e, he, hm⟩ := get_lt hb
    have wsu := wrap_succ (i := i) (by omega)
    simp only [ix_nat hb, go_sem, Nat.reduceBEq]
    refine hsem_row (f := edt) (o := 0) (ds := edt e) edt_len tyS132 hat2 hr2 he (Nat.le_refl _) (by rw [List.drop_zero, List.take_of_length_le (Nat.le_of_eq (edt_len e))]) ?_ fun ys1 q1 => ?_
    · omega
    simp only [go_sem, Nat.reduceBEq]
    refine (ih e hm _ _ q1).mono ?_
    rintro _ h3 ⟨us, rfl, hus, n3⟩
    simp only [ix_nat hb, go_sem, Nat.reduceBEq]
    have m3 := m2.add n3
    rw [zeros_sub zz hb] at m3
    refine hsem_my_put tyS141 m3 (by omega) (by rw [List.length_map, ← hzz]; rfl) (edt_len e) hus ?_ fun h4 m4 => ?_
    · rw [fm_len edt_len, List.length_take, Nat.min_eq_left hi]
    simp only [wsu, go_sem, Nat.reduceBEq]
    refine Again.intro (i + 1) (by first | omega | (simp only; omega)) ⟨hb, ?_⟩ (by repeat (first | exact wkF_e | refine wkF_c rfl ?_)) wkB_e rfl
    rw [take_snoc he, List.flatMap_append, List.flatMap_cons, List.flatMap_nil, List.append_nil, List.append_assoc]
    exact m4
  · have hb : i = l.length := by simp at hb; omega
    subst hb
    rw [List.take_length, Nat.sub_self] at m2
    simpa [zeros] using m2
end Go.Proofs.YtedfplodobpgfaaGreatDoor
namespace Go.Proofs.YtedfplodobpgfaaGreatDoor
set_option maxRecDepth 8000
open Go Go.Sx
def EqKey (e : Ky) : Prop := ∀ (h : Hp) (ys zs : List Value), RdL h (Ky.dt e) ys → RdL h (Ky.dt e) zs → ACalls Tryz.prog 108 #[.agg ys.toArray, .agg zs.toArray] h (Pu (.bool true) h)
theorem eqKeyS_s (l : List (Ky)) (ih : ∀ e ∈ l, EqKey e) (hl : l.length ≤ 4611686018427387904) (s1 s2 : Value) (h : Hp) (r1 : Rd h (.row 3 (l.flatMap Ky.dt)) s1) (r2 : Rd h (.row 3 (l.flatMap Ky.dt)) s2) :
    ACalls Tryz.prog 47 #[s1, s2] h (Pu (.bool true) h) := by
  obtain ⟨a1, c1, xs1, rfl, hc1, hr1, hat1⟩ := r1.rows (by decide) l.length (fm_len Ky.dt_len l)
  obtain ⟨a2, c2, xs2, rfl, hc2, hr2, hat2⟩ := r2.rows (by decide) l.length (fm_len Ky.dt_len l)
  (refine enter Tryz.func47 rfl rfl (by kernel_rfl) [] ?_; simp only [go_sem, Nat.reduceBEq])
  refine aloop (ι := Nat) (fun i => [(5, .val (.int .i64 (i : Nat))), (0, .val (.slice a1 l.length c1)), (1, .val (.slice a2 l.length c2))]) (fun _ => []) (fun i h' => i ≤ l.length ∧ h' = h) (fun i => l.length - i) 0 ⟨Nat.zero_le _, rfl⟩ (by repeat (first | exact wkF_e | refine wkF_c rfl ?_)) wkB_e rfl ?_
  rintro i _ ⟨hi, rfl⟩
  simp only [go_sem, Nat.reduceBEq]
  refine Br.intro (fun hb => ?_) (fun hb => ?_) <;> (try simp only [hb, go_sem, Nat.reduceBEq])
  · have hb : i < l.length := by simpa using hb
    obtain ⟨b1, o1, rfl, hat1'⟩ := hat1 (by omega)
    obtain ⟨b2, o2, rfl, hat2'⟩ := hat2 (by omega)
    obtain ⟨e, he, hm⟩ := get_lt hb
    have wsu := wrap_succ (i := i) (by omega)
    refine regionD_intro (lb := []) (by kernel_rfl) ?_
    simp only [ix_nat hb, go_sem, Nat.reduceBEq]
    refine hsem_row (f := Ky.dt) (o := 0) (ds := Ky.dt e) Ky.dt_len tyS40 hat1' hr1 he (Nat.le_refl _) (by rw [List.drop_zero, List.take_of_length_le (Nat.le_of_eq (Ky.dt_len e))]) ?_ fun ys1 q1 => ?_
    · omega
    simp only [ix_nat hb, go_sem, Nat.reduceBEq]
    refine hsem_row (f := Ky.dt) (o := 0) (ds := Ky.dt e) Ky.dt_len tyS40 hat2' hr2 he (Nat.le_refl _) (by rw [List.drop_zero, List.take_of_length_le (Nat.le_of_eq (Ky.dt_len e))]) ?_ fun ys2 q2 => ?_
    · omega
    simp only [go_sem, Nat.reduceBEq]
    (refine (ih e hm _ _ _ q1 q2).mono ?_; rintro _ _ ⟨rfl, rfl⟩; simp only [go_sem, Nat.reduceBEq])
    simp only [wsu, go_sem]
    exact Again.intro (i + 1) (by first | omega | (simp only; omega)) ⟨hb, rfl⟩ (by repeat (first | exact wkF_e | refine wkF_c rfl ?_)) wkB_e rfl
  · exact ⟨rfl, rfl⟩
def ToKey (e : Ky) : Prop := ∀ (h : Hp) (ys : List Value), RdL h (Ky.dt e) ys → ACalls Tryz.prog 15 #[.agg ys.toArray] h fun u h' => ∃ us, u = .agg us.toArray ∧ us.length = 3 ∧ My h h' ((Ky.dt e).zip us)
theorem toKeyS_s (l : List (Ky)) (ih : ∀ e ∈ l, ToKey e) (hl : l.length ≤ 1048576) (sl : Value) (h : Hp) (rd : Rd h (.row 3 (l.flatMap Ky.dt)) sl) :
    ACalls Tryz.prog 45 #[sl] h fun u h' => My h h' [(.row 3 (l.flatMap Ky.dt), u)] := by
  obtain ⟨a, c, xs, rfl, hc, hr, hat⟩ := rd.rows (by decide) l.length (fm_len Ky.dt_len l)
  (refine enter Tryz.func45 rfl rfl (by kernel_rfl) [] ?_; simp only [go_sem, Nat.reduceBEq])
  refine hsem_my_make slT82 (by decide) rfl rfl hl (by decide) (My.nil (Ext.refl h)) fun bo h1 m1 => ?_
  simp only [go_sem, Nat.reduceBEq]
  generalize hzz : SlT.zero _ = zz at m1
  refine aloop (ι := Nat) (fun i => [(4, .val (.int .i64 (i : Nat))), (3, .val (.slice (some ⟨bo, 0, none⟩) l.length l.length)), (0, .val (.slice a l.length c))]) (fun _ => []) (fun i h' => i ≤ l.length ∧ My h h' [(.row 3 ((l.take i).flatMap Ky.dt ++ zeros zz (l.length - i)), .slice (some ⟨bo, 0, none⟩) l.length l.length)]) (fun i => l.length - i) 0
    ⟨Nat.zero_le _, m1⟩ (by repeat (first | exact wkF_e | refine wkF_c rfl ?_)) wkB_e rfl ?_
  rintro i h2 ⟨hi, m2⟩
  have hi : i ≤ l.length := hi
  have m2 : My h h2 [(.row 3 ((l.take i).flatMap Ky.dt ++ zeros zz (l.length - i)), .slice (some ⟨bo, 0, none⟩) l.length l.length)] := m2
  simp only [go_sem, Nat.reduceBEq]
  refine Br.intro (fun hb => ?_) (fun hb => ?_) <;> (try simp only [hb, go_sem, Nat.reduceBEq])
  · have hb : i < l.length := by simpa using hb
    obtain ⟨b, o, rfl, hat'⟩ := hat (by omega)
    have hat2 := hat'.mono m2.ext
    have hr2 := hr.mono m2.ext
    obtain ⟨e, he, hm⟩ := get_lt hb
    have wsu := wrap_succ (i := i) (by omega)
    simp only [ix_nat hb, go_sem, Nat.reduceBEq]
    refine hsem_row (f := Ky.dt) (o := 0) (ds := Ky.dt e) Ky.dt_len tyS27 hat2 hr2 he (Nat.le_refl _) (by rw [List.drop_zero, List.take_of_length_le (Nat.le_of_eq (Ky.dt_len e))]) ?_ fun ys1 q1 => ?_
    · omega
    simp only [go_sem, Nat.reduceBEq]
    refine (ih e hm _ _ q1).mono ?_
    rintro _ h3 ⟨us, rfl, hus, n3⟩
    simp only [ix_nat hb, go_sem, Nat.reduceBEq]
    have m3 := m2.add n3
    rw [zeros_sub zz hb] at m3
    refine hsem_my_put tyS40 m3 (by omega) (by rw [List.length_map, ← hzz]; rfl) (Ky.dt_len e) hus ?_ fun h4 m4 => ?_
    · rw [fm_len Ky.dt_len, List.length_take, Nat.min_eq_left hi]
    simp only [wsu, go_sem, Nat.reduceBEq]
    refine Again.intro (i + 1) (by first | omega | (simp only; omega)) ⟨hb, ?_⟩ (by repeat (first | exact wkF_e | refine wkF_c rfl ?_)) wkB_e rfl
    rw [take_snoc he, List.flatMap_append, List.flatMap_cons, List.flatMap_nil, List.append_nil, List.append_assoc]
    exact m4
  · have hb : i = l.length := by simp at hb; omega
    subst hb
    rw [List.take_length, Nat.sub_self] at m2
    simpa [zeros] using m2
end Go.Proofs.YtedfplodobpgfaaGreatDoor
namespace Go.Proofs.YtedfplodobpgfaaGreatDoor
set_option maxRecDepth 8000
open Go Go.Sx
theorem eqKey_c (k : Ky) (h : Hp) : ACalls Tryz.prog 108 #[.agg #[.bool k.text, .int .i64 k.num, .string k.str], .agg #[.bool k.text, .int .i64 k.num, .string k.str]] h (Pu (.bool true) h) := by
  (refine enter Tryz.func108 rfl rfl (by kernel_rfl) [] ?_; simp only [go_sem, Nat.reduceBEq])
  try simp only [decide_true, Bool.not_true, go_sem, Nat.reduceBEq, Nat.reduceAdd, Nat.reduceLeDiff, Nat.reduceEqDiff, Int.reduceEq, not_false_eq_true, Int.reduceToNat]
  exact ⟨rfl, rfl⟩
def EqV (v : V) : Prop := (V.bulks v.items ≤ 4611686018427387904) → ∀ (h : Hp) (s1 s2 : Value), RdE h v.items s1 → RdE h v.items s2 →
  ACalls Tryz.prog 19 #[.agg #[.int .i64 v.kind, .int .i64 v.num, .string v.str, .int .i64 v.next, s1], .agg #[.int .i64 v.kind, .int .i64 v.num, .string v.str, .int .i64 v.next, s2]] h (Pu (.bool true) h)
theorem bulks_mem : ∀ {es : List (Ky × V)} {e : Ky × V}, e ∈ es → e.2.bulk ≤ V.bulks es
  | (k, v) :: r, e, he => by
    simp only [V.bulks]
    cases he with
    | head => simp only; omega
    | tail _ he => have := bulks_mem he; omega
theorem bulks_len : ∀ es : List (Ky × V), es.length ≤ V.bulks es
  | [] => Nat.le_refl _
  | (k, v) :: r => by
    have := bulks_len r
    simp only [V.bulks, List.length_cons]
    omega
theorem eqEntry_c (e : Ky × V) (ih : EqV e.2) (hb : V.bulks e.2.items ≤ 4611686018427387904) : EqEntry e := by
  intro h ys zs r1 r2
  obtain ⟨s1, rfl, q1⟩ := RdL_entry r1
  obtain ⟨s2, rfl, q2⟩ := RdL_entry r2
  (refine enter Tryz.func132 rfl rfl (by kernel_rfl) [] ?_; simp only [go_sem, Nat.reduceBEq, Nat.reduceAdd, Nat.reduceLeDiff])
  (refine (eqKey_c e.1 _).mono ?_; rintro _ _ ⟨rfl, rfl⟩; simp only [go_sem, Nat.reduceBEq, Nat.reduceAdd, Nat.reduceLeDiff])
  try simp only [Bool.not_true, go_sem, Nat.reduceBEq, Nat.reduceAdd, Nat.reduceLeDiff, Nat.reduceEqDiff, Int.reduceEq, not_false_eq_true, Int.reduceToNat]
  (refine (ih hb _ _ _ q1 q2).mono ?_; rintro _ _ ⟨rfl, rfl⟩; simp only [go_sem, Nat.reduceBEq])
  try simp only [Bool.not_true, go_sem, Nat.reduceBEq, Nat.reduceAdd, Nat.reduceLeDiff, Nat.reduceEqDiff, Int.reduceEq, not_false_eq_true, Int.reduceToNat]
  exact ⟨rfl, rfl⟩
theorem eqValue_c : ∀ v, EqV v := V.ind fun v ih hb h s1 s2 r1 r2 => by
  (refine enter Tryz.func19 rfl rfl (by kernel_rfl) [] ?_; simp only [go_sem, Nat.reduceBEq])
  try simp only [decide_true, Bool.not_true, go_sem, Nat.reduceBEq, Nat.reduceAdd, Nat.reduceLeDiff, Nat.reduceEqDiff, Int.reduceEq, not_false_eq_true, Int.reduceToNat]
  have hl := bulks_len v.items
  (refine (eqEntryS_s v.items (fun e he => eqEntry_c e (ih e he) (by have := bulks_mem he; rw [V.bulk_eq] at this; omega)) (by omega) _ _ _ r1 r2).mono ?_; rintro _ _ ⟨rfl, rfl⟩; simp only [go_sem, Nat.reduceBEq])
  try simp only [Bool.not_true, go_sem, Nat.reduceBEq, Nat.reduceAdd, Nat.reduceLeDiff, Nat.reduceEqDiff, Int.reduceEq, not_false_eq_true, Int.reduceToNat]
  exact ⟨rfl, rfl⟩
theorem eqVal_c (v : V) (hb : v.bulk ≤ 4611686018427387904) (h : Hp) (ys zs : List Value) (r1 : RdL h v.dt ys) (r2 : RdL h v.dt zs) : ACalls Tryz.prog 19 #[.agg ys.toArray, .agg zs.toArray] h (Pu (.bool true) h) := by
  obtain ⟨s1, rfl, q1⟩ := RdL_val r1
  obtain ⟨s2, rfl, q2⟩ := RdL_val r2
  exact eqValue_c v (by rw [V.bulk_eq] at hb; omega) _ _ _ q1 q2
theorem toKey_c (k : Ky) (h : Hp) : ACalls Tryz.prog 15 #[.agg #[.bool k.text, .int .i64 k.num, .string k.str]] h (Pu (.agg #[.bool k.text, .int .i64 k.num, .string k.str]) h) := by
  (refine enter Tryz.func15 rfl rfl (by kernel_rfl) [] ?_; simp only [go_sem, Nat.reduceBEq, Nat.reduceAdd, Nat.reduceLeDiff])
  exact ⟨rfl, rfl⟩
def ToV (v : V) : Prop := v.bulk ≤ 1048576 → ∀ (h : Hp) (sl : Value), RdE h v.items sl →
  ACalls Tryz.prog 16 #[.agg #[.int .i64 v.kind, .int .i64 v.num, .string v.str, .int .i64 v.next, sl]] h fun u h' => ∃ s, u = .agg #[.int .i64 v.kind, .int .i64 v.num, .string v.str, .int .i64 v.next, s] ∧ My h h' [(.row 8 (v.items.flatMap edt), s)]
theorem toEntry_c (e : Ky × V) (ih : ToV e.2) (hb : e.2.bulk ≤ 1048576) : ToEntry e := by
  intro h ys r1
  obtain ⟨s1, rfl, q1⟩ := RdL_entry r1
  (refine enter Tryz.func119 rfl rfl (by kernel_rfl) [] ?_; simp only [go_sem, Nat.reduceBEq, Nat.reduceAdd, Nat.reduceLeDiff])
  (refine (toKey_c e.1 _).mono ?_; rintro _ _ ⟨rfl, rfl⟩; simp only [go_sem, Nat.reduceBEq, Nat.reduceAdd, Nat.reduceLeDiff])
  refine (ih hb _ _ q1).mono ?_
  rintro _ h2 ⟨s, rfl, m⟩
  obtain ⟨a, c, rfl, _⟩ := m.row_shape (by decide) e.2.items.length (fm_len edt_len _)
  simp only [go_sem, Nat.reduceBEq, Nat.reduceAdd, Nat.reduceLeDiff]
  refine ⟨_, rfl, rfl, ?_⟩
  simp only [edt_eq, List.zip_cons_cons, List.zip_nil_right, My.raw_iff, one_bool, one_int, one_str, and_self, true_and]
  exact m
theorem toValue_c : ∀ v, ToV v := V.ind fun v ih hb h sl rd => by
  (refine enter Tryz.func16 rfl rfl (by kernel_rfl) [] ?_; simp only [go_sem, Nat.reduceBEq, Nat.reduceAdd, Nat.reduceLeDiff])
  have h1 := V.bulk_eq v
  have hl := bulks_len v.items
  refine (toEntryS_s v.items (fun e he => toEntry_c e (ih e he) (by have := bulks_mem he; omega)) (by omega) _ _ rd).mono ?_
  rintro u h2 m
  obtain ⟨a, c, rfl, _⟩ := m.row_shape (by decide) v.items.length (fm_len edt_len _)
  simp only [go_sem, Nat.reduceBEq, Nat.reduceAdd, Nat.reduceLeDiff]
  exact ⟨_, rfl, m⟩
theorem toV_c (v : V) (hb : v.bulk ≤ 1048576) (h : Hp) (sl : Value) (rd : RdE h v.items sl) :
  ACalls Tryz.prog 16 #[.agg #[.int .i64 v.kind, .int .i64 v.num, .string v.str, .int .i64 v.next, sl]] h fun u h' => ∃ a c, u = .agg #[.int .i64 v.kind, .int .i64 v.num, .string v.str, .int .i64 v.next, .slice a v.items.length c] ∧ My h h' [(.row 8 (v.items.flatMap edt), .slice a v.items.length c)] := by
  refine (toValue_c v hb h sl rd).mono ?_
  rintro _ h2 ⟨s, rfl, m⟩
  obtain ⟨a, c, rfl, _⟩ := m.row_shape (by decide) v.items.length (fm_len edt_len _)
  exact ⟨a, c, rfl, m⟩
theorem toKeyS_c (l : List Ky) (hl : l.length ≤ 1048576) (sl : Value) (h : Hp) (rd : Rd h (.row 3 (l.flatMap Ky.dt)) sl) :
    ACalls Tryz.prog 45 #[sl] h fun u h' => My h h' [(.row 3 (l.flatMap Ky.dt), u)] := by
  refine toKeyS_s l (fun e _ h ys r => ?_) hl sl h rd
  rw [RdL_key r]
  refine (toKey_c e h).mono ?_
  rintro _ _ ⟨rfl, rfl⟩
  refine ⟨_, rfl, rfl, ?_⟩
  simp only [Ky.dt, List.zip_cons_cons, List.zip_nil_right, My.raw_iff, one_bool, one_int, one_str, and_self, true_and]
  exact My.nil (Ext.refl _)
theorem eqKeyS_c (l : List Ky) (hl : l.length ≤ 1048576) (s1 s2 : Value) (h : Hp) (r1 : Rd h (.row 3 (l.flatMap Ky.dt)) s1) (r2 : Rd h (.row 3 (l.flatMap Ky.dt)) s2) :
    ACalls Tryz.prog 47 #[s1, s2] h (Pu (.bool true) h) := by
  refine eqKeyS_s l (fun e _ h ys zs q1 q2 => ?_) (by omega) s1 s2 h r1 r2
  rw [RdL_key q1, RdL_key q2]
  exact eqKey_c e h
end Go.Proofs.YtedfplodobpgfaaGreatDoor
namespace Go.Proofs.YtedfplodobpgfaaGreatDoor
set_option maxRecDepth 8000
open Go Go.Sx
theorem szKey_c (k : Ky) (hk : k.ok) (l : Int) (h0 : 0 ≤ l) (h1 : l ≤ 1048576) (h : Hp) : ACalls Tryz.prog 11 #[.agg #[.bool k.text, .int .i64 k.num, .string k.str], .int .i64 l] h (Pu (.int .i64 (less l k.str.size)) h) := by
  (refine enter Tryz.func11 rfl rfl (by kernel_rfl) [] ?_; simp only [go_sem, Nat.reduceBEq])
  simp only [less_wrap h0 h1 hk.2, go_sem]
  refine Br.intro (fun hb => ?_) (fun hb => ?_) <;> (try simp only [hb, go_sem, Nat.reduceBEq])
  · have hb : l - (k.str.size : Int) < 0 := by simpa using hb
    exact ⟨by unfold less; rw [if_neg (by omega)], rfl⟩
  · have hb : ¬ l - (k.str.size : Int) < 0 := by simpa using hb
    exact ⟨by unfold less; rw [if_pos (by omega)], rfl⟩
def SzV (v : V) : Prop := v.ok → ∀ (sl : Value) (l : Int) (h : Hp), RdE h v.items sl → 0 ≤ l → l ≤ 1048576 →
  ACalls Tryz.prog 12 #[.agg #[.int .i64 v.kind, .int .i64 v.num, .string v.str, .int .i64 v.next, sl], .int .i64 l] h (Pu (.int .i64 (less l v.bulk)) h)
theorem szEntry_c (e : Ky × V) (ih : SzV e.2) (h1 : e.1.ok) (h2 : e.2.ok) (sl : Value) (l : Int) (h : Hp) (rd : RdE h e.2.items sl) (l0 : 0 ≤ l) (l1 : l ≤ 1048576) :
    ACalls Tryz.prog 110 #[.agg #[.bool e.1.text, .int .i64 e.1.num, .string e.1.str, .int .i64 e.2.kind, .int .i64 e.2.num, .string e.2.str, .int .i64 e.2.next, sl], .int .i64 l] h (Pu (.int .i64 (less l (e.1.str.size + e.2.bulk))) h) := by
  (refine enter Tryz.func110 rfl rfl (by kernel_rfl) [] ?_; simp only [go_sem, Nat.reduceBEq, Nat.reduceAdd, Nat.reduceLeDiff])
  (refine (szKey_c _ h1 _ l0 l1 _).mono ?_; rintro _ _ ⟨rfl, rfl⟩; simp only [go_sem, Nat.reduceBEq])
  refine Br.intro (fun hb => ?_) (fun hb => ?_) <;> (try simp only [hb, go_sem, Nat.reduceBEq, Nat.reduceAdd, Nat.reduceLeDiff])
  · have hb : less l e.1.str.size < 0 := by simpa using hb
    exact ⟨by rw [less_neg hb], rfl⟩
  · have hb : 0 ≤ less l e.1.str.size := by simpa using hb
    (refine (ih h2 _ _ _ rd hb (less_le l1)).mono ?_; rintro _ _ ⟨rfl, rfl⟩; simp only [go_sem, Nat.reduceBEq])
    rw [less_add hb]
    refine Br.intro (fun hc => ?_) (fun hc => ?_) <;> (try simp only [hc, go_sem, Nat.reduceBEq])
    · have hc : less l (e.1.str.size + e.2.bulk) < 0 := by simpa using hc
      exact ⟨by rw [less_is hc], rfl⟩
    · exact ⟨rfl, rfl⟩
def wsum (es : List (Ky × V)) : Nat := (es.map fun e => e.1.str.size + e.2.bulk).sum
theorem wsum_snoc {es : List (Ky × V)} {i : Nat} {e : Ky × V} (hi : es[i]? = some e) : wsum (es.take (i + 1)) = wsum (es.take i) + (e.1.str.size + e.2.bulk) := by
  rw [List.take_add_one, hi]; simp [wsum]
theorem wsum_split (es : List (Ky × V)) (k : Nat) : wsum es = wsum (es.take k) + wsum (es.drop k) := by
  unfold wsum; rw [← List.sum_append, ← List.map_append, List.take_append_drop]
theorem bulks_eq : ∀ es : List (Ky × V), V.bulks es = es.length + wsum es
  | [] => rfl
  | (k, v) :: r => by simp only [V.bulks, bulks_eq r, wsum, List.length_cons, List.map_cons, List.sum_cons]; omega
theorem szEntryS_c (es : List (Ky × V)) (ih : ∀ e ∈ es, SzV e.2) (ok : V.oks es) (hl : es.length ≤ maxLen) (sl : Value) (l : Int) (h : Hp) (rd : RdE h es sl) (l0 : 0 ≤ l) (l1 : l ≤ 1048576) :
    ACalls Tryz.prog 51 #[sl, .int .i64 l] h (Pu (.int .i64 (less l (V.bulks es))) h) := by
  obtain ⟨a, c, xs, rfl, hc, hr, hat⟩ := rd.rows (by decide) es.length (fm_len edt_len es)
  (refine enter Tryz.func51 rfl rfl (by kernel_rfl) [] ?_; simp only [go_sem, Nat.reduceBEq])
  simp only [less_wrap l0 l1 hl, go_sem]
  refine Br.intro (fun hb => ?_) (fun hb => ?_) <;> (try simp only [hb, go_sem, Nat.reduceBEq])
  · have hb : l - (es.length : Int) < 0 := by simpa using hb
    exact ⟨by rw [bulks_eq, less_neg (by unfold less; split <;> omega)], rfl⟩
  · have hb : ¬ l - (es.length : Int) < 0 := by simpa using hb
    have e0 : l - (es.length : Int) = less l (es.length + wsum (es.take 0)) := by unfold less; simp [wsum]; omega
    rw [e0]
    refine aloop (ι := Nat) (fun i => [(5, .val (.int .i64 (i : Nat))), (1, .val (.int .i64 (less l (es.length + wsum (es.take i))))), (0, .val (.slice a es.length c))]) (fun _ => []) (fun i h' => i ≤ es.length ∧ 0 ≤ less l (es.length + wsum (es.take i)) ∧ h = h') (fun i => es.length - i) 0
      ⟨Nat.zero_le _, by rw [← e0]; omega, rfl⟩ (by repeat (first | exact wkF_e | refine wkF_c rfl ?_)) wkB_e rfl ?_
    intro i h1 hx
    have hx : i ≤ es.length ∧ 0 ≤ less l (es.length + wsum (es.take i)) ∧ h = h1 := hx
    have hi := hx.1
    have hf := hx.2.1
    have he := hx.2.2
    clear hx
    subst he
    simp only [go_sem, Nat.reduceBEq]
    refine Br.intro (fun hb => ?_) (fun hb => ?_) <;> (try simp only [hb, go_sem, Nat.reduceBEq])
    · have hb : i < es.length := by simpa using hb
      obtain ⟨b, off, rfl, hat'⟩ := hat (by omega)
      obtain ⟨e, he, hm⟩ := get_lt hb
      have hok := V.oks_mem ok hm
      simp only [ix_nat hb, go_sem, Nat.reduceBEq]
      refine hsem_entry tyS132 hat' hr he rfl fun sl' rd' => ?_
      simp only [go_sem, Nat.reduceBEq]
      (refine (szEntry_c e (ih e hm) hok.1 hok.2 sl' _ _ rd' hf (less_le l1)).mono ?_; rintro _ _ ⟨rfl, rfl⟩; simp only [go_sem, Nat.reduceBEq])
      rw [less_add hf, Nat.add_assoc, ← wsum_snoc he]
      refine Br.intro (fun hc => ?_) (fun hc => ?_) <;> (try simp only [hc, go_sem, Nat.reduceBEq])
      · have hc : less l (es.length + wsum (es.take (i + 1))) < 0 := by simpa using hc
        refine ⟨?_, rfl⟩
        rw [bulks_eq, wsum_split es (i + 1), ← Nat.add_assoc, less_neg hc]
      · have hc : 0 ≤ less l (es.length + wsum (es.take (i + 1))) := by simpa using hc
        rw [wrap_succ (i := i) (by unfold maxLen at hl; omega)]
        exact Again.intro (i + 1) (by first | omega | (simp only; omega)) ⟨hb, hc, rfl⟩ (by repeat (first | exact wkF_e | refine wkF_c rfl ?_)) wkB_e rfl
    · have hb : i = es.length := by simp at hb; omega
      subst hb
      refine ⟨?_, rfl⟩
      rw [List.take_length, bulks_eq]
theorem szValue_c : ∀ v, SzV v := V.ind fun v ih ok sl l h rd l0 l1 => by
  (refine enter Tryz.func12 rfl rfl (by kernel_rfl) [] ?_; simp only [go_sem, Nat.reduceBEq])
  simp only [less_wrap l0 l1 (V.ok_str ok), go_sem]
  refine Br.intro (fun hb => ?_) (fun hb => ?_) <;> (try simp only [hb, go_sem, Nat.reduceBEq])
  · have hb : l - (v.str.size : Int) < 0 := by simpa using hb
    exact ⟨by rw [V.bulk_eq, less_neg (by unfold less; split <;> omega)], rfl⟩
  · have hb : ¬ l - (v.str.size : Int) < 0 := by simpa using hb
    have e0 : l - (v.str.size : Int) = less l v.str.size := by unfold less; split <;> omega
    rw [e0]
    (refine (szEntryS_c v.items ih (V.ok_items ok) (V.ok_len ok) sl _ _ rd (by omega) (less_le l1)).mono ?_; rintro _ _ ⟨rfl, rfl⟩; simp only [go_sem, Nat.reduceBEq])
    rw [less_add (by omega), ← V.bulk_eq]
    refine Br.intro (fun hc => ?_) (fun hc => ?_) <;> (try simp only [hc, go_sem, Nat.reduceBEq])
    · have hc : less l v.bulk < 0 := by simpa using hc
      exact ⟨by rw [less_is hc], rfl⟩
    · exact ⟨rfl, rfl⟩
end Go.Proofs.YtedfplodobpgfaaGreatDoor
namespace Go.Proofs.YtedfplodobpgfaaGreatDoor
set_option maxRecDepth 8000
open Go Go.Sx
theorem dig_byte (k : Nat) : IntKind.u8.wrap (IntKind.i64.wrap (48 + ((k : Nat) : Int).tmod 10)) = (((UInt8.ofNat (48 + k % 10)).toNat : Nat) : Int) := by
  have h1 : ((k : Nat) : Int).tmod 10 = ((k % 10 : Nat) : Int) := by rw [Int.tmod_eq_emod_of_nonneg (by omega)]; rfl
  rw [h1, IntWalk.i64_in _ (by omega)]
  have h2 : (UInt8.ofNat (48 + k % 10)).toNat = 48 + k % 10 := by
    rw [UInt8.toNat_ofNat']; omega
  rw [h2]
  have : k % 10 < 10 := Nat.mod_lt _ (by omega)
  generalize k % 10 = r at *
  have h3 : ∀ r : Nat, r < 10 → IntKind.u8.wrap (48 + (r : Int)) = ((48 + r : Nat) : Int) := by decide
  exact h3 r this
theorem quo10 (k : Nat) (hk : k ≤ 4611686018427387904) : IntKind.i64.wrap (((k : Nat) : Int).tdiv 10) = ((k / 10 : Nat) : Int) := by
  have h1 : ((k : Nat) : Int).tdiv 10 = ((k / 10 : Nat) : Int) := by rw [Int.tdiv_eq_ediv_of_nonneg (by omega)]; rfl
  rw [h1, IntWalk.i64_in _ (by omega)]
theorem markText_c (k : Nat) (hk : k ≤ 4611686018427387904) (h : Hp) : ACalls Tryz.prog 97 #[.int .i64 (k : Nat)] h (Is (.string (mtext k)) h) := by
  (refine enter Tryz.func97 rfl rfl (by kernel_rfl) [] ?_; simp only [go_sem, Nat.reduceBEq])
  refine Br.intro (fun hb => ?_) (fun hb => ?_) <;> (try simp only [hb, go_sem, Nat.reduceBEq])
  · have hb : k = 0 := by have := of_decide_eq_true hb; omega
    subst hb
    exact ⟨by rw [mtext, if_pos rfl], Ext.refl _⟩
  · have hb : 0 < k := by have := of_decide_eq_false hb; omega
    refine aloop (ι := Nat × List UInt8) (fun x => [(0, .val (.int .i64 (x.1 : Nat))), (3, .val (.string ⟨x.2.toArray⟩))]) (fun _ => []) (fun x h' => mdig x.1 x.2 = mdig k [] ∧ x.2.length + x.1 ≤ k ∧ Ext h h') (fun x => x.1) (k, [])
      ⟨rfl, by simp, Ext.refl _⟩ (by repeat (first | exact wkF_e | refine wkF_c rfl ?_)) wkB_e rfl ?_
    rintro ⟨q, l⟩ h1 ⟨hq, hl, he⟩
    have hl : l.length + q ≤ k := hl
    have hq : mdig q l = mdig k [] := hq
    simp only [go_sem, Nat.reduceBEq]
    refine Br.intro (fun hc => ?_) (fun hc => ?_) <;> (try simp only [hc, go_sem, Nat.reduceBEq, Int.reduceEq, not_false_eq_true])
    · have hc : 0 < q := by have := of_decide_eq_true hc; omega
      simp only [dig_byte, go_sem]
      refine bytes_lit1 slT160 (UInt8.ofNat (48 + q % 10)) fun u2 h2 m2 => ?_
      simp only [go_sem, Nat.reduceBEq]
      refine cvK_bytes bytT160 isStr9 m2.rd ?_
      simp only [quo10 q (by omega), go_sem, Nat.reduceBEq, Int.reduceEq, not_false_eq_true]
      refine ⟨by rw [i64max]; simp; omega, ?_⟩
      exact Again.intro (q / 10, UInt8.ofNat (48 + q % 10) :: l) (by simp only; omega) ⟨by rw [← hq, mdig_step hc], by simp only [List.length_cons]; omega, he.trans m2.ext⟩ (by repeat (first | exact wkF_e | refine wkF_c rfl ?_)) wkB_e rfl
    · have hc : q = 0 := by have := of_decide_eq_false hc; omega
      subst hc
      rw [mdig_zero] at hq
      refine ⟨by rw [i64max]; simp; omega, ?_⟩
      refine ⟨?_, he⟩
      rw [mtext, if_neg (by omega), ← hq]
      rfl
end Go.Proofs.YtedfplodobpgfaaGreatDoor
namespace Go.Proofs.YtedfplodobpgfaaGreatDoor
set_option maxRecDepth 8000
open Go Go.Sx
def MkEntryS (l : List (Ky × V)) : Prop := ∀ (k : Nat) (_ : k + cntEs l ≤ 4611686018427387904) (sl : Value) (bag : Bag) (h0 h : Hp) (_ : My h0 h ((.row 8 (l.flatMap edt), sl) :: bag)),
    ACalls Tryz.prog 71 #[sl, .int .i64 (k : Nat)] h fun v h' => v = .int .i64 ((k + cntEs l : Nat)) ∧ My h0 h' ((.row 8 ((mkEs l k).flatMap edt), sl) :: bag)
def HdEntryS (l : List (Ky × V)) : Prop := ∀ (k : Nat) (_ : k + cntEs l ≤ 4611686018427387904) (sl : Value) (h : Hp) (_ : Rd h (.row 8 ((mkEs l k).flatMap edt)) sl),
    ACalls Tryz.prog 87 #[sl, .int .i64 (k : Nat)] h (Is (.int .i64 ((k + cntEs l : Nat))) h)
theorem markEntryS_s (l : List (Ky × V)) (k : Nat) (hk : k + cntEs l ≤ 4611686018427387904) (ih : ∀ e ∈ l, MkEntryS (e.2.items)) (sl : Value) (bag : Bag) (h0 h : Hp) (m : My h0 h ((.row 8 (l.flatMap edt), sl) :: bag)) :
    ACalls Tryz.prog 71 #[sl, .int .i64 (k : Nat)] h fun v h' => v = .int .i64 ((k + cntEs l : Nat)) ∧ My h0 h' ((.row 8 ((mkEs l k).flatMap edt), sl) :: bag) := by
  obtain ⟨a, c, rfl, hc, hcm, hat⟩ := m.row_shape (by decide) l.length (fm_len edt_len l)
  have hlm : l.length ≤ maxLen := Nat.le_trans hc hcm
  (refine enter Tryz.func71 rfl rfl (by kernel_rfl) [] ?_; simp only [go_sem])
  refine aloop (ι := Nat) (fun i => [(5, .val (.int .i64 (i : Nat))), (1, .val (.int .i64 ((k + cntEs (l.take i) : Nat)))), (0, .val (.slice a l.length c))]) (fun _ => []) (fun i h' => i ≤ l.length ∧ My h0 h' ((.row 8 ((mkEs (l.take i) k).flatMap edt ++ (l.drop i).flatMap edt), .slice a l.length c) :: bag)) (fun i => l.length - i) 0
    ⟨Nat.zero_le _, m⟩ (by repeat (first | exact wkF_e | refine wkF_c rfl ?_)) wkB_e rfl ?_
  rintro i h1 ⟨hi, m1⟩
  have hi : i ≤ l.length := hi
  simp only [go_sem, Nat.reduceBEq]
  refine Br.intro (fun hb => ?_) (fun hb => ?_) <;> (try simp only [hb, go_sem, Nat.reduceBEq, Int.reduceEq, not_false_eq_true])
  · have hb : i < l.length := by simpa using hb
    obtain ⟨b, rfl⟩ := hat (by omega)
    have hpos : 0 < l.length := by omega
    obtain ⟨e, he, hm⟩ := get_lt hb
    have hsn := cntEs_snoc he
    have hms := mkEs_snoc he k
    have hle := cntEs_le he
    have hA : ((mkEs (l.take i) k).flatMap edt).length = i * 8 := by rw [fm_len edt_len, mkEs_len, List.length_take]; congr 1; omega
    have m1 : My h0 h1 ((.row 8 ((mkEs (l.take i) k).flatMap edt ++ (l.drop i).flatMap edt), .slice (some ⟨b, 0, none⟩) l.length c) :: bag) := m1
    rw [drop_cons he, List.flatMap_cons, edt_eq] at m1
    have fin : ∀ h' , My h0 h' ((.row 8 ((mkEs (l.take i) k).flatMap edt ++ (edt (mkE (k + cntEs (l.take i)) e) ++ (l.drop (i + 1)).flatMap edt)), .slice (some ⟨b, 0, none⟩) l.length c) :: bag) → My h0 h' ((.row 8 ((mkEs (l.take (i + 1)) k).flatMap edt ++ (l.drop (i + 1)).flatMap edt), .slice (some ⟨b, 0, none⟩) l.length c) :: bag) := fun h' m => by
      rw [hms, List.flatMap_append, List.flatMap_cons, List.flatMap_nil, List.append_nil, List.append_assoc]; exact m
    rw [edt_eq] at fin
    have hq0 : k + cntEs (l.take i) ≤ 4611686018427387904 := by omega
    generalize hq : k + cntEs (l.take i) = q at *
    generalize (mkEs (l.take i) k).flatMap edt = A at *
    generalize hR : (l.drop (i + 1)).flatMap edt = R at *
    have wq0 : IntKind.i64.wrap (((q : Nat) : Int) + 1) = ((q + 1 : Nat) : Int) := by rw [IntWalk.i64_in _ (by omega)]; rfl
    have wq1 : IntKind.i64.wrap (((q + 1 : Nat) : Int) + 1) = ((q + 2 : Nat) : Int) := by rw [IntWalk.i64_in _ (by omega)]; rfl
    have wq2 : IntKind.i64.wrap (((q + 2 : Nat) : Int) + 1) = ((q + 3 : Nat) : Int) := by rw [IntWalk.i64_in _ (by omega)]; rfl
    have wq3 : IntKind.i64.wrap (((q + 3 : Nat) : Int) + 1) = ((q + 4 : Nat) : Int) := by rw [IntWalk.i64_in _ (by omega)]; rfl
    have wq4 : IntKind.i64.wrap (((q + 4 : Nat) : Int) + 1) = ((q + 5 : Nat) : Int) := by rw [IntWalk.i64_in _ (by omega)]; rfl
    have wq5 : IntKind.i64.wrap (((q + 5 : Nat) : Int) + 1) = ((q + 6 : Nat) : Int) := by rw [IntWalk.i64_in _ (by omega)]; rfl
    have wq6 : IntKind.i64.wrap (((q + 6 : Nat) : Int) + 1) = ((q + 7 : Nat) : Int) := by rw [IntWalk.i64_in _ (by omega)]; rfl
    have wsu := wrap_succ (i := i) (by unfold maxLen at hlm; omega)
    simp only [ix_nat hb, go_sem, Nat.reduceBEq]
    refine hsem_my_cell (A := A) (R := R) (j := 0) tyS4 rfl m1 hpos (Nat.le_of_ble_eq_true rfl) rfl rfl (by omega) fun h2 m2 => ?_
    simp only [ix_nat hb, wq0, go_sem, Nat.reduceBEq]
    refine hsem_my_cell (A := A) (R := R) (j := 1) tyS3 rfl m2 hpos (Nat.le_of_ble_eq_true rfl) rfl rfl (by omega) fun h3 m3 => ?_
    simp only [wq1, go_sem, Nat.reduceBEq]
    refine (markText_c (q + 2) (by omega) _).mono ?_
    rintro _ h4 ⟨rfl, x4⟩
    have m4 := m3.mono x4
    simp only [ix_nat hb, go_sem, Nat.reduceBEq, Nat.reduceAdd]
    refine hsem_my_cell (A := A) (R := R) (j := 2) tyS9 rfl m4 hpos (Nat.le_of_ble_eq_true rfl) rfl rfl (by omega) fun h5 m5 => ?_
    simp only [ix_nat hb, wq2, go_sem, Nat.reduceBEq, Nat.reduceAdd]
    refine hsem_my_cell (A := A) (R := R) (j := 3) tyS3 rfl m5 hpos (Nat.le_of_ble_eq_true rfl) rfl rfl (by omega) fun h6 m6 => ?_
    simp only [ix_nat hb, wq3, go_sem, Nat.reduceBEq, Nat.reduceAdd]
    refine hsem_my_cell (A := A) (R := R) (j := 4) tyS3 rfl m6 hpos (Nat.le_of_ble_eq_true rfl) rfl rfl (by omega) fun h7 m7 => ?_
    simp only [wq4, go_sem, Nat.reduceBEq]
    refine (markText_c (q + 5) (by omega) _).mono ?_
    rintro _ h8 ⟨rfl, x8⟩
    have m8 := m7.mono x8
    simp only [ix_nat hb, go_sem, Nat.reduceBEq, Nat.reduceAdd]
    refine hsem_my_cell (A := A) (R := R) (j := 5) tyS9 rfl m8 hpos (Nat.le_of_ble_eq_true rfl) rfl rfl (by omega) fun h9 m9 => ?_
    simp only [ix_nat hb, wq5, go_sem, Nat.reduceBEq, Nat.reduceAdd]
    refine hsem_my_cell (A := A) (R := R) (j := 6) tyS3 rfl m9 hpos (Nat.le_of_ble_eq_true rfl) rfl rfl (by omega) fun h10 m10 => ?_
    simp only [ix_nat hb, wq6, go_sem, Nat.reduceBEq, Nat.reduceAdd]
    obtain ⟨u7, m11⟩ := m10.openAt (A := A) (R := R) (j := 7) rfl
    refine hsem_my_get (A := A) (R := R) (j := 7) tyS42 m11.swap hpos (d := .raw u7) rfl (by omega) fun u' hu' => ?_
    obtain ⟨rfl, _⟩ := Rd_raw.1 hu'
    simp only [go_sem, Nat.reduceBEq]
    refine (ih e hm (q + 7) (by omega) _ _ _ _ m11).mono ?_
    rintro _ h11 ⟨rfl, m12⟩
    have m13 := m12.closeAt (A := A) (R := R) (j := 7) rfl
    generalize hq7 : q + 7 + cntEs (e.2.items) = q7 at *
    simp only [go_sem, Nat.reduceBEq]
    rw [wsu]
    have hend : k + cntEs (l.take (i + 1)) = q7 := by omega
    refine Again.intro (i + 1) (by first | omega | (simp only; omega)) ⟨hb, ?_⟩ (by simp only [hend]; exact (by repeat (first | exact wkF_e | refine wkF_c rfl ?_))) wkB_e rfl
    have m14 := fin _ m13
    rw [← hR] at m14
    exact m14
  · have hb : i = l.length := by simp at hb; omega
    subst hb
    have m1 : My h0 h1 ((.row 8 ((mkEs (l.take l.length) k).flatMap edt ++ (l.drop l.length).flatMap edt), .slice a l.length c) :: bag) := m1
    rw [List.take_length, List.drop_length, List.flatMap_nil, List.append_nil] at m1
    rw [List.take_length]
    exact ⟨rfl, m1⟩
theorem heldEntryS_s (l : List (Ky × V)) (k : Nat) (hk : k + cntEs l ≤ 4611686018427387904) (ih : ∀ e ∈ l, HdEntryS (e.2.items)) (sl : Value) (h : Hp) (rd : Rd h (.row 8 ((mkEs l k).flatMap edt)) sl) :
    ACalls Tryz.prog 87 #[sl, .int .i64 (k : Nat)] h (Is (.int .i64 ((k + cntEs l : Nat))) h) := by
  have hml := mkEs_len l k
  obtain ⟨a, c, xs, rfl, hc, hr, hat⟩ := rd.rows (by decide) l.length (by rw [fm_len edt_len, hml])
  (refine enter Tryz.func87 rfl rfl (by kernel_rfl) [] ?_; simp only [go_sem])
  refine aloop (ι := Nat) (fun i => [(5, .val (.int .i64 (i : Nat))), (1, .val (.int .i64 ((k + cntEs (l.take i) : Nat)))), (0, .val (.slice a l.length c))]) (fun _ => []) (fun i h' => i ≤ l.length ∧ Ext h h') (fun i => l.length - i) 0
    ⟨Nat.zero_le _, Ext.refl _⟩ (by repeat (first | exact wkF_e | refine wkF_c rfl ?_)) wkB_e rfl ?_
  rintro i h1 ⟨hi, x1⟩
  have hi : i ≤ l.length := hi
  have x1 : Ext h h1 := x1
  simp only [go_sem, Nat.reduceBEq]
  refine Br.intro (fun hb => ?_) (fun hb => ?_) <;> (try simp only [hb, go_sem, Nat.reduceBEq])
  · have hb : i < l.length := by simpa using hb
    obtain ⟨b, off, rfl, hat0⟩ := hat (by omega)
    have hat1 := hat0.mono x1
    have hr1 := hr.mono x1
    obtain ⟨e, he, hm⟩ := get_lt hb
    have hsn := cntEs_snoc he
    have hge := mkEs_get he k
    have hle := cntEs_le he
    have hq0 : k + cntEs (l.take i) ≤ 4611686018427387904 := by omega
    have hlm : l.length ≤ 4611686018427387904 := by have := cntEs_pos l; omega
    have wsu := wrap_succ (i := i) (by omega)
    generalize hq : k + cntEs (l.take i) = q at *
    have wq0 : IntKind.i64.wrap (((q : Nat) : Int) + 1) = ((q + 1 : Nat) : Int) := by rw [IntWalk.i64_in _ (by omega)]; rfl
    have wq1 : IntKind.i64.wrap (((q + 1 : Nat) : Int) + 1) = ((q + 2 : Nat) : Int) := by rw [IntWalk.i64_in _ (by omega)]; rfl
    have wq2 : IntKind.i64.wrap (((q + 2 : Nat) : Int) + 1) = ((q + 3 : Nat) : Int) := by rw [IntWalk.i64_in _ (by omega)]; rfl
    have wq3 : IntKind.i64.wrap (((q + 3 : Nat) : Int) + 1) = ((q + 4 : Nat) : Int) := by rw [IntWalk.i64_in _ (by omega)]; rfl
    have wq4 : IntKind.i64.wrap (((q + 4 : Nat) : Int) + 1) = ((q + 5 : Nat) : Int) := by rw [IntWalk.i64_in _ (by omega)]; rfl
    have wq5 : IntKind.i64.wrap (((q + 5 : Nat) : Int) + 1) = ((q + 6 : Nat) : Int) := by rw [IntWalk.i64_in _ (by omega)]; rfl
    have wq6 : IntKind.i64.wrap (((q + 6 : Nat) : Int) + 1) = ((q + 7 : Nat) : Int) := by rw [IntWalk.i64_in _ (by omega)]; rfl
    simp only [ix_nat hb, go_sem, Nat.reduceBEq]
    refine hsem_cell (f := edt) (o := 0) edt_len tyS4 hat1 hr1 hge (by decide) (by rw [edt_eq]; rfl) ?_ fun y0 r0 => ?_
    · omega
    obtain ⟨rfl, _⟩ := Rd_raw.1 r0
    simp only [go_sem, Nat.reduceBEq, Int.reduceEq, not_false_eq_true]
    simp only [mkE, mbit, decide_true, Bool.not_true, go_sem]
    simp only [ix_nat hb, wq0, go_sem, Nat.reduceBEq]
    refine hsem_cell (f := edt) (o := 1) edt_len tyS3 hat1 hr1 hge (by decide) (by rw [edt_eq]; rfl) ?_ fun y1 r1 => ?_
    · omega
    obtain ⟨rfl, _⟩ := Rd_raw.1 r1
    simp only [go_sem, Nat.reduceBEq]
    simp only [mkE, decide_true, Bool.not_true, wq1, go_sem, Nat.reduceBEq]
    refine regionD_still (lb := []) (pl := [39]) h1 (Ext.refl _) (by kernel_rfl) ?_
    simp only [ix_nat hb, go_sem, Nat.reduceBEq, Nat.reduceAdd]
    refine hsem_cell (f := edt) (o := 2) edt_len tyS9 hat1 hr1 hge (by decide) (by rw [edt_eq]; rfl) ?_ fun y2 r2 => ?_
    · omega
    obtain ⟨rfl, _⟩ := Rd_raw.1 r2
    simp only [go_sem, Nat.reduceBEq]
    refine (markText_c (q + 2) (by omega) _).mono ?_
    rintro _ h2 ⟨rfl, x2⟩
    simp only [go_sem, Nat.reduceBEq]
    refine ⟨x2, ?_⟩
    have hat2 := hat1.mono x2
    have hr2 := hr1.mono x2
    have X2 := x1.trans x2
    simp only [mkE, decide_true, Bool.not_true, ix_nat hb, wq2, go_sem, Nat.reduceBEq, Nat.reduceAdd]
    refine hsem_cell (f := edt) (o := 3) edt_len tyS3 hat2 hr2 hge (by decide) (by rw [edt_eq]; rfl) ?_ fun y3 r3 => ?_
    · omega
    obtain ⟨rfl, _⟩ := Rd_raw.1 r3
    simp only [go_sem, Nat.reduceBEq]
    simp only [mkE, decide_true, Bool.not_true, ix_nat hb, wq3, go_sem, Nat.reduceBEq, Nat.reduceAdd]
    refine hsem_cell (f := edt) (o := 4) edt_len tyS3 hat2 hr2 hge (by decide) (by rw [edt_eq]; rfl) ?_ fun y4 r4 => ?_
    · omega
    obtain ⟨rfl, _⟩ := Rd_raw.1 r4
    simp only [go_sem, Nat.reduceBEq]
    simp only [mkE, decide_true, Bool.not_true, wq4, go_sem, Nat.reduceBEq]
    refine regionD_still (lb := []) (pl := [70]) h2 (Ext.refl _) (by kernel_rfl) ?_
    simp only [ix_nat hb, go_sem, Nat.reduceBEq, Nat.reduceAdd]
    refine hsem_cell (f := edt) (o := 5) edt_len tyS9 hat2 hr2 hge (by decide) (by rw [edt_eq]; rfl) ?_ fun y5 r5 => ?_
    · omega
    obtain ⟨rfl, _⟩ := Rd_raw.1 r5
    simp only [go_sem, Nat.reduceBEq]
    refine (markText_c (q + 5) (by omega) _).mono ?_
    rintro _ h3 ⟨rfl, x3⟩
    simp only [go_sem, Nat.reduceBEq]
    refine ⟨x3, ?_⟩
    have hat3 := hat2.mono x3
    have hr3 := hr2.mono x3
    have X3 := X2.trans x3
    simp only [mkE, decide_true, Bool.not_true, ix_nat hb, wq5, go_sem, Nat.reduceBEq, Nat.reduceAdd]
    refine hsem_cell (f := edt) (o := 6) edt_len tyS3 hat3 hr3 hge (by decide) (by rw [edt_eq]; rfl) ?_ fun y6 r6 => ?_
    · omega
    obtain ⟨rfl, _⟩ := Rd_raw.1 r6
    simp only [go_sem, Nat.reduceBEq]
    simp only [mkE, decide_true, Bool.not_true, ix_nat hb, wq6, go_sem, Nat.reduceBEq, Nat.reduceAdd]
    refine hsem_cell (f := edt) (o := 7) edt_len tyS42 hat3 hr3 hge (by decide) (by rw [edt_eq]; rfl) ?_ fun y7 r7 => ?_
    · omega
    simp only [go_sem, Nat.reduceBEq]
    refine (ih e hm (q + 7) (by omega) _ _ r7).mono ?_
    rintro _ h4 ⟨rfl, x4⟩
    have hat4 := hat3.mono x4
    have hr4 := hr3.mono x4
    have X4 := X3.trans x4
    generalize hq7 : q + 7 + cntEs (e.2.items) = q7 at *
    have hneg7 : decide (((q7 : Nat) : Int) < 0) = false := decide_eq_false (by omega)
    simp only [hneg7, go_sem, Nat.reduceBEq]
    rw [wsu]
    have hend : k + cntEs (l.take (i + 1)) = q7 := by omega
    exact Again.intro (i + 1) (by first | omega | (simp only; omega)) ⟨hb, X4⟩ (by simp only [hend]; exact (by repeat (first | exact wkF_e | refine wkF_c rfl ?_))) wkB_e rfl
  · have hb : i = l.length := by simp at hb; omega
    subst hb
    rw [List.take_length]
    exact ⟨rfl, x1⟩
theorem markV_c : ∀ v : V, MkEntryS v.items := V.ind fun v ih k hk sl bag h0 h m => markEntryS_s v.items k hk ih sl bag h0 h m
theorem heldV_c : ∀ v : V, HdEntryS v.items := V.ind fun v ih k hk sl h rd => heldEntryS_s v.items k hk ih sl h rd
theorem markEntryS_c (l : List (Ky × V)) (k : Nat) (hk : k + cntEs l ≤ 4611686018427387904) (sl : Value) (bag : Bag) (h0 h : Hp) (m : My h0 h ((.row 8 (l.flatMap edt), sl) :: bag)) :
    ACalls Tryz.prog 71 #[sl, .int .i64 (k : Nat)] h fun v h' => v = .int .i64 ((k + cntEs l : Nat)) ∧ My h0 h' ((.row 8 ((mkEs l k).flatMap edt), sl) :: bag) := markEntryS_s l k hk (fun e _ => markV_c e.2) sl bag h0 h m
theorem heldEntryS_c (l : List (Ky × V)) (k : Nat) (hk : k + cntEs l ≤ 4611686018427387904) (sl : Value) (h : Hp) (rd : Rd h (.row 8 ((mkEs l k).flatMap edt)) sl) :
    ACalls Tryz.prog 87 #[sl, .int .i64 (k : Nat)] h (Is (.int .i64 ((k + cntEs l : Nat))) h) := heldEntryS_s l k hk (fun e _ => heldV_c e.2) sl h rd
theorem markValue_c (v : V) (k : Nat) (hk : k + cntEs v.items ≤ 4611686018427387904) (sl : Value) (bag : Bag) (h0 h : Hp) (m : My h0 h ((.row 8 (v.items.flatMap edt), sl) :: bag)) :
    ACalls Tryz.prog 21 #[.agg #[.int .i64 v.kind, .int .i64 v.num, .string v.str, .int .i64 v.next, sl], .int .i64 (k : Nat)] h fun u h' => u = .int .i64 ((k + cntEs v.items : Nat)) ∧ My h0 h' ((.row 8 ((mkEs v.items k).flatMap edt), sl) :: bag) := by
  (refine enter Tryz.func21 rfl rfl (by kernel_rfl) [] ?_; simp only [go_sem, Nat.reduceBEq])
  refine (markEntryS_c v.items k hk _ _ _ _ m).mono ?_
  rintro _ h1 ⟨rfl, m1⟩
  simp only [go_sem, Nat.reduceBEq]
  first | exact m1 | exact ⟨rfl, m1⟩
theorem heldValue_c (v : V) (a b x : Int) (s : ByteArray) (k : Nat) (hk : k + cntEs v.items ≤ 4611686018427387904) (sl : Value) (h : Hp) (rd : Rd h (.row 8 ((mkEs v.items k).flatMap edt)) sl) :
    ACalls Tryz.prog 34 #[.agg #[.int .i64 a, .int .i64 b, .string s, .int .i64 x, sl], .int .i64 (k : Nat)] h (Is (.int .i64 ((k + cntEs v.items : Nat))) h) := by
  (refine enter Tryz.func34 rfl rfl (by kernel_rfl) [] ?_; simp only [go_sem, Nat.reduceBEq])
  refine (heldEntryS_c v.items k hk _ _ rd).mono ?_
  rintro _ h1 ⟨rfl, x1⟩
  have hneg : decide (((k + cntEs v.items : Nat) : Int) < 0) = false := decide_eq_false (by omega)
  simp only [hneg, go_sem, Nat.reduceBEq]
  exact ⟨rfl, x1⟩
end Go.Proofs.YtedfplodobpgfaaGreatDoor
namespace Go.Proofs.YtedfplodobpgfaaGreatDoor
set_option maxRecDepth 8000
open Go Go.Sx
theorem markSlotS_c (l : List (Sl)) (k : Nat) (hk : k + cntG cS l ≤ 4611686018427387904) (sl : Value) (bag : Bag) (h0 h : Hp) (m : My h0 h ((.row 10 (l.flatMap Sl.dt), sl) :: bag)) :
    ACalls Tryz.prog 70 #[sl, .int .i64 (k : Nat)] h fun v h' => v = .int .i64 ((k + cntG cS l : Nat)) ∧ My h0 h' ((.row 10 ((mkG cS mkS l k).flatMap Sl.dt), sl) :: bag) := by
  obtain ⟨a, c, rfl, hc, hcm, hat⟩ := m.row_shape (by decide) l.length (fm_len Sl.dt_len l)
  have hlm : l.length ≤ maxLen := Nat.le_trans hc hcm
  (refine enter Tryz.func70 rfl rfl (by kernel_rfl) [] ?_; simp only [go_sem])
  refine aloop (ι := Nat) (fun i => [(5, .val (.int .i64 (i : Nat))), (1, .val (.int .i64 ((k + cntG cS (l.take i) : Nat)))), (0, .val (.slice a l.length c))]) (fun _ => []) (fun i h' => i ≤ l.length ∧ My h0 h' ((.row 10 ((mkG cS mkS (l.take i) k).flatMap Sl.dt ++ (l.drop i).flatMap Sl.dt), .slice a l.length c) :: bag)) (fun i => l.length - i) 0
    ⟨Nat.zero_le _, m⟩ (by repeat (first | exact wkF_e | refine wkF_c rfl ?_)) wkB_e rfl ?_
  rintro i h1 ⟨hi, m1⟩
  have hi : i ≤ l.length := hi
  simp only [go_sem, Nat.reduceBEq]
  refine Br.intro (fun hb => ?_) (fun hb => ?_) <;> (try simp only [hb, go_sem, Nat.reduceBEq, Int.reduceEq, not_false_eq_true])
  · have hb : i < l.length := by simpa using hb
    obtain ⟨b, rfl⟩ := hat (by omega)
    have hpos : 0 < l.length := by omega
    obtain ⟨e, he, hm⟩ := get_lt hb
    have hsn := cntG_snoc (c := cS) he
    rw [cS] at hsn
    have hms := mkG_snoc (c := cS) (m := mkS) he k
    have hle := cntG_le (c := cS) he
    rw [cS] at hle
    have hA : ((mkG cS mkS (l.take i) k).flatMap Sl.dt).length = i * 10 := by rw [fm_len Sl.dt_len, mkG_len, List.length_take]; congr 1; omega
    have m1 : My h0 h1 ((.row 10 ((mkG cS mkS (l.take i) k).flatMap Sl.dt ++ (l.drop i).flatMap Sl.dt), .slice (some ⟨b, 0, none⟩) l.length c) :: bag) := m1
    rw [drop_cons he, List.flatMap_cons, Sl.dt_eq] at m1
    have fin : ∀ h' , My h0 h' ((.row 10 ((mkG cS mkS (l.take i) k).flatMap Sl.dt ++ (Sl.dt (mkS (k + cntG cS (l.take i)) e) ++ (l.drop (i + 1)).flatMap Sl.dt)), .slice (some ⟨b, 0, none⟩) l.length c) :: bag) → My h0 h' ((.row 10 ((mkG cS mkS (l.take (i + 1)) k).flatMap Sl.dt ++ (l.drop (i + 1)).flatMap Sl.dt), .slice (some ⟨b, 0, none⟩) l.length c) :: bag) := fun h' m => by
      rw [hms, List.flatMap_append, List.flatMap_cons, List.flatMap_nil, List.append_nil, List.append_assoc]; exact m
    rw [Sl.dt_eq] at fin
    simp only [mkS, V.kind_mk, V.num_mk, V.str_mk, V.next_mk, V.items_mk] at fin
    have hq0 : k + cntG cS (l.take i) ≤ 4611686018427387904 := by omega
    generalize hq : k + cntG cS (l.take i) = q at *
    generalize (mkG cS mkS (l.take i) k).flatMap Sl.dt = A at *
    generalize hR : (l.drop (i + 1)).flatMap Sl.dt = R at *
    have wq0 : IntKind.i64.wrap (((q : Nat) : Int) + 1) = ((q + 1 : Nat) : Int) := by rw [IntWalk.i64_in _ (by omega)]; rfl
    have wq1 : IntKind.i64.wrap (((q + 1 : Nat) : Int) + 1) = ((q + 2 : Nat) : Int) := by rw [IntWalk.i64_in _ (by omega)]; rfl
    have wq2 : IntKind.i64.wrap (((q + 2 : Nat) : Int) + 1) = ((q + 3 : Nat) : Int) := by rw [IntWalk.i64_in _ (by omega)]; rfl
    have wq3 : IntKind.i64.wrap (((q + 3 : Nat) : Int) + 1) = ((q + 4 : Nat) : Int) := by rw [IntWalk.i64_in _ (by omega)]; rfl
    have wq4 : IntKind.i64.wrap (((q + 4 : Nat) : Int) + 1) = ((q + 5 : Nat) : Int) := by rw [IntWalk.i64_in _ (by omega)]; rfl
    have wq5 : IntKind.i64.wrap (((q + 5 : Nat) : Int) + 1) = ((q + 6 : Nat) : Int) := by rw [IntWalk.i64_in _ (by omega)]; rfl
    have wq6 : IntKind.i64.wrap (((q + 6 : Nat) : Int) + 1) = ((q + 7 : Nat) : Int) := by rw [IntWalk.i64_in _ (by omega)]; rfl
    have wsu := wrap_succ (i := i) (by unfold maxLen at hlm; omega)
    simp only [ix_nat hb, go_sem, Nat.reduceBEq]
    refine hsem_my_cell (A := A) (R := R) (j := 0) tyS4 rfl m1 hpos (Nat.le_of_ble_eq_true rfl) rfl rfl (by omega) fun h2 m2 => ?_
    simp only [ix_nat hb, wq0, go_sem, Nat.reduceBEq]
    refine hsem_my_cell (A := A) (R := R) (j := 1) tyS3 rfl m2 hpos (Nat.le_of_ble_eq_true rfl) rfl rfl (by omega) fun h3 m3 => ?_
    simp only [wq1, go_sem, Nat.reduceBEq]
    refine (markText_c (q + 2) (by omega) _).mono ?_
    rintro _ h4 ⟨rfl, x4⟩
    have m4 := m3.mono x4
    simp only [ix_nat hb, go_sem, Nat.reduceBEq, Nat.reduceAdd]
    refine hsem_my_cell (A := A) (R := R) (j := 2) tyS9 rfl m4 hpos (Nat.le_of_ble_eq_true rfl) rfl rfl (by omega) fun h5 m5 => ?_
    simp only [ix_nat hb, wq2, go_sem, Nat.reduceBEq, Nat.reduceAdd]
    refine hsem_my_cell (A := A) (R := R) (j := 3) tyS3 rfl m5 hpos (Nat.le_of_ble_eq_true rfl) rfl rfl (by omega) fun h6 m6 => ?_
    simp only [ix_nat hb, wq3, go_sem, Nat.reduceBEq, Nat.reduceAdd]
    refine hsem_my_cell (A := A) (R := R) (j := 4) tyS3 rfl m6 hpos (Nat.le_of_ble_eq_true rfl) rfl rfl (by omega) fun h7 m7 => ?_
    simp only [wq4, go_sem, Nat.reduceBEq]
    refine (markText_c (q + 5) (by omega) _).mono ?_
    rintro _ h8 ⟨rfl, x8⟩
    have m8 := m7.mono x8
    simp only [ix_nat hb, go_sem, Nat.reduceBEq, Nat.reduceAdd]
    refine hsem_my_cell (A := A) (R := R) (j := 5) tyS9 rfl m8 hpos (Nat.le_of_ble_eq_true rfl) rfl rfl (by omega) fun h9 m9 => ?_
    simp only [ix_nat hb, wq5, go_sem, Nat.reduceBEq, Nat.reduceAdd]
    refine hsem_my_cell (A := A) (R := R) (j := 6) tyS3 rfl m9 hpos (Nat.le_of_ble_eq_true rfl) rfl rfl (by omega) fun h10 m10 => ?_
    simp only [ix_nat hb, wq6, go_sem, Nat.reduceBEq, Nat.reduceAdd]
    obtain ⟨u7, m11⟩ := m10.openAt (A := A) (R := R) (j := 7) rfl
    refine hsem_my_get (A := A) (R := R) (j := 7) tyS42 m11.swap hpos (d := .raw u7) rfl (by omega) fun u' hu' => ?_
    obtain ⟨rfl, _⟩ := Rd_raw.1 hu'
    simp only [go_sem, Nat.reduceBEq]
    refine (markEntryS_c (e.val.items) (q + 7) (by omega) _ _ _ _ m11).mono ?_
    rintro _ h11 ⟨rfl, m12⟩
    have m13 := m12.closeAt (A := A) (R := R) (j := 7) rfl
    generalize hq7 : q + 7 + cntEs (e.val.items) = q7 at *
    have wq70 : IntKind.i64.wrap (((q7 : Nat) : Int) + 1) = ((q7 + 1 : Nat) : Int) := by rw [IntWalk.i64_in _ (by omega)]; rfl
    have wq71 : IntKind.i64.wrap (((q7 + 1 : Nat) : Int) + 1) = ((q7 + 2 : Nat) : Int) := by rw [IntWalk.i64_in _ (by omega)]; rfl
    simp only [ix_nat hb, go_sem, Nat.reduceBEq, Nat.reduceAdd, Int.reduceEq, not_false_eq_true]
    refine hsem_my_cell (A := A) (R := R) (j := 8) tyS4 rfl m13 hpos (Nat.le_of_ble_eq_true rfl) rfl rfl (by omega) fun h12 m14 => ?_
    simp only [ix_nat hb, wq70, go_sem, Nat.reduceBEq, Nat.reduceAdd]
    refine hsem_my_cell (A := A) (R := R) (j := 9) tyS3 rfl m14 hpos (Nat.le_of_ble_eq_true rfl) rfl rfl (by omega) fun h13 m15 => ?_
    simp only [wq71, go_sem, Nat.reduceBEq]
    rw [wsu]
    have hend : k + cntG cS (l.take (i + 1)) = q7 + 2 := by omega
    refine Again.intro (i + 1) (by first | omega | (simp only; omega)) ⟨hb, ?_⟩ (by simp only [hend]; exact (by repeat (first | exact wkF_e | refine wkF_c rfl ?_))) wkB_e rfl
    have m16 := fin _ m15
    rw [← hR] at m16
    exact m16
  · have hb : i = l.length := by simp at hb; omega
    subst hb
    have m1 : My h0 h1 ((.row 10 ((mkG cS mkS (l.take l.length) k).flatMap Sl.dt ++ (l.drop l.length).flatMap Sl.dt), .slice a l.length c) :: bag) := m1
    rw [List.take_length, List.drop_length, List.flatMap_nil, List.append_nil] at m1
    rw [List.take_length]
    exact ⟨rfl, m1⟩
theorem heldSlotS_c (l : List (Sl)) (k : Nat) (hk : k + cntG cS l ≤ 4611686018427387904) (sl : Value) (h : Hp) (rd : Rd h (.row 10 ((mkG cS mkS l k).flatMap Sl.dt)) sl) :
    ACalls Tryz.prog 73 #[sl, .int .i64 (k : Nat)] h (Is (.int .i64 ((k + cntG cS l : Nat))) h) := by
  have hml := mkG_len (c := cS) (m := mkS) l k
  obtain ⟨a, c, xs, rfl, hc, hr, hat⟩ := rd.rows (by decide) l.length (by rw [fm_len Sl.dt_len, hml])
  (refine enter Tryz.func73 rfl rfl (by kernel_rfl) [] ?_; simp only [go_sem])
  refine aloop (ι := Nat) (fun i => [(5, .val (.int .i64 (i : Nat))), (1, .val (.int .i64 ((k + cntG cS (l.take i) : Nat)))), (0, .val (.slice a l.length c))]) (fun _ => []) (fun i h' => i ≤ l.length ∧ Ext h h') (fun i => l.length - i) 0
    ⟨Nat.zero_le _, Ext.refl _⟩ (by repeat (first | exact wkF_e | refine wkF_c rfl ?_)) wkB_e rfl ?_
  rintro i h1 ⟨hi, x1⟩
  have hi : i ≤ l.length := hi
  have x1 : Ext h h1 := x1
  simp only [go_sem, Nat.reduceBEq]
  refine Br.intro (fun hb => ?_) (fun hb => ?_) <;> (try simp only [hb, go_sem, Nat.reduceBEq])
  · have hb : i < l.length := by simpa using hb
    obtain ⟨b, off, rfl, hat0⟩ := hat (by omega)
    have hat1 := hat0.mono x1
    have hr1 := hr.mono x1
    obtain ⟨e, he, hm⟩ := get_lt hb
    have hsn := cntG_snoc (c := cS) he
    rw [cS] at hsn
    have hge := mkG_get (c := cS) (m := mkS) he k
    have hle := cntG_le (c := cS) he
    rw [cS] at hle
    have hq0 : k + cntG cS (l.take i) ≤ 4611686018427387904 := by omega
    have hlm : l.length ≤ 4611686018427387904 := by have := cntG_pos (c := cS) cS_pos l; omega
    have wsu := wrap_succ (i := i) (by omega)
    generalize hq : k + cntG cS (l.take i) = q at *
    have wq0 : IntKind.i64.wrap (((q : Nat) : Int) + 1) = ((q + 1 : Nat) : Int) := by rw [IntWalk.i64_in _ (by omega)]; rfl
    have wq1 : IntKind.i64.wrap (((q + 1 : Nat) : Int) + 1) = ((q + 2 : Nat) : Int) := by rw [IntWalk.i64_in _ (by omega)]; rfl
    have wq2 : IntKind.i64.wrap (((q + 2 : Nat) : Int) + 1) = ((q + 3 : Nat) : Int) := by rw [IntWalk.i64_in _ (by omega)]; rfl
    have wq3 : IntKind.i64.wrap (((q + 3 : Nat) : Int) + 1) = ((q + 4 : Nat) : Int) := by rw [IntWalk.i64_in _ (by omega)]; rfl
    have wq4 : IntKind.i64.wrap (((q + 4 : Nat) : Int) + 1) = ((q + 5 : Nat) : Int) := by rw [IntWalk.i64_in _ (by omega)]; rfl
    have wq5 : IntKind.i64.wrap (((q + 5 : Nat) : Int) + 1) = ((q + 6 : Nat) : Int) := by rw [IntWalk.i64_in _ (by omega)]; rfl
    have wq6 : IntKind.i64.wrap (((q + 6 : Nat) : Int) + 1) = ((q + 7 : Nat) : Int) := by rw [IntWalk.i64_in _ (by omega)]; rfl
    simp only [ix_nat hb, go_sem, Nat.reduceBEq]
    refine hsem_cell (f := Sl.dt) (o := 0) Sl.dt_len tyS4 hat1 hr1 hge (by decide) (by rw [Sl.dt_eq]; rfl) ?_ fun y0 r0 => ?_
    · omega
    obtain ⟨rfl, _⟩ := Rd_raw.1 r0
    simp only [go_sem, Nat.reduceBEq, Int.reduceEq, not_false_eq_true]
    simp only [mkS, mbit, decide_true, Bool.not_true, go_sem]
    simp only [ix_nat hb, wq0, go_sem, Nat.reduceBEq]
    refine hsem_cell (f := Sl.dt) (o := 1) Sl.dt_len tyS3 hat1 hr1 hge (by decide) (by rw [Sl.dt_eq]; rfl) ?_ fun y1 r1 => ?_
    · omega
    obtain ⟨rfl, _⟩ := Rd_raw.1 r1
    simp only [go_sem, Nat.reduceBEq]
    simp only [mkS, decide_true, Bool.not_true, wq1, go_sem, Nat.reduceBEq]
    refine regionD_still (lb := []) (pl := [39]) h1 (Ext.refl _) (by kernel_rfl) ?_
    simp only [ix_nat hb, go_sem, Nat.reduceBEq, Nat.reduceAdd]
    refine hsem_cell (f := Sl.dt) (o := 2) Sl.dt_len tyS9 hat1 hr1 hge (by decide) (by rw [Sl.dt_eq]; rfl) ?_ fun y2 r2 => ?_
    · omega
    obtain ⟨rfl, _⟩ := Rd_raw.1 r2
    simp only [go_sem, Nat.reduceBEq]
    refine (markText_c (q + 2) (by omega) _).mono ?_
    rintro _ h2 ⟨rfl, x2⟩
    simp only [go_sem, Nat.reduceBEq]
    refine ⟨x2, ?_⟩
    have hat2 := hat1.mono x2
    have hr2 := hr1.mono x2
    have X2 := x1.trans x2
    simp only [mkS, decide_true, Bool.not_true, ix_nat hb, wq2, go_sem, Nat.reduceBEq, Nat.reduceAdd]
    refine hsem_cell (f := Sl.dt) (o := 3) Sl.dt_len tyS3 hat2 hr2 hge (by decide) (by rw [Sl.dt_eq]; rfl) ?_ fun y3 r3 => ?_
    · omega
    obtain ⟨rfl, _⟩ := Rd_raw.1 r3
    simp only [go_sem, Nat.reduceBEq]
    simp only [mkS, decide_true, Bool.not_true, ix_nat hb, wq3, go_sem, Nat.reduceBEq, Nat.reduceAdd]
    refine hsem_cell (f := Sl.dt) (o := 4) Sl.dt_len tyS3 hat2 hr2 hge (by decide) (by rw [Sl.dt_eq]; rfl) ?_ fun y4 r4 => ?_
    · omega
    obtain ⟨rfl, _⟩ := Rd_raw.1 r4
    simp only [go_sem, Nat.reduceBEq]
    simp only [mkS, decide_true, Bool.not_true, wq4, go_sem, Nat.reduceBEq]
    refine regionD_still (lb := []) (pl := [70]) h2 (Ext.refl _) (by kernel_rfl) ?_
    simp only [ix_nat hb, go_sem, Nat.reduceBEq, Nat.reduceAdd]
    refine hsem_cell (f := Sl.dt) (o := 5) Sl.dt_len tyS9 hat2 hr2 hge (by decide) (by rw [Sl.dt_eq]; rfl) ?_ fun y5 r5 => ?_
    · omega
    obtain ⟨rfl, _⟩ := Rd_raw.1 r5
    simp only [go_sem, Nat.reduceBEq]
    refine (markText_c (q + 5) (by omega) _).mono ?_
    rintro _ h3 ⟨rfl, x3⟩
    simp only [go_sem, Nat.reduceBEq]
    refine ⟨x3, ?_⟩
    have hat3 := hat2.mono x3
    have hr3 := hr2.mono x3
    have X3 := X2.trans x3
    simp only [mkS, decide_true, Bool.not_true, ix_nat hb, wq5, go_sem, Nat.reduceBEq, Nat.reduceAdd]
    refine hsem_cell (f := Sl.dt) (o := 6) Sl.dt_len tyS3 hat3 hr3 hge (by decide) (by rw [Sl.dt_eq]; rfl) ?_ fun y6 r6 => ?_
    · omega
    obtain ⟨rfl, _⟩ := Rd_raw.1 r6
    simp only [go_sem, Nat.reduceBEq]
    simp only [mkS, decide_true, Bool.not_true, ix_nat hb, wq6, go_sem, Nat.reduceBEq, Nat.reduceAdd]
    refine hsem_cell (f := Sl.dt) (o := 7) Sl.dt_len tyS42 hat3 hr3 hge (by decide) (by rw [Sl.dt_eq]; rfl) ?_ fun y7 r7 => ?_
    · omega
    simp only [go_sem, Nat.reduceBEq]
    refine (heldEntryS_c (e.val.items) (q + 7) (by omega) _ _ r7).mono ?_
    rintro _ h4 ⟨rfl, x4⟩
    have hat4 := hat3.mono x4
    have hr4 := hr3.mono x4
    have X4 := X3.trans x4
    generalize hq7 : q + 7 + cntEs (e.val.items) = q7 at *
    have wq70 : IntKind.i64.wrap (((q7 : Nat) : Int) + 1) = ((q7 + 1 : Nat) : Int) := by rw [IntWalk.i64_in _ (by omega)]; rfl
    have wq71 : IntKind.i64.wrap (((q7 + 1 : Nat) : Int) + 1) = ((q7 + 2 : Nat) : Int) := by rw [IntWalk.i64_in _ (by omega)]; rfl
    have hneg7 : decide (((q7 : Nat) : Int) < 0) = false := decide_eq_false (by omega)
    simp only [hneg7, ix_nat hb, go_sem, Nat.reduceBEq, Nat.reduceAdd]
    refine hsem_cell (f := Sl.dt) (o := 8) Sl.dt_len tyS4 hat4 hr4 hge (by decide) (by rw [Sl.dt_eq]; rfl) ?_ fun y8 r8 => ?_
    · omega
    have fv8 : (mkS q e).live = decide (((q7 : Nat) : Int).tmod 3 = 0) := by rw [← hq7]; rfl
    rw [fv8] at r8
    obtain ⟨rfl, _⟩ := Rd_raw.1 r8
    simp only [ix_nat hb, wq70, go_sem, Nat.reduceBEq, Nat.reduceAdd, Int.reduceEq, not_false_eq_true]
    try simp only [decide_true, Bool.not_true, ix_nat hb, wq70, wq71, go_sem, Nat.reduceBEq, Nat.reduceAdd, Nat.reduceLeDiff, Nat.reduceEqDiff, Int.reduceEq, not_false_eq_true]
    refine hsem_cell (f := Sl.dt) (o := 9) Sl.dt_len tyS3 hat4 hr4 hge (by decide) (by rw [Sl.dt_eq]; rfl) ?_ fun y9 r9 => ?_
    · omega
    have fv9 : (mkS q e).link = ((q7 + 1 : Nat) : Int) := by rw [← hq7]; rfl
    rw [fv9] at r9
    obtain ⟨rfl, _⟩ := Rd_raw.1 r9
    simp only [wq71, go_sem, Nat.reduceBEq]
    try simp only [decide_true, Bool.not_true, ix_nat hb, wq70, wq71, go_sem, Nat.reduceBEq, Nat.reduceAdd, Nat.reduceLeDiff, Nat.reduceEqDiff, Int.reduceEq, not_false_eq_true]
    rw [wsu]
    have hend : k + cntG cS (l.take (i + 1)) = q7 + 2 := by omega
    exact Again.intro (i + 1) (by first | omega | (simp only; omega)) ⟨hb, X4⟩ (by simp only [hend]; exact (by repeat (first | exact wkF_e | refine wkF_c rfl ?_))) wkB_e rfl
  · have hb : i = l.length := by simp at hb; omega
    subst hb
    rw [List.take_length]
    exact ⟨rfl, x1⟩
end Go.Proofs.YtedfplodobpgfaaGreatDoor
namespace Go.Proofs.YtedfplodobpgfaaGreatDoor
set_option maxRecDepth 8000
open Go Go.Sx
theorem markIntS_c (l : List (Int)) (k : Nat) (hk : k + cntG cI l ≤ 4611686018427387904) (sl : Value) (bag : Bag) (h0 h : Hp) (m : My h0 h ((.row 1 (l.flatMap idt), sl) :: bag)) :
    ACalls Tryz.prog 69 #[sl, .int .i64 (k : Nat)] h fun v h' => v = .int .i64 ((k + cntG cI l : Nat)) ∧ My h0 h' ((.row 1 ((mkG cI mkI l k).flatMap idt), sl) :: bag) := by
  obtain ⟨a, c, rfl, hc, hcm, hat⟩ := m.row_shape (by decide) l.length (fm_len idt_len l)
  have hlm : l.length ≤ maxLen := Nat.le_trans hc hcm
  (refine enter Tryz.func69 rfl rfl (by kernel_rfl) [] ?_; simp only [go_sem])
  refine aloop (ι := Nat) (fun i => [(5, .val (.int .i64 (i : Nat))), (1, .val (.int .i64 ((k + cntG cI (l.take i) : Nat)))), (0, .val (.slice a l.length c))]) (fun _ => []) (fun i h' => i ≤ l.length ∧ My h0 h' ((.row 1 ((mkG cI mkI (l.take i) k).flatMap idt ++ (l.drop i).flatMap idt), .slice a l.length c) :: bag)) (fun i => l.length - i) 0
    ⟨Nat.zero_le _, m⟩ (by repeat (first | exact wkF_e | refine wkF_c rfl ?_)) wkB_e rfl ?_
  rintro i h1 ⟨hi, m1⟩
  have hi : i ≤ l.length := hi
  simp only [go_sem, Nat.reduceBEq]
  refine Br.intro (fun hb => ?_) (fun hb => ?_) <;> (try simp only [hb, go_sem, Nat.reduceBEq])
  · have hb : i < l.length := by simpa using hb
    obtain ⟨b, rfl⟩ := hat (by omega)
    have hpos : 0 < l.length := by omega
    obtain ⟨e, he, hm⟩ := get_lt hb
    have hsn := cntG_snoc (c := cI) he
    rw [cI] at hsn
    have hms := mkG_snoc (c := cI) (m := mkI) he k
    have hle := cntG_le (c := cI) he
    rw [cI] at hle
    have hA : ((mkG cI mkI (l.take i) k).flatMap idt).length = i * 1 := by rw [fm_len idt_len, mkG_len, List.length_take]; congr 1; omega
    have m1 : My h0 h1 ((.row 1 ((mkG cI mkI (l.take i) k).flatMap idt ++ (l.drop i).flatMap idt), .slice (some ⟨b, 0, none⟩) l.length c) :: bag) := m1
    rw [drop_cons he, List.flatMap_cons, idt_eq] at m1
    have fin : ∀ h' , My h0 h' ((.row 1 ((mkG cI mkI (l.take i) k).flatMap idt ++ (idt (mkI (k + cntG cI (l.take i)) e) ++ (l.drop (i + 1)).flatMap idt)), .slice (some ⟨b, 0, none⟩) l.length c) :: bag) → My h0 h' ((.row 1 ((mkG cI mkI (l.take (i + 1)) k).flatMap idt ++ (l.drop (i + 1)).flatMap idt), .slice (some ⟨b, 0, none⟩) l.length c) :: bag) := fun h' m => by
      rw [hms, List.flatMap_append, List.flatMap_cons, List.flatMap_nil, List.append_nil, List.append_assoc]; exact m
    rw [idt_eq] at fin
    have hq0 : k + cntG cI (l.take i) ≤ 4611686018427387904 := by omega
    generalize hq : k + cntG cI (l.take i) = q at *
    generalize (mkG cI mkI (l.take i) k).flatMap idt = A at *
    generalize hR : (l.drop (i + 1)).flatMap idt = R at *
    have wq0 : IntKind.i64.wrap (((q : Nat) : Int) + 1) = ((q + 1 : Nat) : Int) := by rw [IntWalk.i64_in _ (by omega)]; rfl
    have wsu := wrap_succ (i := i) (by unfold maxLen at hlm; omega)
    simp only [ix_nat hb, go_sem, Nat.reduceBEq]
    refine hsem_my_cell (A := A) (R := R) (j := 0) tyS3 rfl m1 hpos (Nat.le_of_ble_eq_true rfl) rfl rfl (by omega) fun h2 m2 => ?_
    simp only [wq0, go_sem, Nat.reduceBEq]
    rw [wsu]
    have hend : k + cntG cI (l.take (i + 1)) = q + 1 := by omega
    refine Again.intro (i + 1) (by first | omega | (simp only; omega)) ⟨hb, ?_⟩ (by simp only [hend]; exact (by repeat (first | exact wkF_e | refine wkF_c rfl ?_))) wkB_e rfl
    have m3 := fin _ m2
    rw [← hR] at m3
    exact m3
  · have hb : i = l.length := by simp at hb; omega
    subst hb
    have m1 : My h0 h1 ((.row 1 ((mkG cI mkI (l.take l.length) k).flatMap idt ++ (l.drop l.length).flatMap idt), .slice a l.length c) :: bag) := m1
    rw [List.take_length, List.drop_length, List.flatMap_nil, List.append_nil] at m1
    rw [List.take_length]
    exact ⟨rfl, m1⟩
theorem heldIntS_c (l : List (Int)) (k : Nat) (hk : k + cntG cI l ≤ 4611686018427387904) (sl : Value) (h : Hp) (rd : Rd h (.row 1 ((mkG cI mkI l k).flatMap idt)) sl) :
    ACalls Tryz.prog 72 #[sl, .int .i64 (k : Nat)] h (Is (.int .i64 ((k + cntG cI l : Nat))) h) := by
  have hml := mkG_len (c := cI) (m := mkI) l k
  obtain ⟨a, c, xs, rfl, hc, hr, hat⟩ := rd.rows (by decide) l.length (by rw [fm_len idt_len, hml])
  (refine enter Tryz.func72 rfl rfl (by kernel_rfl) [] ?_; simp only [go_sem])
  refine aloop (ι := Nat) (fun i => [(5, .val (.int .i64 (i : Nat))), (1, .val (.int .i64 ((k + cntG cI (l.take i) : Nat)))), (0, .val (.slice a l.length c))]) (fun _ => []) (fun i h' => i ≤ l.length ∧ Ext h h') (fun i => l.length - i) 0
    ⟨Nat.zero_le _, Ext.refl _⟩ (by repeat (first | exact wkF_e | refine wkF_c rfl ?_)) wkB_e rfl ?_
  rintro i h1 ⟨hi, x1⟩
  have hi : i ≤ l.length := hi
  have x1 : Ext h h1 := x1
  simp only [go_sem, Nat.reduceBEq]
  refine Br.intro (fun hb => ?_) (fun hb => ?_) <;> (try simp only [hb, go_sem, Nat.reduceBEq])
  · have hb : i < l.length := by simpa using hb
    obtain ⟨b, off, rfl, hat0⟩ := hat (by omega)
    have hat1 := hat0.mono x1
    have hr1 := hr.mono x1
    obtain ⟨e, he, hm⟩ := get_lt hb
    have hsn := cntG_snoc (c := cI) he
    rw [cI] at hsn
    have hge := mkG_get (c := cI) (m := mkI) he k
    have hle := cntG_le (c := cI) he
    rw [cI] at hle
    have hq0 : k + cntG cI (l.take i) ≤ 4611686018427387904 := by omega
    have hlm : l.length ≤ 4611686018427387904 := by have := cntG_pos (c := cI) (fun _ => Nat.le_refl 1) l; omega
    have wsu := wrap_succ (i := i) (by omega)
    generalize hq : k + cntG cI (l.take i) = q at *
    have wq0 : IntKind.i64.wrap (((q : Nat) : Int) + 1) = ((q + 1 : Nat) : Int) := by rw [IntWalk.i64_in _ (by omega)]; rfl
    simp only [ix_nat hb, go_sem, Nat.reduceBEq]
    refine hsem_cell (f := idt) (o := 0) idt_len tyS3 hat1 hr1 hge (by decide) (by rw [idt_eq]; rfl) ?_ fun y0 r0 => ?_
    · omega
    obtain ⟨rfl, _⟩ := Rd_raw.1 r0
    simp only [go_sem, Nat.reduceBEq]
    simp only [mkI, decide_true, Bool.not_true, wq0, go_sem, Nat.reduceBEq]
    rw [wsu]
    have hend : k + cntG cI (l.take (i + 1)) = q + 1 := by omega
    exact Again.intro (i + 1) (by first | omega | (simp only; omega)) ⟨hb, x1⟩ (by simp only [hend]; exact (by repeat (first | exact wkF_e | refine wkF_c rfl ?_))) wkB_e rfl
  · have hb : i = l.length := by simp at hb; omega
    subst hb
    rw [List.take_length]
    exact ⟨rfl, x1⟩
end Go.Proofs.YtedfplodobpgfaaGreatDoor
