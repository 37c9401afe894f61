/-
  The statement FnDropAll is proved: for each argument the law returns true; nothing is assumed.
-/
import Derived.Test.YtccjkhnefiikaaaGreatDoorFnDropAllAllD
import Derived.Test.YtccjkhnefiikaaaGreatDoorSxLaw
import Derived.Deep.Slices
import Derived.Deep.Strs
import Derived.Test.YtccjkhnefiikaaaGreatDoorSxOwn
import Derived.Test.YtccjkhnefiikaaaGreatDoorRows
import Derived.Test.YtccjkhnefiikaaaGreatDoorTie
import Derived.Test.YtccjkhnefiikaaaGreatDoorCards
import Derived.ProofKit
import Derived.LaidMore
import Derived.OpenShut
import Derived.Stop.Joined
import Derived.SevenTiedAt
namespace Go.Proofs.YtccjkhnefiikaaaGreatDoor
set_option maxRecDepth 8000
open Go Go.Sx
theorem own_R {h0 : Hp} {l : List Bk} {v : V} {av : Option Addr} {bp : Nat} {R : Bag} {u : Value} {h' : Hp} (hv : Hv v) (q : HpOwn h0 l v (.agg #[.int .i64 v.kind, .int .i64 v.num, .string v.str, .int .i64 v.next, .slice av 0 0]) bp R u h') : HpR h0 (hnd (ownH l v).2) (ownH l v).1 bp R u h' := by
  by_cases h : v.kind = 5 ∧ (blk l v.num.toNat).count = 1
  · rw [HpOwn_same h] at q
    obtain ⟨rfl, a, n, m⟩ := q
    have e : ownH l v = (l, v.num.toNat) := by unfold ownH; rw [if_pos h.1, if_pos h.2]
    rw [e]
    obtain ⟨i, rfl⟩ : ∃ i, v = hnd i := ⟨_, hv.2 h.1⟩
    exact ⟨av, 0, a, n, rfl, m.nilrow (z := 8)⟩
  · rw [HpOwn_new h] at q
    exact q
theorem len_pos (k : Ky) (r : List Ky) : decide ((0 : Int) < (((k :: r).length : Nat) : Int)) = true := decide_eq_true (by rw [List.length_cons]; omega)
set_option maxHeartbeats 3200000 in
theorem sWriteSh {B : Nat} (hB : B ≤ 1048576) {l0 : List Bk} (hR : inR l0) (hC : allCh l0) (push : Bool) {x : V} (hx : x.bulk ≤ B) (hxi : Hv x) : ∀ (p : List Ky) {c : Int} {L : Nat} {l : List Bk} {v : V}, (∀ k ∈ p, keyOk k = true) → down l0 l → sInv c L B l → 1 ≤ c → c + 1024 * ((p.length : Int) + 1) ≤ 1099511627776 → L + p.length + 1 ≤ 1024 → was l0 v → Hv v → pathOk l0 p v push → refIn l.length x → l.length + p.length + 1 ≤ 1073741000 →
    ∀ (av ax : Option Addr) (sp : Value) (a : Option Addr) (n bp : Nat) (R : Bag) (h0 h : Hp), Rd h0 (.row 3 (p.flatMap Ky.dt)) sp → My h0 h (HpB l a n bp R) →
    ACalls Tryz.prog 45 #[.pointer (some ⟨bp, 0, none⟩), .agg #[.int .i64 v.kind, .int .i64 v.num, .string v.str, .int .i64 v.next, .slice av 0 0], sp, .bool push, .agg #[.int .i64 x.kind, .int .i64 x.num, .string x.str, .int .i64 x.next, .slice ax x.items.length 0]] h (HpR h0 (wrH p l v push x).2 (wrH p l v push x).1 bp R) := by
  intro p
  induction p with
  | nil =>
    intro c L l v hk hd hi hc hcb hL w hv po hr hlb av ax sp a n bp R h0 h rp my
    obtain ⟨ap, cp, _, rfl, _⟩ := rp.rows (by decide) ([] : List Ky).length (fm_len Ky.dt_len _)
    have hrv : refIn l.length v := fun q => by
      have := w q
      have := hd.len
      omega
    simp only [List.length_nil, Nat.add_zero] at hL hlb hcb
    (refine enter Tryz.func45 rfl rfl (by kernel_rfl) [] ?_; simp only [go_sem, Nat.reduceBEq])
    cases push with
    | false =>
      rw [wrH_drop]
      have hsl := hi.slots
      simp only [d00, go_sem, Nat.reduceBEq, Nat.reduceAdd, Nat.reduceLeDiff]
      refine (sDrop l.length (slotsN l + 1) (by omega) l v (by omega) (hi.inn.up (by omega)) hrv _ _ _ a n bp R h0 _ my).mono ?_
      rintro _ h2 ⟨rfl, m2⟩
      try simp only [go_sem, Nat.reduceBEq, Nat.reduceAdd, Nat.reduceLeDiff]
      exact ⟨ax, 0, a, n, rfl, m2.noitems hxi.1 ax⟩
    | true =>
      rw [wrH_push]
      have hkd : v.kind = 0 ∨ v.kind = 5 := (po rfl).imp id (·.1)
      have hp5 : v.kind = 5 → 0 < (blk l v.num.toNat).count := fun q => by
        obtain ⟨q1, q2, q3⟩ := w q
        exact (hd.same _ q2 q3).2
      obtain ⟨d1, i1, o1, o2, o3, o4⟩ := own_ok hd hi hc w
      simp only [d00, go_sem, Nat.reduceBEq, Nat.reduceAdd, Nat.reduceLeDiff]
      refine ((sOwn l v hi hc (by omega) hB (by omega) hkd hrv hp5 av 0 0 a n bp R h0 _ my).mono fun _ _ q => own_R hv q).mono ?_
      generalize (ownH l v).1 = l1 at *
      generalize (ownH l v).2 = i at *
      rintro _ h2 ⟨b2, c2, a2, n2, rfl, m2⟩
      have hc2 : c2 = 0 := My.cap0 (z := 8) m2
      subst hc2
      obtain ⟨_, _, es, _, _, hat⟩ := m2.drop.row_shape (by decide) l1.length (fm_len Bk.dt_len _)
      cases es
      obtain ⟨b, rfl⟩ := hat (by omega)
      have m3 : My h0 h2 ((.row 6 (l1.flatMap Bk.dt), .slice (some ⟨b, 0, none⟩) l1.length n2) :: (.ptr [] [.raw (.slice (some ⟨b, 0, none⟩) l1.length n2)] [], .pointer (some ⟨bp, 0, none⟩)) :: R) := m2.drop
      obtain ⟨tch, tlv, _, _⟩ := i1.bk i
      have hkk : keyOk ⟨false, (blk l1 i).tab.next, ⟨#[]⟩⟩ = true := by rw [o4]; exact push_ok hC (po rfl)
      obtain ⟨c, a3, n3, a4, n4, mo, hd3, hcu⟩ := tab_at o1 m3
      try simp only [go_sem, Nat.reduceBEq, Nat.reduceAdd, Nat.reduceLeDiff]
      refine regionD_intro (lb := [34]) (by kernel_rfl) ?_
      simp only [go_sem, Nat.reduceBEq]
      refine Hold.ld1 (i := 0) Hold.ptr tyS24 m3.swap rfl rfl ?_
      simp only [hnd_num, ix_nat o1, go_sem, Nat.reduceBEq]
      refine tb_ldraw hd3 tyS38 mo.third (by omega) ?_
      simp only [go_sem, Nat.reduceBEq, Nat.reduceAdd, Nat.reduceLeDiff]
      have mx := mo.noitems hxi.1 ax
      refine (sSet (blk l1 i).tab tch _ hkk x ax a3 a4 0 n3 n4 h0 _ _ mx).mono ?_
      rintro _ h3 ⟨_, rfl, a8, c8, a9, c9, rfl, m4⟩
      rw [set_yes (roomy_of (fun _ => by omega))] at m4 ⊢
      simp only [go_sem, Nat.reduceBEq, Nat.reduceAdd, Nat.reduceLeDiff]
      try refine ⟨trivial, ?_⟩
      refine regionD_intro (lb := [87, 88]) (by kernel_rfl) ?_
      simp only [go_sem, Nat.reduceBEq]
      refine Hold.ld1 (i := 0) Hold.ptr tyS24 m4.fourth rfl rfl ?_
      simp only [ix_nat o1, go_sem, Nat.reduceBEq, Nat.reduceAdd, Nat.reduceLeDiff]
      refine tb_store hd3 tyS38 (traws_len _ _ _) m4 (by omega) fun h5 m5 => ?_
      rw [hcu] at m5
      try simp only [go_sem, Nat.reduceBEq, Nat.reduceAdd, Nat.reduceLeDiff]
      refine ⟨b2, 0, some ⟨b, 0, none⟩, n2, rfl, ?_⟩
      unfold HpB setT
      rw [List.length_set]
      exact m5.nilrow (z := 8)
  | cons k r ih =>
    intro c L l v hk hd hi hc hcb hL w hv po hr hlb av ax sp a n bp R h0 h rp my
    obtain ⟨ap, cp, xp, rfl, hcp, hrp, hatp⟩ := rp.rows (by decide) (k :: r).length (fm_len Ky.dt_len _)
    have hn : 0 < (k :: r).length := by rw [List.length_cons]; omega
    obtain ⟨bq, offp, rfl, hatp'⟩ := hatp hn
    have ix0 : ∀ n : Nat, 0 < n → ixA (some 3) (some ⟨bq, offp, none⟩) n 0 = some (.pointer (some ⟨bq, offp + 0 * 3, none⟩)) := fun n hn => ix_nat (i := 0) hn
    obtain ⟨aq, ysq, e3, rs3, rl3⟩ := Rd.sub Ky.dt_len rp 1 (k :: r).length (by simp only [List.length_cons]; omega) (Nat.le_refl _)
    have e3 : slA (some 3) (some ⟨bq, offp, none⟩) (r.length + 1) cp 1 ((r.length + 1 : Nat) : Int) = some (.slice aq (r.length + 1 - 1) (cp - 1)) := e3
    have rp3 : Rd h0 (.row 3 (r.flatMap Ky.dt)) (.slice aq (r.length + 1 - 1) (cp - 1)) := by
      simp only [Rd]
      exact ⟨_, rs3, by simpa using rl3⟩
    have hrv : refIn l.length v := fun q => by
      have := w q
      have := hd.len
      omega
    obtain ⟨hkd, po2⟩ : (v.kind = 0 ∨ v.kind = 5) ∧ pathOk l0 r (inner0 l0 v k) push := po
    have hk0 : keyOk k = true := hk k (by simp)
    have hks : k.str.size ≤ 1152921504606846976 := by have := keyOk_size hk0; omega
    have dc := dc0 k r
    have dp := len_pos k r
    simp only [List.length_cons] at hL hlb hcb dc dp
    rw [wrH_cons]
    (refine enter Tryz.func45 rfl rfl (by kernel_rfl) [] ?_; simp only [go_sem, Nat.reduceBEq])
    have hp5 : v.kind = 5 → 0 < (blk l v.num.toNat).count := fun q => by
      obtain ⟨q1, q2, q3⟩ := w q
      exact (hd.same _ q2 q3).2
    obtain ⟨d1, i1, o1, o2, o3, o4⟩ := own_ok hd hi hc w
    simp only [dc, go_sem, Nat.reduceBEq, Nat.reduceAdd, Nat.reduceLeDiff]
    refine ((sOwn l v hi hc (by omega) hB (by omega) hkd hrv hp5 av 0 0 a n bp R h0 _ my).mono fun _ _ q => own_R hv q).mono ?_
    generalize (ownH l v).1 = l1 at *
    generalize (ownH l v).2 = i at *
    rintro _ h2 ⟨b2, c2, a2, n2, rfl, m2⟩
    have hc2 : c2 = 0 := My.cap0 (z := 8) m2
    subst hc2
    obtain ⟨_, _, es, _, _, hat⟩ := m2.drop.row_shape (by decide) l1.length (fm_len Bk.dt_len _)
    cases es
    obtain ⟨b, rfl⟩ := hat (by omega)
    have m3 : My h0 h2 ((.row 6 (l1.flatMap Bk.dt), .slice (some ⟨b, 0, none⟩) l1.length n2) :: (.ptr [] [.raw (.slice (some ⟨b, 0, none⟩) l1.length n2)] [], .pointer (some ⟨bp, 0, none⟩)) :: R) := m2.drop
    obtain ⟨tch, tlv, _, _⟩ := i1.bk i
    obtain ⟨c, a3, n3, a4, n4, mo, hd3, hcu⟩ := tab_at o1 m3
    obtain ⟨_, _, es4, _, _, hat4⟩ := mo.drop.row_shape (by decide) (blk l1 i).tab.slots.length (fm_len Sl.dt_len _)
    cases es4
    try simp only [go_sem, Nat.reduceBEq, Nat.reduceAdd, Nat.reduceLeDiff]
    refine regionD_intro (lb := [34]) (by kernel_rfl) ?_
    simp only [go_sem, Nat.reduceBEq]
    refine Hold.ld1 (i := 0) Hold.ptr tyS24 m3.swap rfl rfl ?_
    simp only [hnd_num, ix_nat o1, go_sem, Nat.reduceBEq]
    refine tb_ldraw hd3 tyS38 mo.third (by omega) ?_
    simp only [dp, go_sem, Nat.reduceBEq, Nat.reduceAdd, Nat.reduceLeDiff]
    simp only [ix0 _ (show 0 < r.length + 1 by omega), go_sem, Nat.reduceBEq]
    refine hsem_row (f := Ky.dt) (o := 0) (i := 0) (ds := k.dt) Ky.dt_len tyS57 (hatp'.mono m3.ext) (hrp.mono m3.ext) rfl (Nat.le_refl _) rfl ?_ fun ys q1 => ?_
    · omega
    rw [RdL_key q1]
    simp only [go_sem, Nat.reduceBEq, Nat.reduceAdd, Nat.reduceLeDiff]
    (refine (sFind7 (blk l1 i).tab k tch hks _ _ _ mo.rd mo.drop.rd).mono ?_; rintro _ _ ⟨rfl, rfl⟩; simp only [go_sem, Nat.reduceBEq])
    cases hf : (blk l1 i).tab.find k with
    | none =>
      have eI : innerH l1 i k = V.zero := innerH_none hf
      have ew : inner0 l0 v k = V.zero := by rw [← inner_tab o4 k, eI]
      have wI : was l0 V.zero := ew ▸ inner_was hR w k
      have hvI : Hv V.zero := hv_zero
      simp only [ixI_none, go_sem]
      refine Br.intro (fun hz => ?_) (fun hz => ?_) <;> (try simp only [hz, go_sem, Nat.reduceBEq])
      case refine_1 => exact absurd (of_decide_eq_true hz) (by decide)
      have w1 := wr_ok hR hC push hx r (fun q hq => hk q (by simp [hq])) d1 i1 (by omega) (by omega) wI (ew ▸ po2) (hr.up o3)
      obtain ⟨s2, s3, s4, s5, s6⟩ := w1
      try refine ⟨trivial, ?_⟩
      refine regionD_intro (lb := [60, 64]) (by kernel_rfl) ?_
      simp only [e3, go_sem, Nat.reduceBEq, Nat.reduceAdd, Nat.reduceLeDiff]
      refine (ih (v := V.zero) (fun q hq => hk q (by simp [hq])) d1 i1 (by omega) (by omega) (by omega) wI hvI (ew ▸ po2) (hr.up o3) (by omega) none ax _ _ n2 bp R h0 _ rp3 m3).mono ?_
      rw [eI] at *
      generalize (wrH r l1 (V.zero) push x).1 = l2 at *
      generalize (wrH r l1 (V.zero) push x).2 = w2 at *
      rintro _ h5 ⟨b5, c5, a5, n5, rfl, m5⟩
      have o5 : i < l2.length := by omega
      obtain ⟨t2ch, t2lv, _, _⟩ := s2.bk i
      obtain ⟨_, _, es6, _, _, hat6⟩ := m5.drop.row_shape (by decide) l2.length (fm_len Bk.dt_len _)
      cases es6
      obtain ⟨b6, rfl⟩ := hat6 (by omega)
      have m5 : My h0 h5 ((.row 8 (w2.items.flatMap edt), .slice b5 w2.items.length c5) :: (.row 6 (l2.flatMap Bk.dt), .slice (some ⟨b6, 0, none⟩) l2.length n5) :: (.ptr [] [.raw (.slice (some ⟨b6, 0, none⟩) l2.length n5)] [], .pointer (some ⟨bp, 0, none⟩)) :: R) := m5
      simp only [go_sem, Nat.reduceBEq, Nat.reduceAdd, Nat.reduceLeDiff]
      obtain ⟨c7, a7, n7, a8, n8, mp, hd7, hc7⟩ := tab_at o5 m5.swap
      try refine ⟨trivial, ?_⟩
      refine regionD_intro (lb := [71]) (by kernel_rfl) ?_
      simp only [go_sem, Nat.reduceBEq]
      refine Hold.ld1 (i := 0) Hold.ptr tyS24 m5.third rfl rfl ?_
      simp only [ix_nat o5, go_sem, Nat.reduceBEq]
      refine tb_ldraw hd7 tyS38 mp.third (by omega) ?_
      simp only [go_sem, Nat.reduceBEq, Nat.reduceAdd, Nat.reduceLeDiff]
      refine (sSet (blk l2 i).tab t2ch k hk0 w2 b5 a7 a8 c5 n7 n8 h0 _ _ mp.fourth).mono ?_
      rintro _ h6 ⟨_, rfl, a10, c10, a11, c11, rfl, m7⟩
      rw [set_yes (roomy_of (fun _ => by omega))] at m7 ⊢
      simp only [go_sem, Nat.reduceBEq, Nat.reduceAdd, Nat.reduceLeDiff]
      try refine ⟨trivial, ?_⟩
      refine regionD_intro (lb := [87, 88]) (by kernel_rfl) ?_
      simp only [go_sem, Nat.reduceBEq]
      refine Hold.ld1 (i := 0) Hold.ptr tyS24 m7.fourth rfl rfl ?_
      simp only [ix_nat o5, go_sem, Nat.reduceBEq, Nat.reduceAdd, Nat.reduceLeDiff]
      refine tb_store hd7 tyS38 (traws_len _ _ _) m7 (by omega) fun h8 m8 => ?_
      rw [hc7] at m8
      try simp only [go_sem, Nat.reduceBEq, Nat.reduceAdd, Nat.reduceLeDiff]
      refine ⟨b2, 0, some ⟨b6, 0, none⟩, n5, rfl, ?_⟩
      unfold HpB setT
      rw [List.length_set]
      exact m8.nilrow (z := 8)
    | some j =>
      obtain ⟨s, hs, hsl⟩ := Tb.find_live hf
      have hjl := lt_of_get hs
      obtain ⟨b4, rfl⟩ := hat4 (by omega)
      have eI : innerH l1 i k = s.val := innerH_some hf hs
      have ew : inner0 l0 v k = s.val := by rw [← inner_tab o4 k, eI]
      have wI : was l0 s.val := ew ▸ inner_was hR w k
      have hvI : Hv s.val := ew ▸ inner_hv hR v k
      obtain ⟨a5', hld⟩ := slot_ld hs hvI.1 mo.drop
      simp only [ixI_some, go_sem]
      refine Br.intro (fun hz => ?_) (fun hz => ?_) <;> (try simp only [hz, go_sem, Nat.reduceBEq])
      case refine_2 => exact absurd (of_decide_eq_false hz) (by omega)
      simp only [ix_nat hjl, go_sem, Nat.reduceBEq, Nat.reduceAdd]
      refine hld _ _ _ tyS49 (by omega) ?_
      simp only [go_sem, Nat.reduceBEq, Nat.reduceAdd, Nat.reduceLeDiff]
      have w1 := wr_ok hR hC push hx r (fun q hq => hk q (by simp [hq])) d1 i1 (by omega) (by omega) wI (ew ▸ po2) (hr.up o3)
      obtain ⟨s2, s3, s4, s5, s6⟩ := w1
      try refine ⟨trivial, ?_⟩
      refine regionD_intro (lb := [60, 64]) (by kernel_rfl) ?_
      simp only [e3, go_sem, Nat.reduceBEq, Nat.reduceAdd, Nat.reduceLeDiff]
      refine (ih (v := s.val) (fun q hq => hk q (by simp [hq])) d1 i1 (by omega) (by omega) (by omega) wI hvI (ew ▸ po2) (hr.up o3) (by omega) a5' ax _ _ n2 bp R h0 _ rp3 m3).mono ?_
      rw [eI] at *
      generalize (wrH r l1 (s.val) push x).1 = l2 at *
      generalize (wrH r l1 (s.val) push x).2 = w2 at *
      rintro _ h5 ⟨b5, c5, a5, n5, rfl, m5⟩
      have o5 : i < l2.length := by omega
      obtain ⟨t2ch, t2lv, _, _⟩ := s2.bk i
      obtain ⟨_, _, es6, _, _, hat6⟩ := m5.drop.row_shape (by decide) l2.length (fm_len Bk.dt_len _)
      cases es6
      obtain ⟨b6, rfl⟩ := hat6 (by omega)
      have m5 : My h0 h5 ((.row 8 (w2.items.flatMap edt), .slice b5 w2.items.length c5) :: (.row 6 (l2.flatMap Bk.dt), .slice (some ⟨b6, 0, none⟩) l2.length n5) :: (.ptr [] [.raw (.slice (some ⟨b6, 0, none⟩) l2.length n5)] [], .pointer (some ⟨bp, 0, none⟩)) :: R) := m5
      simp only [go_sem, Nat.reduceBEq, Nat.reduceAdd, Nat.reduceLeDiff]
      obtain ⟨c7, a7, n7, a8, n8, mp, hd7, hc7⟩ := tab_at o5 m5.swap
      try refine ⟨trivial, ?_⟩
      refine regionD_intro (lb := [71]) (by kernel_rfl) ?_
      simp only [go_sem, Nat.reduceBEq]
      refine Hold.ld1 (i := 0) Hold.ptr tyS24 m5.third rfl rfl ?_
      simp only [ix_nat o5, go_sem, Nat.reduceBEq]
      refine tb_ldraw hd7 tyS38 mp.third (by omega) ?_
      simp only [go_sem, Nat.reduceBEq, Nat.reduceAdd, Nat.reduceLeDiff]
      refine (sSet (blk l2 i).tab t2ch k hk0 w2 b5 a7 a8 c5 n7 n8 h0 _ _ mp.fourth).mono ?_
      rintro _ h6 ⟨_, rfl, a10, c10, a11, c11, rfl, m7⟩
      rw [set_yes (roomy_of (fun _ => by omega))] at m7 ⊢
      simp only [go_sem, Nat.reduceBEq, Nat.reduceAdd, Nat.reduceLeDiff]
      try refine ⟨trivial, ?_⟩
      refine regionD_intro (lb := [87, 88]) (by kernel_rfl) ?_
      simp only [go_sem, Nat.reduceBEq]
      refine Hold.ld1 (i := 0) Hold.ptr tyS24 m7.fourth rfl rfl ?_
      simp only [ix_nat o5, go_sem, Nat.reduceBEq, Nat.reduceAdd, Nat.reduceLeDiff]
      refine tb_store hd7 tyS38 (traws_len _ _ _) m7 (by omega) fun h8 m8 => ?_
      rw [hc7] at m8
      try simp only [go_sem, Nat.reduceBEq, Nat.reduceAdd, Nat.reduceLeDiff]
      refine ⟨b2, 0, some ⟨b6, 0, none⟩, n5, rfl, ?_⟩
      unfold HpB setT
      rw [List.length_set]
      exact m8.nilrow (z := 8)
end Go.Proofs.YtccjkhnefiikaaaGreatDoor
namespace Go.Proofs.YtccjkhnefiikaaaGreatDoor
set_option maxRecDepth 8000
open Go Go.Sx
theorem arrS_c (h : Hp) : ACalls Tryz.prog 67 #[] h (Pu (.agg #[.int .i64 4, .int .i64 0, .string ⟨#[]⟩, .int .i64 0, .slice none 0 0]) h) := by
  (refine enter Tryz.func67 rfl rfl (by kernel_rfl) [] ?_; simp only [go_sem, Nat.reduceBEq, Nat.reduceAdd, Nat.reduceLeDiff])
  exact ⟨rfl, rfl⟩
end Go.Proofs.YtccjkhnefiikaaaGreatDoor
namespace Go.Proofs.YtccjkhnefiikaaaGreatDoor
set_option maxRecDepth 8000
open Go Go.Sx
/-- what reads as one thing reads as the other -/
def AsC (d e : Dt) : Prop := ∀ (h : Hp) (v : Value), Rd h d v → Rd h e v
def AsL (ds es : List Dt) : Prop := ds.length = es.length ∧ ∀ (h : Hp) (xs : List Value), RdL h ds xs → RdL h es xs
theorem AsL.nil : AsL [] [] := ⟨rfl, fun _ _ r => r⟩
theorem AsL.append {p q p' q' : List Dt} (h1 : AsL p p') (h2 : AsL q q') : AsL (p ++ q) (p' ++ q') := ⟨by rw [List.length_append, List.length_append, h1.1, h2.1], fun h xs r => by
  obtain ⟨ys, zs, rfl, r1, r2⟩ := r.split
  exact (h1.2 h ys r1).append (h2.2 h zs r2)⟩
theorem AsC.row {z : Nat} {ds es : List Dt} (h1 : AsL ds es) : AsC (.row z ds) (.row z es) := fun h v r => by
  simp only [Rd] at r ⊢
  obtain ⟨xs, r1, r2⟩ := r
  exact ⟨xs, r1, h1.2 h xs r2⟩
theorem AsC.empty {z : Nat} {h0 : Hp} {u : Value} (r : Rd h0 (.row z []) u) : AsC (.raw u) (.row z []) := fun h v q => by
  obtain ⟨rfl, _⟩ := Rd_raw.1 q
  simp only [Rd, RdL] at r ⊢
  obtain ⟨xs, r1, rfl⟩ := r
  refine ⟨[], ?_, rfl⟩
  obtain ⟨⟨a, n, c, rfl, k1, k2, k3⟩, k4⟩ := r1
  exact ⟨⟨a, n, c, rfl, k1, k2, .inl rfl⟩, k4⟩
def ecs (k : Ky) (x : V) (d : Dt) : List Dt := [.raw (.bool k.text), .raw (.int .i64 k.num), .raw (.string k.str), .raw (.int .i64 x.kind), .raw (.int .i64 x.num), .raw (.string x.str), .raw (.int .i64 x.next), d]
theorem AsL.entry {k : Ky} {x : V} {d : Dt} (h1 : AsC d (.row 8 (x.items.flatMap edt))) : AsL (ecs k x d) (edt (k, x)) := ⟨by rw [edt_len]; rfl, fun h xs r => by
  rw [edt_eq]
  simp only [ecs, RdL_cons, RdL_nil, Rd_raw] at r
  obtain ⟨_, _, rfl, ⟨rfl, _⟩, _, _, rfl, ⟨rfl, _⟩, _, _, rfl, ⟨rfl, _⟩, _, _, rfl, ⟨rfl, _⟩, _, _, rfl, ⟨rfl, _⟩, _, _, rfl, ⟨rfl, _⟩, _, _, rfl, ⟨rfl, _⟩, _, _, rfl, hd, rfl⟩ := r
  simp only [RdL_cc, Rd_raw, RdL_nil, true_and, and_true]
  exact ⟨rfl, rfl, rfl, rfl, rfl, rfl, rfl, h1 h _ hd⟩⟩
/-- a value that reads, some of its memory old -/
def LdR (h : Hp) (v : V) (u : Value) (h' : Hp) : Prop := ∃ a c d, u = .agg #[.int .i64 v.kind, .int .i64 v.num, .string v.str, .int .i64 v.next, .slice a v.items.length c] ∧ My h h' [(d, .slice a v.items.length c)] ∧ AsC d (.row 8 (v.items.flatMap edt))
def LoadS (l : List Bk) (f : Nat) : Prop := ∀ (v : V), weighed l f v → ∀ (bp op : Nat) (s sl : Value) (h : Hp), At h ⟨bp, op, none⟩ [s] → RdB h l s → RdE h v.items sl → ACalls Tryz.prog 41 #[.pointer (some ⟨bp, op, none⟩), .agg #[.int .i64 v.kind, .int .i64 v.num, .string v.str, .int .i64 v.next, sl]] h (LdR h (ldF l f v))
set_option maxHeartbeats 1600000 in
theorem sLoad (l : List Bk) (hb : szG Bk.bulk l ≤ 1099511627776) (hin : inR l) : ∀ f, LoadS l f
  | 0, v, w, bp, op, s, sl, h, hp, r1, rd => by
    have hit := (held_items w.1).1
    have h5 : ¬ v.kind = 5 := fun q => by
      obtain ⟨n, hn⟩ := w.2 q
      cases hn
    obtain ⟨a, c, xs, rfl, hc, hr, hat⟩ := rd.rows (by decide) v.items.length (fm_len edt_len _)
    have has0 : AsC (.raw (.slice a v.items.length c)) (.row 8 (v.items.flatMap edt)) := by
      have rd : Rd h (.row 8 (v.items.flatMap edt)) (.slice a v.items.length c) := rd
      rw [hit] at rd ⊢
      exact AsC.empty rd
    (refine enter Tryz.func41 rfl rfl (by kernel_rfl) [] ?_; simp only [go_sem, Nat.reduceBEq])
    simp only [decide_eq_false h5, Bool.not_false, go_sem, Nat.reduceBEq, Nat.reduceAdd, Nat.reduceLeDiff]
    exact ⟨_, _, _, rfl, (My.nil (Ext.refl h)).raw rfl, has0⟩
  | f + 1, v, w, bp, op, s, sl, h, hp, r1, rd => by
    have hit := (held_items w.1).1
    have hlen := szG_len (w := Bk.bulk) l
    obtain ⟨a1, c1, xs1, rfl, hc1, hr1, hat1⟩ := r1.rows (by decide) l.length (fm_len Bk.dt_len _)
    obtain ⟨a, c, xs, rfl, hc, hr, hat⟩ := rd.rows (by decide) v.items.length (fm_len edt_len _)
    have has0 : AsC (.raw (.slice a v.items.length c)) (.row 8 (v.items.flatMap edt)) := by
      have rd : Rd h (.row 8 (v.items.flatMap edt)) (.slice a v.items.length c) := rd
      rw [hit] at rd ⊢
      exact AsC.empty rd
    (refine enter Tryz.func41 rfl rfl (by kernel_rfl) [] ?_; simp only [go_sem, Nat.reduceBEq])
    by_cases h5 : v.kind = 5
    case neg =>
      rw [ldF_other h5]
      simp only [decide_eq_false h5, Bool.not_false, go_sem, Nat.reduceBEq, Nat.reduceAdd, Nat.reduceLeDiff]
      exact ⟨_, _, _, rfl, (My.nil (Ext.refl h)).raw rfl, has0⟩
    rw [ldF_handle h5]
    obtain ⟨q1, q2, q3⟩ := held_num w.1 h5
    have hbk := blk_at q2
    have hsb := slots_bulk hbk
    obtain ⟨hsl, hsv⟩ := tab_slots (blk l v.num.toNat).tab
    have kids := w.kids hin h5
    obtain ⟨b1, o1, rfl, hat1'⟩ := hat1 (by omega)
    simp only [decide_eq_true h5, Bool.not_true, go_sem]
    refine regionD_intro (lb := [17]) (by kernel_rfl) ?_
    simp only [go_sem, Nat.reduceBEq]
    refine hsem_at1 (i := 0) tyS24 hp rfl (by omega) ?_
    simp only [ix_int q1 q2, go_sem, Nat.reduceBEq]
    refine hsem_btab tyS38 hat1' hr1 hbk (by omega) fun s2 u2 rh ru => ?_
    obtain ⟨a3, c3, xs3, rfl, hc3, hr3, hat3⟩ := rh.rows (by decide) (blk l v.num.toNat).tab.heads.length (fm_len idt_len _)
    obtain ⟨a2, c2, xs2, rfl, hc2, hr2, hat2⟩ := ru.rows (by decide) (blk l v.num.toNat).tab.slots.length (fm_len Sl.dt_len _)
    generalize htt : (blk l v.num.toNat).tab = t at *
    try simp only [go_sem, Nat.reduceBEq, Nat.reduceAdd, Nat.reduceLeDiff]
    (refine (arrS_c _).mono ?_; rintro _ _ ⟨rfl, rfl⟩; simp only [go_sem, Nat.reduceBEq, Nat.reduceAdd, Nat.reduceLeDiff])
    refine aloop (ι := Nat × Value × List Dt) (fun x => [(7, .val (.int .i64 (x.1 : Nat))), (6, .box 6 0), (5, .box 5 0), (4, .box 4 0), (0, .val (.pointer (some ⟨bp, op, none⟩)))])
      (fun x => [(6, [.int .i64 4, .int .i64 0, .string ⟨#[]⟩, .int .i64 t.next, x.2.1]), (5, [.bool t.hashed, .slice a3 t.heads.length c3, .slice a2 t.slots.length c2, .int .i64 t.next, .int .i64 t.count]), (4, [.int .i64 0, .int .i64 0, .string ⟨#[]⟩, .int .i64 0, .slice none 0 0])])
      (fun x h' => x.1 ≤ t.slots.length ∧ My h h' [(.row 8 x.2.2, x.2.1)] ∧ AsL x.2.2 ((ldS (ldF l f) (t.slots.take x.1)).flatMap edt)) (fun x => t.slots.length - x.1) (0, .slice none 0 0, [])
      ⟨Nat.zero_le _, (My.nil (Ext.refl h)).nilrow, AsL.nil⟩ (by repeat (first | exact wkF_e | refine wkF_c rfl ?_)) (wkB_c rfl (wkB_c rfl (wkB_c rfl wkB_e))) rfl ?_
    rintro ⟨i, o, ds⟩ h1 ⟨hi, m1, al⟩
    have hi : i ≤ t.slots.length := hi
    have m1 : My h h1 [(.row 8 ds, o)] := m1
    have al : AsL ds ((ldS (ldF l f) (t.slots.take i)).flatMap edt) := al
    have hvl := ldS_le (ldF l f) t.slots i
    have htl : ds.length = (ldS (ldF l f) (t.slots.take i)).length * 8 := by rw [al.1, fm_len edt_len]
    obtain ⟨ao, co, rfl, _⟩ := m1.row_shape (by decide) _ htl
    simp only [go_sem, Nat.reduceBEq]
    refine Br.intro (fun hq => ?_) (fun hq => ?_) <;> (try simp only [hq, go_sem, Nat.reduceBEq, Nat.reduceAdd, Nat.reduceLeDiff])
    · have hq : i < t.slots.length := by simpa using hq
      obtain ⟨b, off, rfl, hat'⟩ := hat2 (by omega)
      obtain ⟨e, he, hm⟩ := get_lt hq
      have wsu := wrap_succ (i := i) (by omega)
      simp only [ix_nat hq, go_sem, Nat.reduceBEq, Nat.reduceAdd]
      refine hsem_slive tyS4 (hat'.mono m1.ext) (hr2.mono m1.ext) he rfl ?_
      cases hv : e.live with
      | false =>
        simp only [wsu, go_sem, Nat.reduceBEq]
        exact Again.intro (i + 1, .slice ao (ldS (ldF l f) (t.slots.take i)).length co, ds) (by first | omega | (simp only; omega)) ⟨hq, m1, by rw [ldS_snoc he, hv]; exact al⟩ (by repeat (first | exact wkF_e | refine wkF_c rfl ?_)) (wkB_c rfl (wkB_c rfl (wkB_c rfl wkB_e))) rfl
      | true =>
      try simp only [go_sem, Nat.reduceBEq]
      refine regionD_still (lb := [39, 41, 48]) (pl := [45]) h m1.ext (by kernel_rfl) ?_
      simp only [ix_nat hq, go_sem, Nat.reduceBEq]
      refine hsem_skey tyS57 hat' hr2 he rfl ?_
      simp only [ix_nat hq, go_sem, Nat.reduceBEq, Nat.reduceAdd]
      refine hsem_sval tyS49 (hat'.mono m1.ext) (hr2.mono m1.ext) he rfl fun s2 rd2 => ?_
      simp only [go_sem, Nat.reduceBEq]
      refine (sLoad l hb hin f e.val (kids i e he hv) bp op _ _ _ (hp.mono m1.ext) (r1.mono m1.ext) rd2).mono ?_
      rintro _ h2 ⟨a3, c3, d, rfl, m2, ad⟩
      simp only [go_sem, Nat.reduceBEq, Nat.reduceAdd, Nat.reduceLeDiff]
      refine ⟨m1.ext.trans m2.ext, ?_⟩
      have m3 := m1.add m2
      have ae := AsL.entry (k := e.key) ad
      refine hsem_my_lit (h0 := h) (es := ecs e.key (ldF l f e.val) d) (parts := [(0, .agg #[.bool e.key.text, .int .i64 e.key.num, .string e.key.str, .int .i64 (ldF l f e.val).kind, .int .i64 (ldF l f e.val).num, .string (ldF l f e.val).str, .int .i64 (ldF l f e.val).next, .slice a3 (ldF l f e.val).items.length c3])]) slT47 (by decide) (by decide) (by decide) rfl rfl (by simp [Value.cells]) (bag := [(.row 8 ds, .slice ao (ldS (ldF l f) (t.slots.take i)).length co)]) ?_ rfl rfl fun l4 h4 m4 => ?_
      · simp only [ecs, flat, List.flatMap_cons, List.flatMap_nil, List.append_nil, cells_agg, List.zip_cons_cons, List.zip_nil_right, List.cons_append, List.nil_append, My.raw_iff, one_bool, one_int, one_str, and_self, true_and]
        exact m3
      simp only [go_sem, Nat.reduceBEq]
      refine ⟨m4.ext, ?_⟩
      refine hsem_my_append slT47 (by decide) rfl (ldS (ldF l f) (t.slots.take i)).length 1 m4.swap htl rfl (by show ((ldS (ldF l f) (t.slots.take i)).length + 1) * 96 ≤ _; omega) (by omega) fun l5 h5' m5 => ?_
      have m5 : My h h5' [(.row 8 (ds ++ ecs e.key (ldF l f e.val) d), l5)] := m5
      have al5 : AsL (ds ++ ecs e.key (ldF l f e.val) d) ((ldS (ldF l f) (t.slots.take (i + 1))).flatMap edt) := by
        rw [ldS_snoc he, hv, if_pos rfl, List.flatMap_append, List.flatMap_cons, List.flatMap_nil, List.append_nil]
        exact al.append ae
      obtain ⟨a6, c6, rfl, _⟩ := m5.row_shape (by decide) (ldS (ldF l f) (t.slots.take (i + 1))).length (by rw [al5.1, fm_len edt_len])
      simp only [wsu, go_sem, Nat.reduceBEq, Nat.reduceAdd, Nat.reduceLeDiff]
      refine ⟨m5.ext, ?_⟩
      try simp only [wsu, go_sem, Nat.reduceBEq, Nat.reduceAdd, Nat.reduceLeDiff, Nat.reduceEqDiff, Int.reduceEq, not_false_eq_true, Int.reduceToNat]
      exact Again.intro (i + 1, .slice a6 (ldS (ldF l f) (t.slots.take (i + 1))).length c6, ds ++ ecs e.key (ldF l f e.val) d) (by first | omega | (simp only; omega)) ⟨hq, m5, al5⟩ (by repeat (first | exact wkF_e | refine wkF_c rfl ?_)) (wkB_c rfl (wkB_c rfl (wkB_c rfl wkB_e))) rfl
    · have hq : i = t.slots.length := by simp at hq; omega
      subst hq
      rw [List.take_length] at m1 al
      simp only [List.take_length, go_sem]
      try simp only [go_sem, Nat.reduceBEq, Nat.reduceAdd, Nat.reduceLeDiff, Nat.reduceEqDiff, Int.reduceEq, not_false_eq_true, Int.reduceToNat]
      exact ⟨_, _, _, rfl, m1, AsC.row al⟩
end Go.Proofs.YtccjkhnefiikaaaGreatDoor
namespace Go.Proofs.YtccjkhnefiikaaaGreatDoor
set_option maxRecDepth 8000
open Go Go.Sx
theorem sPut12 (v : V) (path : List Ky) (push : Bool) (x : V) (hv : v.bulk ≤ 274877906944) (hx : x.bulk ≤ 274877906944) (hp : kbulk path ≤ 274877906944) (hpl : path.length ≤ 1099511627776) (sl sp sx : Value) (h : Hp) (rd : RdE h v.items sl) (rp : Rd h (.row 3 (path.flatMap Ky.dt)) sp) (rx : RdE h x.items sx) :
    ACalls Tryz.prog 40 #[.agg #[.int .i64 v.kind, .int .i64 v.num, .string v.str, .int .i64 v.next, sl], sp, .bool push, .agg #[.int .i64 x.kind, .int .i64 x.num, .string x.str, .int .i64 x.next, sx]] h (fun u h' => ∃ w, PutP h (w, putCode v path push x) u h') := by
  have hBv := V.bulk_eq v
  have hBx := V.bulk_eq x
  have hpb := put_bulk path v push x
  have hBp := V.bulk_eq (v.put path push x).1
  obtain ⟨ap, cp, xp, rfl, _⟩ := rp.rows (by decide) path.length (fm_len Ky.dt_len _)
  obtain ⟨a, c, _, rfl, _⟩ := rd.rows (by decide) v.items.length (fm_len edt_len _)
  obtain ⟨ax, cx, _, rfl, _⟩ := rx.rows (by decide) x.items.length (fm_len edt_len _)
  unfold putCode
  (refine enter Tryz.func40 rfl rfl (by kernel_rfl) [] ?_; simp only [go_sem, Nat.reduceBEq, Nat.reduceAdd, Nat.reduceLeDiff])
  refine (sl12Set path v push x (by omega) hpl _ _ _ _ rd rp rx).mono ?_
  rintro _ h1 ⟨a1, c1, rfl, e1, r1⟩
  simp only [go_sem, Nat.reduceBEq, Nat.reduceAdd, Nat.reduceLeDiff]
  refine Br.intro (fun hc => ?_) (fun hc => ?_) <;> (try simp only [hc, go_sem, Nat.reduceBEq, Nat.reduceAdd, Nat.reduceLeDiff])
  · have hc := of_decide_eq_true hc
    rw [if_pos hc]
    refine (sWeigh _ (by omega) 200 (by decide) _ _ r1).mono ?_
    rintro _ _ ⟨rfl, n, rfl, hr1, hr2⟩
    have hd : decide ((200 : Int) < ((n : Nat) : Int)) = !decide ((v.put path push x).1.weight ≤ 200) := by
      rw [← decide_not]
      exact decide_eq_decide.2 (by
        constructor
        · intro h; omega
        · intro h
          rcases Nat.lt_or_ge 200 n with hh | hh
          · omega
          · have := hr2 hh; omega)
    simp only [hd, go_sem, Nat.reduceBEq]
    refine Br.intro (fun hw => ?_) (fun hw => ?_) <;> (try simp only [hw, go_sem, Nat.reduceBEq, Nat.reduceAdd, Nat.reduceLeDiff, Int.reduceEq])
    · have hw : ¬ (v.put path push x).1.weight ≤ 200 := by simpa using hw
      rw [if_neg hw]
      exact ⟨v, _, _, rfl, e1, rd.mono e1⟩
    · have hw : (v.put path push x).1.weight ≤ 200 := by simpa using hw
      rw [if_pos hw]
      have dz : decide ((v.put path push x).2 = 0) = true := decide_eq_true hc
      simp only [dz, go_sem, Nat.reduceBEq, Nat.reduceAdd, Nat.reduceLeDiff]
      exact ⟨_, _, _, rfl, e1, r1⟩
  · have hc := of_decide_eq_false hc
    rw [if_neg hc]
    have dz : decide ((v.put path push x).2 = 0) = false := decide_eq_false hc
    try simp only [dz, go_sem, Nat.reduceBEq, Nat.reduceAdd, Nat.reduceLeDiff, Nat.reduceEqDiff, Int.reduceEq, not_false_eq_true, Int.reduceToNat]
    exact ⟨v, _, _, rfl, e1, rd.mono e1⟩
end Go.Proofs.YtccjkhnefiikaaaGreatDoor
namespace Go.Proofs.YtccjkhnefiikaaaGreatDoor
set_option maxRecDepth 8000
open Go Go.Sx
section
variable {h0 h : Hp} {bag : Bag} {l : List UInt8} {p : Nat}
/-- the roots and the heap beside the cursor -/
def RootM (h0 h' : Hp) (l : List UInt8) (p bp : Nat) (lb : List Bk) (w : List (V × Option Addr)) (sl : Value) (bag : Bag) : Prop :=
  ∃ (ah ar : Option Addr) (nh cr : Nat), sl = .slice ar w.length cr ∧ CurM h0 h' l p ((.row 5 (w.flatMap rdt), .slice ar w.length cr) :: HpB lb ah nh bp bag)
def InS (K : Nat) (h0 : Hp) (l : List UInt8) (p bp : Nat) (bag : Bag) (x : Nat × List (V × Option Addr) × Value) (h' : Hp) : Prop :=
  x.2.1.length + x.1 = K ∧ ∃ lb, SHp lb (x.2.1.map (·.1)) ∧ RootM h0 h' l p bp lb x.2.1 x.2.2 bag
def InR (h0 : Hp) (l : List UInt8) (p bp : Nat) (bag : Bag) (x : Nat × Nat × List (V × Option Addr) × Value) (h' : Hp) : Prop :=
  x.2.1 + x.1 ≤ 5 ∧ 1 ≤ x.2.2.1.length ∧ ∃ lb, DHp x.2.1 lb (x.2.2.1.map (·.1)) ∧ RootM h0 h' l p bp lb x.2.2.1 x.2.2.2 bag
/-- A draw of a heap that is counted. -/
def HeapP (h0 : Hp) (l : List UInt8) (p : Nat) (bag : Bag) (u : Value) (h' : Hp) : Prop := ∃ (lb : List Bk) (w : List (V × Option Addr)) (m : Nat) (ah ar : Option Addr) (nh cr : Nat), u = .tuple #[.agg #[.slice ah lb.length nh], .slice ar w.length cr] ∧ m ≤ 5 ∧ 1 ≤ w.length ∧ DHp m lb (w.map (·.1)) ∧ CurM h0 h' l p ((.row 5 (w.flatMap rdt), .slice ar w.length cr) :: (.row 6 (lb.flatMap Bk.dt), .slice ah lb.length nh) :: bag)
set_option maxHeartbeats 1600000 in
theorem l13Draw_c (hl : l.length ≤ 1048576) (m : CurM h0 h l p bag) : ACalls Tryz.prog 23 #[pv p] h (HeapP h0 l p bag) := by
  (refine enter Tryz.func23 rfl rfl (by kernel_rfl) [4] ?_; simp only [go_sem, Nat.reduceBEq])
  obtain ⟨y1, my1, back1⟩ := m.top
  refine hsem_my_alloc (z := [.slice none 0 0]) (by kernel_rfl) rfl my1 fun bp h2 m2 => ?_
  try simp only [go_sem, Nat.reduceBEq]
  refine Hold.store Hold.ptr (es := [.raw (.slice none 0 0)]) tyS26 (m2.raw (u := .slice none 0 0) rfl) rfl rfl rfl rfl fun h3 m3 => ?_
  have m3 : My h0 h3 ((.row 6 [], .slice none 0 0) :: (.ptr [] [.raw (.slice none 0 0)] [], .pointer (some ⟨bp, 0, none⟩)) :: y1 :: bag) := m3.nilrow
  try simp only [go_sem]
  refine my_row0 (by decide) slT27 rfl m3 fun a4 h4 m4 => ?_
  have m4 : CurM h0 h4 l p ((.row 5 [], .slice a4 0 0) :: HpB [] none 0 bp bag) := back1 h4 [_, _, _] m4
  try simp only [go_sem, Nat.reduceBEq]
  refine (l1Below_c hl m4 4 (by decide) (by decide)).mono ?_
  rintro _ h5 ⟨x, rfl, x0, x1, m5⟩
  obtain ⟨k0, rfl⟩ := Int.eq_ofNat_of_zero_le x0
  have wk : IntKind.i64.wrap (1 + (k0 : Int)) = ((k0 + 1 : Nat) : Int) := by rw [IntWalk.i64_in _ (by omega)]; omega
  try simp only [go_sem, Nat.reduceBEq]
  simp only [wk, go_sem]
  refine aloop (ι := Nat × List (V × Option Addr) × Value) (fun x => [(6, .val (.int .i64 (x.1 : Nat))), (5, .val x.2.2), (4, .val (.pointer (some ⟨bp, 0, none⟩))), (2, .box 2 0), (0, .val (pv p))]) (fun _ => [(2, [.slice none 0 0])])
    (InS (k0 + 1) h0 l p bp bag) (fun x => x.1) (k0 + 1, [], .slice a4 0 0) ⟨Nat.zero_add _, [], SHp.nil, none, a4, 0, 0, rfl, m5⟩ (by repeat (first | exact wkF_e | refine wkF_c rfl ?_)) (wkB_c rfl wkB_e) rfl ?_
  rintro ⟨kk, w, sl⟩ h6 ⟨hk, lb, S, ah, ar, nh, cr, hsl, m6⟩
  have hsl : sl = .slice ar w.length cr := hsl
  subst hsl
  have hk : w.length + kk = k0 + 1 := hk
  have S : SHp lb (w.map (·.1)) := S
  have m6 : CurM h0 h6 l p ((.row 5 (w.flatMap rdt), .slice ar w.length cr) :: HpB lb ah nh bp bag) := m6
  have Sl := S.len
  rw [List.length_map] at Sl
  try simp only [go_sem, Nat.reduceBEq]
  cases kk with
  | succ k =>
    have wk : IntKind.i64.wrap (((k + 1 : Nat) : Int) - 1) = ((k : Nat) : Int) := by rw [IntWalk.i64_in _ (by omega)]; omega
    simp only [show decide (0 < ((k + 1 : Nat) : Int)) = true from decide_eq_true (by omega), go_sem, Nat.reduceBEq]
    refine (l5Draw_d hl 3 (by decide) m6).mono ?_
    rintro _ h7 ⟨v, a, c, rfl, hd, hv, hb, m7⟩
    have hB : bD 3 = 1444 := rfl
    try simp only [go_sem, Nat.reduceBEq]
    obtain ⟨y7, my7, back7⟩ := m7.heap2
    refine (sStore v hd.valid (by omega) lb (by omega) (cnt_nonneg S.cnt) a c ah nh bp _ h0 _ my7).mono ?_
    have S2 := S.store hd
    have hw2 : (sto v lb).2.items = [] := cnt_items S2.cnt (by simp)
    generalize sto v lb = W at *
    obtain ⟨lb2, w2⟩ := W
    rintro _ h8 q8
    obtain ⟨b8, ah8, nh8, rfl, m8⟩ := q8.root hw2
    have m8 : CurM h0 h8 l p ((.row 5 (w.flatMap rdt), .slice ar w.length cr) :: HpB lb2 ah8 nh8 bp bag) := back7 h8 lb2 ah8 nh8 [] m8
    try simp only [go_sem, Nat.reduceBEq]
    obtain ⟨y9, my9, back9⟩ := m8.fst
    refine my_root1 (x := (w2, b8)) slT27 rfl my9 fun v9 h9 m9 => ?_
    try simp only [go_sem, Nat.reduceBEq]
    refine my_push1 (f := rdt) rdt_len (by decide) slT27 rfl rfl (by decide) m9 (by omega) fun a10 c10 h10 m10 => ?_
    have m10 : CurM h0 h10 l p ((.row 5 ((w ++ [(w2, b8)]).flatMap rdt), .slice a10 (w ++ [(w2, b8)]).length c10) :: HpB lb2 ah8 nh8 bp bag) := back9 h10 [_] m10
    try simp only [go_sem, Nat.reduceBEq]
    simp only [wk, go_sem]
    exact Again.intro (k, w ++ [(w2, b8)], .slice a10 (w ++ [(w2, b8)]).length c10) (by first | omega | (simp only; omega)) ⟨by show (w ++ [(w2, b8)]).length + k = k0 + 1; rw [List.length_append]; show w.length + 1 + k = k0 + 1; omega, lb2, by show SHp lb2 ((w ++ [(w2, b8)]).map (·.1)); rw [List.map_append]; exact S2, ah8, a10, nh8, c10, rfl, m10⟩ (by repeat (first | exact wkF_e | refine wkF_c rfl ?_)) (wkB_c rfl wkB_e) rfl
  | zero =>
  simp only [show decide (0 < ((0 : Nat) : Int)) = false from rfl, go_sem, Nat.reduceBEq]
  refine (l1Below_c hl m6 6 (by decide) (by decide)).mono ?_
  rintro _ h7 ⟨x, rfl, y0, y1, m7⟩
  obtain ⟨k1, rfl⟩ := Int.eq_ofNat_of_zero_le y0
  try simp only [go_sem, Nat.reduceBEq]
  refine aloop (ι := Nat × Nat × List (V × Option Addr) × Value) (fun x => [(7, .val (.int .i64 (x.1 : Nat))), (5, .val x.2.2.2), (4, .val (.pointer (some ⟨bp, 0, none⟩))), (2, .box 2 0), (0, .val (pv p))]) (fun _ => [(2, [.slice none 0 0])])
    (InR h0 l p bp bag) (fun x => x.1) (k1, 0, w, .slice ar w.length cr) ⟨by show 0 + k1 ≤ 5; omega, by show 1 ≤ w.length; omega, lb, S.start (by rw [List.length_map]; omega), ah, ar, nh, cr, rfl, m7⟩ (by repeat (first | exact wkF_e | refine wkF_c rfl ?_)) (wkB_c rfl wkB_e) rfl ?_
  rintro ⟨kk, mm, w, sl⟩ h8 ⟨hk0, hw0, lb, D0, ah, ar, nh, cr, hsl, m80⟩
  have hsl : sl = .slice ar w.length cr := hsl
  subst hsl
  have hk : mm + kk ≤ 5 := hk0
  have hw : 1 ≤ w.length := hw0
  have D : DHp mm lb (w.map (·.1)) := D0
  have m8 : CurM h0 h8 l p ((.row 5 (w.flatMap rdt), .slice ar w.length cr) :: HpB lb ah nh bp bag) := m80
  have Dr := D.rl
  have Dl := D.len
  have Ds := (D.size (by omega)).1
  rw [List.length_map] at Dr
  try simp only [go_sem, Nat.reduceBEq]
  cases kk with
  | zero =>
    simp only [show decide (0 < ((0 : Nat) : Int)) = false from rfl, go_sem, Nat.reduceBEq]
    obtain ⟨y9, my9, back9⟩ := m8.heap
    refine Hold.loadN Hold.ptr (i := 0) (ds := [.raw (.slice ah lb.length nh)]) tyS26 my9.swap rfl rfl rfl fun ys r => ?_
    obtain rfl : ys = [.slice ah lb.length nh] := RdL.of_raws (us := [.slice ah lb.length nh]) r
    try simp only [go_sem, Nat.reduceBEq, Nat.reduceLeDiff]
    exact ⟨lb, w, mm, ah, ar, nh, cr, rfl, by omega, hw, D, m8.upd fun d m => (m.perm (List.perm_middle (l₁ := [(d, pv p), _, _]))).drop⟩
  | succ k =>
  have wk : IntKind.i64.wrap (((k + 1 : Nat) : Int) - 1) = ((k : Nat) : Int) := by rw [IntWalk.i64_in _ (by omega)]; omega
  simp only [show decide (0 < ((k + 1 : Nat) : Int)) = true from decide_eq_true (by omega), go_sem, Nat.reduceBEq]
  refine (l1Below_c hl m8 (w.length : Nat) (by omega) (by omega)).mono ?_
  rintro _ h9 ⟨x, rfl, y0, y1, m9⟩
  obtain ⟨i, rfl⟩ := Int.eq_ofNat_of_zero_le y0
  have hi : i < w.length := by omega
  try simp only [go_sem, Nat.reduceBEq]
  refine (l1Below_c hl m9 (w.length : Nat) (by omega) (by omega)).mono ?_
  rintro _ h10 ⟨x, rfl, z0, z1, m10⟩
  obtain ⟨j, rfl⟩ := Int.eq_ofNat_of_zero_le z0
  have hj : j < w.length := by omega
  try simp only [go_sem, Nat.reduceBEq]
  refine (l12Path_c hl m10 2 (by decide)).mono ?_
  rintro _ h11 ⟨ps, ap, cp, rfl, hpl, hps, m11⟩
  try simp only [go_sem, Nat.reduceBEq]
  obtain ⟨xi, hxi, _⟩ := get_lt hi
  obtain ⟨xj, hxj, _⟩ := get_lt hj
  have hri : (w.map (·.1))[i]? = some xi.1 := by rw [List.getElem?_map, hxi]; rfl
  have hrj : (w.map (·.1))[j]? = some xj.1 := by rw [List.getElem?_map, hxj]; rfl
  have hii := cnt_items D.cnt (List.mem_of_getElem? hri)
  have hij := cnt_items D.cnt (List.mem_of_getElem? hrj)
  have wpos := wR_pos mm
  have ldi := D.cnt.ld (show 1 ≤ wR mm by omega) (List.mem_of_getElem? hri)
  have ldj := D.cnt.ld (show 1 ≤ wR mm by omega) (List.mem_of_getElem? hrj)
  have wtop := wR_top (m := mm) (by omega)
  have kb : kbulk ps ≤ 100 := kbulk_small (by omega) fun k hk => (hps k hk).2
  obtain ⟨br, _, er⟩ := m11.drop.row0 (by omega) (fm_len rdt_len _)
  cases er
  have m11 : CurM h0 h11 l p ((.row 3 (ps.flatMap Ky.dt), .slice ap ps.length cp) :: (.row 5 (w.flatMap rdt), .slice (some ⟨br, 0, none⟩) w.length cr) :: HpB lb ah nh bp bag) := m11
  obtain ⟨y11, my11, back11⟩ := m11.heap2
  obtain ⟨ysp, hryp, hatyp⟩ := Hold.rd Hold.ptr my11.drop.swap
  have ey : ysp = [.slice ah lb.length nh] := RdL.of_raws (us := [.slice ah lb.length nh]) hryp
  subst ey
  have rl : RdB h11 lb (.slice ah lb.length nh) := my11.drop.rd
  have rw5 : Rd h11 (.row 5 (w.flatMap rdt)) (.slice (some ⟨br, 0, none⟩) w.length cr) := m11.drop.my.rd
  refine regionD_still (lb := []) (pl := [49, 55]) h11 (Ext.refl _) (by kernel_rfl) ?_
  simp only [go_sem, Nat.reduceBEq]
  simp only [ix_nat hi, go_sem, Nat.reduceBEq]
  refine root_ld tyS49 rw5 hxi (by omega) ?_
  try simp only [go_sem, Nat.reduceBEq]
  refine (sLoad lb (by omega) D.cnt.inR (wR mm) xi.1 (D.cnt.weighed (List.mem_of_getElem? hri)) bp 0 _ _ _ hatyp rl (rdE_none hii)).mono ?_
  rintro _ h12 ⟨a12, c12, d12, rfl, m12, ad12⟩
  have e12 := m12.ext
  refine ⟨e12, ?_⟩
  simp only [ix_nat hj, go_sem, Nat.reduceBEq]
  refine root_ld tyS49 rw5 hxj (by omega) ?_
  try simp only [go_sem, Nat.reduceBEq]
  refine (sLoad lb (by omega) D.cnt.inR (wR mm) xj.1 (D.cnt.weighed (List.mem_of_getElem? hrj)) bp 0 _ _ _ (hatyp.mono e12) (rl.mono e12) (rdE_none hij)).mono ?_
  rintro _ h13 ⟨a13, c13, d13, rfl, m13, ad13⟩
  have e13 := e12.trans m13.ext
  refine ⟨e13, ?_⟩
  try simp only [go_sem, Nat.reduceBEq]
  refine (sPut12 (ldF lb (wR mm) xi.1) ps false (ldF lb (wR mm) xj.1) (by omega) (by omega) (by omega) (by omega) _ _ _ _ ((ad12 _ _ m12.rd).mono m13.ext) (m11.my.rd.mono e13) (ad13 _ _ m13.rd)).mono ?_
  rintro _ h14 ⟨w14, a14, c14, rfl, x14, _⟩
  have e14 := e13.trans x14
  refine ⟨e14, ?_⟩
  have m14 := m11.mono e14
  clear m12 m13 ad12 ad13
  try simp only [go_sem, Nat.reduceBEq, Nat.reduceAdd, Nat.reduceLeDiff]
  refine (l1Once_c hl m14 4 (by decide) (by decide)).mono ?_
  rintro _ h15 ⟨b, rfl, m15⟩
  try simp only [go_sem, Nat.reduceBEq]
  cases b with
  | true =>
    try simp only [go_sem, Nat.reduceBEq]
    simp only [ix_nat hi, go_sem, Nat.reduceBEq]
    refine root_ld tyS49 m15.drop.my.rd hxi (by omega) ?_
    try simp only [go_sem, Nat.reduceBEq]
    obtain ⟨y16, my16, back16⟩ := m15.drop.heap
    have hhi := D.cnt.is_held (v := xi.1) (by simp [List.mem_of_getElem? hri])
    refine (sShare lb xi.1 (held_ref hhi) (fun q => by obtain ⟨q1, q2, q3⟩ := held_num hhi q; have := D.small (by omega) xi.1.num.toNat; omega) _ _ _ ah nh bp _ h0 _ my16).mono ?_
    rintro _ h16 ⟨rfl, m16⟩
    have m16 : CurM h0 h16 l p ((.row 5 (w.flatMap rdt), .slice (some ⟨br, 0, none⟩) w.length cr) :: HpB (shareH lb xi.1) ah nh bp bag) := back16 h16 _ ah nh [] m16
    try simp only [go_sem, Nat.reduceBEq]
    obtain ⟨y17, my17, back17⟩ := m16.fst
    refine my_root1 (x := xi) slT27 rfl my17 fun v17 h17 m17 => ?_
    try simp only [go_sem, Nat.reduceBEq]
    refine my_push1 (f := rdt) rdt_len (by decide) slT27 rfl rfl (by decide) m17 (by omega) fun a18 c18 h18 m18 => ?_
    have m18 : CurM h0 h18 l p ((.row 5 ((w ++ [xi]).flatMap rdt), .slice a18 (w ++ [xi]).length c18) :: HpB (shareH lb xi.1) ah nh bp bag) := back17 h18 [_] m18
    try simp only [go_sem, Nat.reduceBEq]
    simp only [wk, go_sem]
    have D2 : DHp (mm + 1) (shareH lb xi.1) ((w ++ [xi]).map (·.1)) := by rw [List.map_append]; exact D.share (by omega) (List.mem_of_getElem? hri)
    exact Again.intro (k, mm + 1, w ++ [xi], .slice a18 (w ++ [xi]).length c18) (by first | omega | (simp only; omega)) ⟨by show mm + 1 + k ≤ 5; omega, by show 1 ≤ (w ++ [xi]).length; rw [List.length_append]; show 1 ≤ w.length + 1; omega, shareH lb xi.1, D2, ah, a18, nh, c18, rfl, m18⟩ (by repeat (first | exact wkF_e | refine wkF_c rfl ?_)) (wkB_c rfl wkB_e) rfl
  | false =>
  try simp only [go_sem, Nat.reduceBEq]
  have hhi := D.cnt.is_held (v := xi.1) (by simp [List.mem_of_getElem? hri])
  refine (l1Once_c hl m15 6 (by decide) (by decide)).mono ?_
  rintro _ h16 ⟨b, rfl, m16⟩
  try simp only [go_sem, Nat.reduceBEq]
  cases b with
  | true =>
    try simp only [go_sem, Nat.reduceBEq]
    by_cases h1 : 1 < w.length
    case neg =>
      simp only [show decide ((1 : Int) < (w.length : Nat)) = false from decide_eq_false (by omega), go_sem, Nat.reduceBEq]
      try simp only [go_sem, Nat.reduceBEq, Nat.reduceAdd, Nat.reduceLeDiff, Nat.reduceEqDiff, Int.reduceEq, not_false_eq_true, Int.reduceToNat]
      by_cases hc : putCode (ldF lb (wR mm) xi.1) ps false (ldF lb (wR mm) xj.1) = 0
      case neg =>
        simp only [decide_eq_false hc, go_sem, Nat.reduceBEq]
        try simp only [go_sem, Nat.reduceBEq, Nat.reduceAdd, Nat.reduceLeDiff, Nat.reduceEqDiff, Int.reduceEq, not_false_eq_true, Int.reduceToNat]
        simp only [wk, go_sem]
        exact Again.intro (k, mm + 1, w, .slice (some ⟨br, 0, none⟩) w.length cr) (by first | omega | (simp only; omega)) ⟨by show mm + 1 + k ≤ 5; omega, hw, lb, D.same, ah, _, nh, cr, rfl, m16.drop⟩ (by repeat (first | exact wkF_e | refine wkF_c rfl ?_)) (wkB_c rfl wkB_e) rfl
      have h0c : ((ldF lb (wR mm) xi.1).put ps false (ldF lb (wR mm) xj.1)).2 = 0 := by
        unfold putCode at hc
        split at hc
        · assumption
        · exact hc
      obtain ⟨g1, g2, g3, g4, g5, g6, g7, g8, g9, g10⟩ := D.go (by omega) (List.mem_of_getElem? hri) (List.mem_of_getElem? hrj) h0c
      have D2 := D.set (by omega) hri (List.mem_of_getElem? hrj) (fun k hk => (hps k hk).1) hpl
      have ej : xj.1.items.length = 0 := by rw [hij]; rfl
      have hl1 := shareH_len lb xj.1
      have hhj := D.cnt.is_held (v := xj.1) (by simp [List.mem_of_getElem? hrj])
      simp only [decide_eq_true hc, go_sem, Nat.reduceBEq]
      simp only [ix_nat hj, go_sem, Nat.reduceBEq]
      refine root_ld tyS49 m16.drop.my.rd hxj (by omega) ?_
      try simp only [go_sem, Nat.reduceBEq]
      obtain ⟨y17, my17, back17⟩ := m16.heap2
      obtain ⟨b1, pa, mb⟩ := my17.part
      refine (sShare lb xj.1 (held_ref hhj) (fun q => by obtain ⟨q1, q2, q3⟩ := held_num hhj q; have := D.small (by omega) xj.1.num.toNat; omega) _ _ _ ah nh bp _ b1 _ mb).mono ?_
      rintro _ h18 ⟨rfl, m18⟩
      try simp only [go_sem, Nat.reduceBEq, Nat.reduceAdd, Nat.reduceLeDiff]
      have WS := sWriteSh (B := 16) (by decide) g1 g2 false g10 g9 ps (fun k hk => (hps k hk).1) g3 g4 (by decide) (by omega) (by omega) g5 g6 g7 g8 (by omega) xi.2 xj.2 _ ah nh bp _ b1 _ pa.rd m18
      rw [ej] at WS
      refine regionD_intro (lb := [109]) (by kernel_rfl) ?_
      simp only [go_sem, Nat.reduceBEq]
      simp only [ix_nat hi, go_sem, Nat.reduceBEq]
      refine root_ld tyS49 m18.drop.drop.drop.rd hxi (by omega) ?_
      try simp only [go_sem, Nat.reduceBEq, Nat.reduceAdd, Nat.reduceLeDiff]
      refine WS.mono ?_
      clear WS
      have hy : (wrH ps (shareH lb xj.1) xi.1 false xj.1).2.items = [] := cnt_items D2.cnt (by rw [set_eq hri]; simp)
      generalize wrH ps (shareH lb xj.1) xi.1 false xj.1 = W at *
      obtain ⟨l9, y9⟩ := W
      rintro _ h19 q19
      obtain ⟨b19, a19, n19, rfl, m19⟩ := q19.root hy
      have m19 : CurM h0 h19 l p ((.row 5 (w.flatMap rdt), .slice (some ⟨br, 0, none⟩) w.length cr) :: HpB l9 a19 n19 bp bag) := back17 h19 _ a19 n19 [] (m19.base pa.ext)
      try simp only [go_sem, Nat.reduceBEq]
      obtain ⟨y20, my20, back20⟩ := m19.fst
      try simp only [ix_nat hi, go_sem, Nat.reduceBEq]
      refine root_st (y := (y9, b19)) tyS49 hxi (by omega) my20 (by omega) fun h20 m20 => ?_
      have m20 : CurM h0 h20 l p ((.row 5 ((w.set i (y9, b19)).flatMap rdt), .slice (some ⟨br, 0, none⟩) w.length cr) :: HpB l9 a19 n19 bp bag) := back20 h20 [_] m20
      try refine ⟨trivial, ?_⟩
      try simp only [go_sem, Nat.reduceBEq]
      simp only [wk, go_sem]
      have ln : (w.set i (y9, b19)).length = w.length := List.length_set
      rw [← ln] at m20
      have D3 : DHp (mm + 1) l9 ((w.set i (y9, b19)).map (·.1)) := by rw [List.map_set]; exact D2
      exact Again.intro (k, mm + 1, w.set i (y9, b19), .slice (some ⟨br, 0, none⟩) w.length cr) (by first | omega | (simp only; omega)) ⟨by show mm + 1 + k ≤ 5; omega, by show 1 ≤ (w.set i (y9, b19)).length; omega, l9, D3, a19, _, n19, cr, by rw [← ln], m20⟩ (by repeat (first | exact wkF_e | refine wkF_c rfl ?_)) (wkB_c rfl wkB_e) rfl
    simp only [show decide ((1 : Int) < (w.length : Nat)) = true from decide_eq_true (by omega), go_sem, Nat.reduceBEq]
    try simp only [go_sem, Nat.reduceBEq, Nat.reduceAdd, Nat.reduceLeDiff, Nat.reduceEqDiff, Int.reduceEq, not_false_eq_true, Int.reduceToNat]
    simp only [ix_nat hi, go_sem, Nat.reduceBEq]
    have m17 := m16.drop
    refine root_ld tyS49 m17.my.rd hxi (by omega) ?_
    try simp only [go_sem, Nat.reduceBEq]
    obtain ⟨y17, my17, back17⟩ := m17.heap
    refine (sDrop lb.length (slotsN lb + 1) (by have := slotsN_bulk lb; omega) lb xi.1 (Nat.lt_succ_self _) (D.cnt.hIn.up (by decide)) (held_ref hhi) _ _ _ ah nh bp _ h0 _ my17).mono ?_
    rintro _ h18 ⟨rfl, m18⟩
    have m18 : CurM h0 h18 l p ((.row 5 (w.flatMap rdt), .slice (some ⟨br, 0, none⟩) w.length cr) :: HpB (dropF (slotsN lb + 1) lb xi.1) ah nh bp bag) := back17 h18 _ ah nh [] m18
    try simp only [go_sem]
    obtain ⟨y19, my19, back19⟩ := m18.fst
    have wsu := wrap_succ (i := i) (by omega)
    refine regionD_intro (lb := []) (by kernel_rfl) ?_
    simp only [go_sem]
    refine my_row0 (by decide) slT27 rfl my19 fun a20 h20 m20 => ?_
    obtain ⟨a2, e2, rs2⟩ := roots_sub m20.rd2 0 i (Nat.zero_le _) (by omega)
    have e2 : slA (some 5) (some ⟨br, 0, none⟩) w.length cr 0 (i : Int) = some (.slice a2 (i - 0) (cr - 0)) := e2
    rw [List.drop_zero, Nat.sub_zero] at rs2
    simp only [e2, go_sem, Nat.reduceBEq]
    refine roots_add (w1 := []) (w2 := w.take i) slT27 rfl rfl (by decide) m20 rs2 (by rw [List.length_take]; show 0 + _ ≤ 100000; omega) fun a21 c21 h21 m21 => ?_
    obtain ⟨a3, e3, rs3⟩ := roots_sub m21.rd2 (i + 1) w.length (by omega) (Nat.le_refl _)
    have e3 : slA (some 5) (some ⟨br, 0, none⟩) w.length cr ((i + 1 : Nat) : Int) (w.length : Nat) = some (.slice a3 (w.length - (i + 1)) (cr - (i + 1))) := e3
    rw [List.take_of_length_le (by rw [List.length_drop]; exact Nat.le_refl _)] at rs3
    simp only [wsu, e3, go_sem, Nat.reduceBEq]
    refine roots_add (w1 := [] ++ w.take i) (w2 := w.drop (i + 1)) slT27 rfl rfl (by decide) m21 rs3 (by rw [List.nil_append, List.length_take, List.length_drop]; omega) fun a22 c22 h22 m22 => ?_
    rw [List.nil_append] at m22 ⊢
    have m23 : CurM h0 h22 l p ((.row 5 ((w.take i ++ w.drop (i + 1)).flatMap rdt), .slice a22 (w.take i ++ w.drop (i + 1)).length c22) :: HpB (dropF (slotsN lb + 1) lb xi.1) ah nh bp bag) := back19 h22 [_] m22.swap.drop
    try simp only [go_sem, Nat.reduceBEq]
    simp only [wk, go_sem]
    have D2 : DHp (mm + 1) (dropF (slotsN lb + 1) lb xi.1) ((w.take i ++ w.drop (i + 1)).map (·.1)) := by rw [List.map_append, List.map_take, List.map_drop]; exact D.drop hri
    exact Again.intro (k, mm + 1, w.take i ++ w.drop (i + 1), .slice a22 (w.take i ++ w.drop (i + 1)).length c22) (by first | omega | (simp only; omega)) ⟨by show mm + 1 + k ≤ 5; omega, by show 1 ≤ (w.take i ++ w.drop (i + 1)).length; rw [List.length_append, List.length_take, List.length_drop]; omega, _, D2, ah, a22, nh, c22, rfl, m23⟩ (by repeat (first | exact wkF_e | refine wkF_c rfl ?_)) (wkB_c rfl wkB_e) rfl
  | false =>
  try simp only [go_sem, Nat.reduceBEq]
  by_cases hc : putCode (ldF lb (wR mm) xi.1) ps false (ldF lb (wR mm) xj.1) = 0
  case neg =>
    simp only [decide_eq_false hc, go_sem, Nat.reduceBEq]
    try simp only [go_sem, Nat.reduceBEq, Nat.reduceAdd, Nat.reduceLeDiff, Nat.reduceEqDiff, Int.reduceEq, not_false_eq_true, Int.reduceToNat]
    simp only [wk, go_sem]
    exact Again.intro (k, mm + 1, w, .slice (some ⟨br, 0, none⟩) w.length cr) (by first | omega | (simp only; omega)) ⟨by show mm + 1 + k ≤ 5; omega, hw, lb, D.same, ah, _, nh, cr, rfl, m16.drop⟩ (by repeat (first | exact wkF_e | refine wkF_c rfl ?_)) (wkB_c rfl wkB_e) rfl
  have h0c : ((ldF lb (wR mm) xi.1).put ps false (ldF lb (wR mm) xj.1)).2 = 0 := by
    unfold putCode at hc
    split at hc
    · assumption
    · exact hc
  obtain ⟨g1, g2, g3, g4, g5, g6, g7, g8, g9, g10⟩ := D.go (by omega) (List.mem_of_getElem? hri) (List.mem_of_getElem? hrj) h0c
  have D2 := D.set (by omega) hri (List.mem_of_getElem? hrj) (fun k hk => (hps k hk).1) hpl
  have ej : xj.1.items.length = 0 := by rw [hij]; rfl
  have hl1 := shareH_len lb xj.1
  have hhj := D.cnt.is_held (v := xj.1) (by simp [List.mem_of_getElem? hrj])
  simp only [decide_eq_true hc, go_sem, Nat.reduceBEq]
  simp only [ix_nat hj, go_sem, Nat.reduceBEq]
  refine root_ld tyS49 m16.drop.my.rd hxj (by omega) ?_
  try simp only [go_sem, Nat.reduceBEq]
  obtain ⟨y17, my17, back17⟩ := m16.heap2
  obtain ⟨b1, pa, mb⟩ := my17.part
  refine (sShare lb xj.1 (held_ref hhj) (fun q => by obtain ⟨q1, q2, q3⟩ := held_num hhj q; have := D.small (by omega) xj.1.num.toNat; omega) _ _ _ ah nh bp _ b1 _ mb).mono ?_
  rintro _ h18 ⟨rfl, m18⟩
  try simp only [go_sem, Nat.reduceBEq, Nat.reduceAdd, Nat.reduceLeDiff]
  have WS := sWriteSh (B := 16) (by decide) g1 g2 false g10 g9 ps (fun k hk => (hps k hk).1) g3 g4 (by decide) (by omega) (by omega) g5 g6 g7 g8 (by omega) xi.2 xj.2 _ ah nh bp _ b1 _ pa.rd m18
  rw [ej] at WS
  refine regionD_intro (lb := [109]) (by kernel_rfl) ?_
  simp only [go_sem, Nat.reduceBEq]
  simp only [ix_nat hi, go_sem, Nat.reduceBEq]
  refine root_ld tyS49 m18.drop.drop.drop.rd hxi (by omega) ?_
  try simp only [go_sem, Nat.reduceBEq, Nat.reduceAdd, Nat.reduceLeDiff]
  refine WS.mono ?_
  clear WS
  have hy : (wrH ps (shareH lb xj.1) xi.1 false xj.1).2.items = [] := cnt_items D2.cnt (by rw [set_eq hri]; simp)
  generalize wrH ps (shareH lb xj.1) xi.1 false xj.1 = W at *
  obtain ⟨l9, y9⟩ := W
  rintro _ h19 q19
  obtain ⟨b19, a19, n19, rfl, m19⟩ := q19.root hy
  have m19 : CurM h0 h19 l p ((.row 5 (w.flatMap rdt), .slice (some ⟨br, 0, none⟩) w.length cr) :: HpB l9 a19 n19 bp bag) := back17 h19 _ a19 n19 [] (m19.base pa.ext)
  try simp only [go_sem, Nat.reduceBEq]
  obtain ⟨y20, my20, back20⟩ := m19.fst
  try simp only [ix_nat hi, go_sem, Nat.reduceBEq]
  refine root_st (y := (y9, b19)) tyS49 hxi (by omega) my20 (by omega) fun h20 m20 => ?_
  have m20 : CurM h0 h20 l p ((.row 5 ((w.set i (y9, b19)).flatMap rdt), .slice (some ⟨br, 0, none⟩) w.length cr) :: HpB l9 a19 n19 bp bag) := back20 h20 [_] m20
  try refine ⟨trivial, ?_⟩
  try simp only [go_sem, Nat.reduceBEq]
  simp only [wk, go_sem]
  have ln : (w.set i (y9, b19)).length = w.length := List.length_set
  rw [← ln] at m20
  have D3 : DHp (mm + 1) l9 ((w.set i (y9, b19)).map (·.1)) := by rw [List.map_set]; exact D2
  exact Again.intro (k, mm + 1, w.set i (y9, b19), .slice (some ⟨br, 0, none⟩) w.length cr) (by first | omega | (simp only; omega)) ⟨by show mm + 1 + k ≤ 5; omega, by show 1 ≤ (w.set i (y9, b19)).length; omega, l9, D3, a19, _, n19, cr, by rw [← ln], m20⟩ (by repeat (first | exact wkF_e | refine wkF_c rfl ?_)) (wkB_c rfl wkB_e) rfl
end
end Go.Proofs.YtccjkhnefiikaaaGreatDoor
/-! Tables as they are drawn. -/
namespace Go.Sx
open Go
structure drT (n : Nat) (t : Tb) : Prop where
  ch : t.ch
  heads : t.heads.length ≤ 1024
  len : t.slots.length ≤ n
  small : ∀ s ∈ t.slots, s.val.bulk ≤ 16
theorem drT.up {n m : Nat} {t : Tb} (h : drT n t) (k : n ≤ m) : drT m t := ⟨h.ch, h.heads, Nat.le_trans h.len k, h.small⟩
theorem drT.nil : drT 0 tb0 := ⟨tb0_wf.ch, Nat.zero_le _, Nat.zero_le _, fun s hs => by cases hs⟩
theorem drT.live {n : Nat} {t : Tb} (h : drT n t) : liveN t.slots ≤ n := Nat.le_trans (liveN_le _) h.len
theorem drT.put {n : Nat} {t : Tb} (h : drT n t) (hn : n < 1024) {k : Ky} (hk : keyOk k = true) {x : V} (hx : x.bulk ≤ 16) : drT (n + 1) (t.put k x) := by
  have hl : t.find k = none → liveN t.slots < 1024 := fun _ => Nat.lt_of_le_of_lt h.live hn
  have e : (t.put k x).slots.length ≤ t.slots.length + 1 ∧ ∀ u ∈ (t.put k x).slots, u.val = x ∨ ∃ s ∈ t.slots, u.val = s.val := by
    cases hf : t.find k with
    | none => exact put_new_few hf x
    | some j => exact ⟨by rw [(put_old_few hf x).1]; omega, (put_old_few hf x).2⟩
  refine ⟨h.ch.put x hk hl, put_heads h.ch h.heads k x hl, Nat.le_trans e.1 (Nat.succ_le_succ h.len), fun u hu => ?_⟩
  rcases e.2 u hu with q | ⟨s, hs, q⟩
  · rw [q]; exact hx
  · rw [q]; exact h.small s hs
theorem drT.set {n : Nat} {t : Tb} (h : drT n t) (hn : n < 1024) {k : Ky} (hk : keyOk k = true) {x : V} (hx : x.bulk ≤ 16) : drT (n + 1) (t.set k x) := by
  unfold Tb.set
  split
  · exact h.put hn hk hx
  · exact h.up (Nat.le_succ _)
theorem drT.drop {n : Nat} {t : Tb} (h : drT n t) (k : Ky) : drT n (t.drop k) := by
  unfold Tb.drop
  cases hf : t.find k with
  | none => exact h
  | some i =>
    obtain ⟨s, hs, hl⟩ := Tb.find_live hf
    have hi := (List.getElem?_eq_some_iff.1 hs).1
    have c := h.ch.kill hs hl
    show drT n (t.kill i)
    rw [Tb.kill_eq hs] at c ⊢
    refine ⟨c, h.heads, ?_, fun u hu => ?_⟩
    · show (t.slots.take i ++ _ :: t.slots.drop (i + 1)).length ≤ n
      rw [List.length_append, List.length_take, List.length_cons, List.length_drop]
      have := h.len
      omega
    · rcases List.mem_append.1 hu with hu | hu
      · exact h.small u (List.mem_of_mem_take hu)
      · rcases List.mem_cons.1 hu with rfl | hu
        · exact Nat.zero_le _
        · exact h.small u (List.mem_of_mem_drop hu)
/-- a table that holds little -/
structure liteT (t : Tb) : Prop where
  heads : t.heads.length ≤ 1024
  len : t.slots.length ≤ 20
  small : ∀ s ∈ t.slots, Sl.bulk s ≤ 416
theorem drT.lite {n : Nat} {t : Tb} (h : drT n t) (hn : n ≤ 20) : liteT t := ⟨h.heads, Nat.le_trans h.len hn, fun s hs => by
  have h2 := h.small s hs
  obtain ⟨k, hk⟩ := List.getElem?_of_mem hs
  have h3 : s.key.str.size ≤ 400 := by
    have := (h.ch.keys k s hk).1
    unfold keyOk at this
    cases ht : s.key.text with
    | true => rw [ht] at this; simp at this; omega
    | false => rw [ht] at this; simp at this; rw [this.1]; exact Nat.zero_le _
  have e : Sl.bulk s = s.key.str.size + s.val.bulk := rfl
  omega⟩
theorem liteT.bulk {t : Tb} (h : liteT t) : t.bulk ≤ 10000 := by
  have h1 : szG Sl.bulk t.slots ≤ t.slots.length * (1 + 416) := szG_le h.small
  have h2 : t.slots.length * (1 + 416) ≤ 20 * (1 + 416) := Nat.mul_le_mul_right _ h.len
  have h3 := h.heads
  unfold Tb.bulk
  omega
theorem liteT.same {t u : Tb} (h : liteT t) (h1 : u.heads = t.heads) (h2 : u.slots = t.slots) : liteT u := ⟨by rw [h1]; exact h.heads, by rw [h2]; exact h.len, by rw [h2]; exact h.small⟩
theorem liteT.slot {t : Tb} (h : liteT t) {i : Nat} {s : Sl} (hs : t.slots[i]? = some s) (u : Sl) (hu : Sl.bulk u ≤ 416) : liteT ⟨t.hashed, t.heads, t.slots.take i ++ u :: t.slots.drop (i + 1), t.next, t.count⟩ := by
  have hi := (List.getElem?_eq_some_iff.1 hs).1
  refine ⟨h.heads, ?_, fun w hw => ?_⟩
  · show (t.slots.take i ++ _ :: t.slots.drop (i + 1)).length ≤ _
    rw [List.length_append, List.length_take, List.length_cons, List.length_drop]
    have := h.len
    omega
  · rcases List.mem_append.1 hw with hw | hw
    · exact h.small w (List.mem_of_mem_take hw)
    · rcases List.mem_cons.1 hw with rfl | hw
      · exact hu
      · exact h.small w (List.mem_of_mem_drop hw)
end Go.Sx
namespace Go.Proofs.YtccjkhnefiikaaaGreatDoor
set_option maxRecDepth 8000
open Go Go.Sx
section
variable {h0 h : Hp} {bag : Bag} {l : List UInt8} {p : Nat}
/-- a table's memory in the bag -/
def TabM (h0 h' : Hp) (l : List UInt8) (p : Nat) (t : Tb) (hs ss : Value) (bag : Bag) : Prop :=
  ∃ (a1 a2 : Option Addr) (c1 c2 : Nat), hs = .slice a1 t.heads.length c1 ∧ ss = .slice a2 t.slots.length c2 ∧ CurM h0 h' l p ((.row 1 (t.heads.flatMap idt), .slice a1 t.heads.length c1) :: (.row 10 (t.slots.flatMap Sl.dt), .slice a2 t.slots.length c2) :: bag)
/-- A draw of a table. -/
def TabP (Q : Tb → Prop) (h0 : Hp) (l : List UInt8) (p : Nat) (bag : Bag) (u : Value) (h' : Hp) : Prop := ∃ (t : Tb) (hs ss : Value), u = .agg #[.bool t.hashed, hs, ss, .int .i64 t.next, .int .i64 t.count] ∧ Q t ∧ TabM h0 h' l p t hs ss bag
def InTb (h0 : Hp) (l : List UInt8) (p : Nat) (bag : Bag) (x : Nat × Tb × Value × Value) (h' : Hp) : Prop :=
  (∃ n, n + x.1 ≤ 20 ∧ drT n x.2.1) ∧ TabM h0 h' l p x.2.1 x.2.2.1 x.2.2.2 bag
set_option maxHeartbeats 1600000 in
theorem l7Draw_c (hl : l.length ≤ 1048576) (m : CurM h0 h l p bag) : ACalls Tryz.prog 46 #[pv p] h (TabP (drT 20) h0 l p bag) := by
  (refine enter Tryz.func46 rfl rfl (by kernel_rfl) [] ?_; simp only [go_sem, Nat.reduceBEq, Nat.reduceAdd, Nat.reduceLeDiff])
  refine (l1Below_c hl m 20 (by decide) (by decide)).mono ?_
  rintro _ h1 ⟨x, rfl, x0, x1, m1⟩
  obtain ⟨k0, rfl⟩ := Int.eq_ofNat_of_zero_le x0
  try simp only [go_sem, Nat.reduceBEq]
  have m1 : CurM h0 h1 l p ((.row 1 [], .slice none 0 0) :: (.row 10 [], .slice none 0 0) :: bag) := (m1.upd fun d m => (m.nilrow).swap).upd fun d m => (m.nilrow).swap
  refine aloop (ι := Nat × Tb × Value × Value) (fun x => [(4, .val (.int .i64 (x.1 : Nat))), (3, .box 3 0), (2, .box 2 0), (0, .val (pv p))])
    (fun x => [(3, [.bool x.2.1.hashed, x.2.2.1, x.2.2.2, .int .i64 x.2.1.next, .int .i64 x.2.1.count]), (2, [.bool false, .slice none 0 0, .slice none 0 0, .int .i64 0, .int .i64 0])])
    (InTb h0 l p bag) (fun x => x.1) (k0, tb0, .slice none 0 0, .slice none 0 0) ⟨⟨0, (by show 0 + k0 ≤ 20; omega), drT.nil⟩, none, none, 0, 0, rfl, rfl, m1⟩ (by repeat (first | exact wkF_e | refine wkF_c rfl ?_)) (wkB_c rfl (wkB_c rfl wkB_e)) rfl ?_
  rintro ⟨kk, t, hs, ss⟩ h2 ⟨⟨n, hn0, T0⟩, a1, a2, c1, c2, eh, es, m20⟩
  obtain rfl : hs = .slice a1 t.heads.length c1 := eh
  obtain rfl : ss = .slice a2 t.slots.length c2 := es
  try simp only [go_sem, Nat.reduceBEq]
  cases kk with
  | zero =>
    simp only [show decide (0 < ((0 : Nat) : Int)) = false from rfl, go_sem, Nat.reduceBEq, Nat.reduceAdd, Nat.reduceLeDiff]
    have hn : n + 0 ≤ 20 := hn0
    exact ⟨t, _, _, rfl, drT.up T0 (by omega), a1, a2, c1, c2, rfl, rfl, m20⟩
  | succ k =>
  have hn : n + (k + 1) ≤ 20 := hn0
  have T : drT n t := T0
  have m2 : CurM h0 h2 l p ((.row 1 (t.heads.flatMap idt), .slice a1 t.heads.length c1) :: (.row 10 (t.slots.flatMap Sl.dt), .slice a2 t.slots.length c2) :: bag) := m20
  have wk : IntKind.i64.wrap (((k + 1 : Nat) : Int) - 1) = ((k : Nat) : Int) := by rw [IntWalk.i64_in _ (by omega)]; omega
  simp only [show decide (0 < ((k + 1 : Nat) : Int)) = true from decide_eq_true (by omega), go_sem, Nat.reduceBEq]
  refine (l1Below_c hl m2 5 (by decide) (by decide)).mono ?_
  rintro _ h3 ⟨x, rfl, y0, y1, m3⟩
  try simp only [go_sem, Nat.reduceBEq]
  by_cases q0 : x = 0
  · simp only [decide_eq_true q0, go_sem]
    refine regionD_intro (lb := [29]) (by kernel_rfl) ?_
    simp only [go_sem, Nat.reduceBEq, Nat.reduceAdd, Nat.reduceLeDiff]
    refine (l5Key_d hl m3).mono ?_
    rintro _ h4 ⟨key, rfl, hkk, hkey, hks, m4⟩
    try simp only [go_sem, Nat.reduceBEq]
    obtain ⟨y4, my4, back4⟩ := m4.two
    refine (sTabDrop t T.ch key (by omega) a1 a2 c1 c2 h0 _ _ my4).mono ?_
    rintro _ h5 ⟨a5, c5, a6, c6, rfl, m5⟩
    have m5 := back4 h5 [_, _] m5
    try simp only [go_sem, Nat.reduceBEq, Nat.reduceAdd, Nat.reduceLeDiff]
    simp only [wk, go_sem]
    exact Again.intro (k, t.drop key, .slice a5 (t.drop key).heads.length c5, .slice a6 (t.drop key).slots.length c6) (by first | omega | (simp only; omega)) ⟨⟨n, (by show n + k ≤ 20; omega), T.drop key⟩, a5, a6, c5, c6, rfl, rfl, m5⟩ (by repeat (first | exact wkF_e | refine wkF_c rfl ?_)) (wkB_c rfl (wkB_c rfl wkB_e)) rfl
  simp only [decide_eq_false q0, go_sem, Nat.reduceBEq]
  by_cases q1 : x = 1
  · simp only [decide_eq_true q1, go_sem]
    refine regionD_intro (lb := [36]) (by kernel_rfl) ?_
    simp only [go_sem, Nat.reduceBEq, Nat.reduceAdd, Nat.reduceLeDiff]
    refine (l5Key_d hl m3).mono ?_
    rintro _ h4 ⟨key, rfl, hkk, hkey, hks, m4⟩
    try simp only [go_sem, Nat.reduceBEq]
    refine (l5Scalar_d hl m4).mono ?_
    rintro _ h5 ⟨v, a, c, rfl, hd0, hv, hb, m5⟩
    have hb : v.bulk ≤ 16 := hb
    try simp only [go_sem, Nat.reduceBEq]
    obtain ⟨y5, my5, back5⟩ := m5.three
    refine (sSet t T.ch key hkk v a a1 a2 c c1 c2 h0 _ _ my5).mono ?_
    rintro _ h6 ⟨_, rfl, a6, c6, a7, c7, rfl, m6⟩
    have m6 := back5 h6 [_, _] m6
    try simp only [go_sem, Nat.reduceBEq, Nat.reduceAdd, Nat.reduceLeDiff]
    simp only [wk, go_sem]
    exact Again.intro (k, t.set key v, .slice a6 (t.set key v).heads.length c6, .slice a7 (t.set key v).slots.length c7) (by first | omega | (simp only; omega)) ⟨⟨n + 1, (by show n + 1 + k ≤ 20; omega), T.set (by omega) hkk hb⟩, a6, a7, c6, c7, rfl, rfl, m6⟩ (by repeat (first | exact wkF_e | refine wkF_c rfl ?_)) (wkB_c rfl (wkB_c rfl wkB_e)) rfl
  simp only [decide_eq_false q1, go_sem, Nat.reduceBEq]
  by_cases q2 : t.next ≤ 1000000000
  case neg =>
    simp only [decide_eq_false q2, go_sem, Nat.reduceBEq]
    try simp only [go_sem, Nat.reduceBEq, Nat.reduceAdd, Nat.reduceLeDiff, Nat.reduceEqDiff, Int.reduceEq, not_false_eq_true, Int.reduceToNat]
    simp only [wk, go_sem]
    exact Again.intro (k, t, .slice a1 t.heads.length c1, .slice a2 t.slots.length c2) (by first | omega | (simp only; omega)) ⟨⟨n, (by show n + k ≤ 20; omega), T⟩, a1, a2, c1, c2, rfl, rfl, m3⟩ (by repeat (first | exact wkF_e | refine wkF_c rfl ?_)) (wkB_c rfl (wkB_c rfl wkB_e)) rfl
  simp only [decide_eq_true q2, go_sem]
  have hkk : keyOk ⟨false, t.next, ⟨#[]⟩⟩ = true := push_key T.ch.next.1 q2
  refine regionD_intro (lb := [18, 20]) (by kernel_rfl) ?_
  simp only [go_sem, Nat.reduceBEq, Nat.reduceAdd, Nat.reduceLeDiff]
  refine (l5Scalar_d hl m3).mono ?_
  rintro _ h5 ⟨v, a, c, rfl, hd0, hv, hb, m5⟩
  have hb : v.bulk ≤ 16 := hb
  try simp only [go_sem, Nat.reduceBEq]
  obtain ⟨y5, my5, back5⟩ := m5.three
  refine (sSet t T.ch ⟨false, t.next, ⟨#[]⟩⟩ hkk v a a1 a2 c c1 c2 h0 _ _ my5).mono ?_
  rintro _ h6 ⟨_, rfl, a6, c6, a7, c7, rfl, m6⟩
  have m6 := back5 h6 [_, _] m6
  try simp only [go_sem, Nat.reduceBEq, Nat.reduceAdd, Nat.reduceLeDiff]
  simp only [wk, go_sem]
  exact Again.intro (k, t.set ⟨false, t.next, ⟨#[]⟩⟩ v, .slice a6 (t.set ⟨false, t.next, ⟨#[]⟩⟩ v).heads.length c6, .slice a7 (t.set ⟨false, t.next, ⟨#[]⟩⟩ v).slots.length c7) (by first | omega | (simp only; omega)) ⟨⟨n + 1, (by show n + 1 + k ≤ 20; omega), T.set (by omega) hkk hb⟩, a6, a7, c6, c7, rfl, rfl, m6⟩ (by repeat (first | exact wkF_e | refine wkF_c rfl ?_)) (wkB_c rfl (wkB_c rfl wkB_e)) rfl
set_option maxHeartbeats 1600000 in
theorem l7Any_c (hl : l.length ≤ 1048576) (m : CurM h0 h l p bag) : ACalls Tryz.prog 25 #[pv p] h (TabP liteT h0 l p bag) := by
  (refine enter Tryz.func25 rfl rfl (by kernel_rfl) [] ?_; simp only [go_sem, Nat.reduceBEq])
  refine (l7Draw_c hl m).mono ?_
  rintro _ h1 ⟨t, hs, ss, rfl, T, a1, a2, c1, c2, rfl, rfl, m1⟩
  have Q := T.lite (Nat.le_refl _)
  have Tl := T.len
  try simp only [go_sem, Nat.reduceBEq, Nat.reduceAdd, Nat.reduceLeDiff]
  refine (l1Below_c hl m1 14 (by decide) (by decide)).mono ?_
  rintro _ h2 ⟨x, rfl, x0, x1, m2⟩
  try simp only [go_sem, Nat.reduceBEq]
  by_cases q0 : x = 0
  · simp only [decide_eq_true q0, go_sem, Nat.reduceBEq]
    refine (l1Odd_c hl m2).mono ?_
    rintro _ h3 ⟨n, rfl, hn, m3⟩
    try simp only [go_sem, Nat.reduceBEq, Nat.reduceAdd, Nat.reduceLeDiff]
    exact ⟨⟨t.hashed, t.heads, t.slots, n, t.count⟩, _, _, rfl, Q.same rfl rfl, a1, a2, c1, c2, rfl, rfl, m3⟩
  simp only [decide_eq_false q0, go_sem, Nat.reduceBEq]
  by_cases q1 : x = 1
  · simp only [decide_eq_true q1, go_sem, Nat.reduceBEq, Nat.reduceAdd, Nat.reduceLeDiff]
    try simp only [go_sem, Nat.reduceBEq, Nat.reduceAdd, Nat.reduceLeDiff, Nat.reduceEqDiff, Int.reduceEq, not_false_eq_true, Int.reduceToNat]
    exact ⟨⟨t.hashed, t.heads, t.slots, t.next, IntKind.i64.wrap (t.count + 1)⟩, _, _, rfl, Q.same rfl rfl, a1, a2, c1, c2, rfl, rfl, m2⟩
  simp only [decide_eq_false q1, go_sem, Nat.reduceBEq]
  by_cases q2 : x = 2
  · simp only [decide_eq_true q2, go_sem, Nat.reduceBEq, Nat.reduceAdd, Nat.reduceLeDiff]
    try simp only [go_sem, Nat.reduceBEq, Nat.reduceAdd, Nat.reduceLeDiff, Nat.reduceEqDiff, Int.reduceEq, not_false_eq_true, Int.reduceToNat]
    exact ⟨⟨!t.hashed, t.heads, t.slots, t.next, t.count⟩, _, _, rfl, Q.same rfl rfl, a1, a2, c1, c2, rfl, rfl, m2⟩
  simp only [decide_eq_false q2, go_sem, Nat.reduceBEq]
  by_cases q3 : x = 3
  · simp only [decide_eq_true q3, go_sem, Nat.reduceBEq]
    try simp only [go_sem, Nat.reduceBEq, Nat.reduceAdd, Nat.reduceLeDiff, Nat.reduceEqDiff, Int.reduceEq, not_false_eq_true, Int.reduceToNat]
    by_cases hz : 0 < t.slots.length
    case neg =>
      simp only [show decide ((0 : Int) < (t.slots.length : Nat)) = false from decide_eq_false (by omega), go_sem, Nat.reduceBEq, Nat.reduceAdd, Nat.reduceLeDiff]
      try simp only [go_sem, Nat.reduceBEq, Nat.reduceAdd, Nat.reduceLeDiff, Nat.reduceEqDiff, Int.reduceEq, not_false_eq_true, Int.reduceToNat]
      exact ⟨t, _, _, rfl, Q, a1, a2, c1, c2, rfl, rfl, m2⟩
    simp only [show decide ((0 : Int) < (t.slots.length : Nat)) = true from decide_eq_true (by omega), go_sem]
    obtain ⟨b, _, e⟩ := m2.drop.row0 hz (fm_len Sl.dt_len _)
    cases e
    refine regionD_intro (lb := [32, 35]) (by kernel_rfl) ?_
    simp only [go_sem, Nat.reduceBEq]
    refine (l1Below_c hl m2 (t.slots.length : Nat) (by omega) (by omega)).mono ?_
    rintro _ h3 ⟨i, rfl, i0, i1, m3⟩
    obtain ⟨i, rfl⟩ := Int.eq_ofNat_of_zero_le i0
    have hi : i < t.slots.length := by omega
    obtain ⟨s, hs, hm⟩ := get_lt hi
    try simp only [go_sem, Nat.reduceBEq]
    refine (l1Below_c hl m3 5 (by decide) (by decide)).mono ?_
    rintro _ h4 ⟨y, rfl, y0, y1, m4⟩
    try simp only [go_sem, Nat.reduceBEq]
    simp only [ix_nat hi, go_sem, Nat.reduceBEq, Nat.reduceAdd]
    obtain ⟨z5, my5, back5⟩ := m4.two
    refine slot_link hs tyS3 my5.swap hz (by omega) fun h6 m6 => ?_
    have m6 := back5 h6 [_, _] m6.swap
    try refine ⟨trivial, ?_⟩
    try simp only [go_sem, Nat.reduceBEq, Nat.reduceAdd, Nat.reduceLeDiff]
    have ln : (t.slots.take i ++ ⟨s.key, s.val, s.live, IntKind.i64.wrap (y - 1)⟩ :: t.slots.drop (i + 1)).length = t.slots.length := by
      rw [List.length_append, List.length_take, List.length_cons, List.length_drop]; omega
    rw [← ln] at m6
    exact ⟨⟨t.hashed, t.heads, t.slots.take i ++ ⟨s.key, s.val, s.live, IntKind.i64.wrap (y - 1)⟩ :: t.slots.drop (i + 1), t.next, t.count⟩, _, _, rfl, Q.slot hs _ (Q.small s hm), a1, _, c1, c2, rfl, by rw [← ln], m6⟩
  simp only [decide_eq_false q3, go_sem, Nat.reduceBEq]
  by_cases q4 : x = 4
  case neg =>
    simp only [decide_eq_false q4, go_sem, Nat.reduceBEq, Nat.reduceAdd, Nat.reduceLeDiff]
    try simp only [go_sem, Nat.reduceBEq, Nat.reduceAdd, Nat.reduceLeDiff, Nat.reduceEqDiff, Int.reduceEq, not_false_eq_true, Int.reduceToNat]
    exact ⟨t, _, _, rfl, Q, a1, a2, c1, c2, rfl, rfl, m2⟩
  simp only [decide_eq_true q4, go_sem, Nat.reduceBEq]
  try simp only [go_sem, Nat.reduceBEq, Nat.reduceAdd, Nat.reduceLeDiff, Nat.reduceEqDiff, Int.reduceEq, not_false_eq_true, Int.reduceToNat]
  by_cases hz : 0 < t.slots.length
  case neg =>
    simp only [show decide ((0 : Int) < (t.slots.length : Nat)) = false from decide_eq_false (by omega), go_sem, Nat.reduceBEq, Nat.reduceAdd, Nat.reduceLeDiff]
    try simp only [go_sem, Nat.reduceBEq, Nat.reduceAdd, Nat.reduceLeDiff, Nat.reduceEqDiff, Int.reduceEq, not_false_eq_true, Int.reduceToNat]
    exact ⟨t, _, _, rfl, Q, a1, a2, c1, c2, rfl, rfl, m2⟩
  simp only [show decide ((0 : Int) < (t.slots.length : Nat)) = true from decide_eq_true (by omega), go_sem]
  obtain ⟨b, _, e⟩ := m2.drop.row0 hz (fm_len Sl.dt_len _)
  cases e
  refine regionD_intro (lb := [50, 53]) (by kernel_rfl) ?_
  simp only [go_sem, Nat.reduceBEq]
  refine (l1Below_c hl m2 (t.slots.length : Nat) (by omega) (by omega)).mono ?_
  rintro _ h3 ⟨i, rfl, i0, i1, m3⟩
  obtain ⟨i, rfl⟩ := Int.eq_ofNat_of_zero_le i0
  have hi : i < t.slots.length := by omega
  obtain ⟨s, hs, hm⟩ := get_lt hi
  try simp only [go_sem, Nat.reduceBEq]
  refine (l5Key_d hl m3).mono ?_
  rintro _ h4 ⟨key, rfl, hkk, hkey, hks, m4⟩
  try simp only [go_sem, Nat.reduceBEq]
  simp only [ix_nat hi, go_sem, Nat.reduceBEq]
  obtain ⟨z5, my5, back5⟩ := m4.two
  refine slot_key hs tyS57 my5.swap hz (by omega) fun h6 m6 => ?_
  have m6 := back5 h6 [_, _] m6.swap
  try refine ⟨trivial, ?_⟩
  try simp only [go_sem, Nat.reduceBEq, Nat.reduceAdd, Nat.reduceLeDiff]
  have ln : (t.slots.take i ++ ⟨key, s.val, s.live, s.link⟩ :: t.slots.drop (i + 1)).length = t.slots.length := by
    rw [List.length_append, List.length_take, List.length_cons, List.length_drop]; omega
  rw [← ln] at m6
  have vb := T.small s hm
  exact ⟨⟨t.hashed, t.heads, t.slots.take i ++ ⟨key, s.val, s.live, s.link⟩ :: t.slots.drop (i + 1), t.next, t.count⟩, _, _, rfl, Q.slot hs _ (by show key.str.size + s.val.bulk ≤ 416; omega), a1, _, c1, c2, rfl, by rw [← ln], m6⟩
end
end Go.Proofs.YtccjkhnefiikaaaGreatDoor
namespace Go.Proofs.YtccjkhnefiikaaaGreatDoor
set_option maxRecDepth 8000
open Go Go.Sx
section
variable {h0 h : Hp} {bag : Bag} {l : List UInt8} {p : Nat}
/-- A draw of a heap and of roots. -/
def HeapQ (h0 : Hp) (l : List UInt8) (p : Nat) (bag : Bag) (u : Value) (h' : Hp) : Prop := ∃ (lb : List Bk) (w : List (V × Option Addr)) (ah ar : Option Addr) (nh cr : Nat), u = .tuple #[.agg #[.slice ah lb.length nh], .slice ar w.length cr] ∧ szG Bk.bulk lb ≤ 1000000 ∧ szG V.bulk (w.map (·.1)) ≤ 200 ∧ w.length ≤ 9 ∧ (∀ x ∈ w, x.1.items = []) ∧ CurM h0 h' l p ((.row 5 (w.flatMap rdt), .slice ar w.length cr) :: (.row 6 (lb.flatMap Bk.dt), .slice ah lb.length nh) :: bag)
set_option maxHeartbeats 1600000 in
theorem l13Any_c (hl : l.length ≤ 1048576) (m : CurM h0 h l p bag) : ACalls Tryz.prog 12 #[pv p] h (HeapQ h0 l p bag) := by
  have lo := i64_lo
  have hi := i64_hi
  (refine enter Tryz.func12 rfl rfl (by kernel_rfl) [] ?_; simp only [go_sem, Nat.reduceBEq])
  refine (l13Draw_c hl m).mono ?_
  rintro _ h1 ⟨lb, w, mm, ah, ar, nh, cr, rfl, hm5, hw, D, m1⟩
  obtain ⟨Ds, Dr⟩ := D.size hm5
  have Dl := D.len
  have Dw := D.rl
  rw [List.length_map] at Dw
  have Di : ∀ x ∈ w, x.1.items = [] := fun x hx => cnt_items D.cnt (List.mem_map.2 ⟨x, hx, rfl⟩)
  try simp only [go_sem, Nat.reduceBEq, Nat.reduceLeDiff]
  by_cases hz : 0 < lb.length
  case neg =>
    simp only [show decide ((0 : Int) < (lb.length : Nat)) = false from decide_eq_false (by omega), go_sem, Nat.reduceBEq, Nat.reduceLeDiff]
    try simp only [go_sem, Nat.reduceBEq, Nat.reduceAdd, Nat.reduceLeDiff, Nat.reduceEqDiff, Int.reduceEq, not_false_eq_true, Int.reduceToNat]
    exact ⟨lb, w, ah, ar, nh, cr, rfl, by omega, Dr, by omega, Di, m1⟩
  simp only [show decide ((0 : Int) < (lb.length : Nat)) = true from decide_eq_true (by omega), go_sem, Nat.reduceBEq]
  obtain ⟨bh, _, e⟩ := m1.drop.row0 hz (fm_len Bk.dt_len _)
  cases e
  refine (l1Below_c hl m1 (lb.length : Nat) (by omega) (by omega)).mono ?_
  rintro _ h2 ⟨b, rfl, b0, b1, m2⟩
  obtain ⟨b, rfl⟩ := Int.eq_ofNat_of_zero_le b0
  have hb : b < lb.length := by omega
  have hbb := blk_bulk hb
  try simp only [go_sem, Nat.reduceBEq]
  refine (l1Below_c hl m2 12 (by decide) (by decide)).mono ?_
  rintro _ h3 ⟨x, rfl, x0, x1, m3⟩
  try simp only [go_sem, Nat.reduceBEq]
  by_cases q0 : x = 0
  · simp only [decide_eq_true q0, go_sem]
    refine regionD_intro (lb := [26]) (by kernel_rfl) ?_
    simp only [go_sem, Nat.reduceBEq]
    refine cur_ints [0, -1, 2, 1000000000000, 1000000000001] slT34 rfl rfl rfl (by decide) (by decide) m3 fun v4 h4 m4 => ?_
    try simp only [go_sem, Nat.reduceBEq]
    refine (l1Int_c hl m4 (by decide) (by decide)).mono ?_
    rintro _ h5 ⟨n, hn, rfl, m5⟩
    try simp only [go_sem, Nat.reduceBEq]
    simp only [ix_nat hb, go_sem, Nat.reduceBEq]
    obtain ⟨y6, my6, back6⟩ := m5.drop.two
    refine bcnt_st n hb tyS3 my6.swap (by omega) fun h7 m7 => ?_
    have m7 := back6 h7 [_, _] m7.swap
    try refine ⟨trivial, ?_⟩
    try simp only [go_sem, Nat.reduceBEq, Nat.reduceLeDiff]
    have ln : (lb.set b ((blk lb b).withC n)).length = lb.length := List.length_set
    rw [← ln] at m7
    have sb := hset_bulk hb ((blk lb b).withC n)
    have sc : ((blk lb b).withC n).bulk = (blk lb b).bulk := rfl
    exact ⟨lb.set b ((blk lb b).withC n), w, _, ar, nh, cr, by rw [← ln], by omega, Dr, by omega, Di, m7⟩
  simp only [decide_eq_false q0, go_sem, Nat.reduceBEq]
  by_cases q1 : x = 1
  · simp only [decide_eq_true q1, go_sem]
    refine regionD_intro (lb := [36]) (by kernel_rfl) ?_
    simp only [go_sem, Nat.reduceBEq]
    refine (l7Any_c hl m3).mono ?_
    rintro _ h4 ⟨t, hs, ss, rfl, T, a1, a2, c1, c2, rfl, rfl, m4⟩
    try simp only [go_sem, Nat.reduceBEq]
    simp only [ix_nat hb, go_sem, Nat.reduceBEq]
    have tbk := T.bulk
    obtain ⟨c, hd, hc⟩ := hold_btab (b := bh) (cap := nh) hb
    obtain ⟨y5, my5, back5⟩ := m4.four
    have m5 : My h0 h4 ((.row 1 (t.heads.flatMap idt), .slice a1 t.heads.length c1) :: (.row 10 (t.slots.flatMap Sl.dt), .slice a2 t.slots.length c2) :: (c (blk lb b).tab.dt, .slice (some ⟨bh, 0, none⟩) lb.length nh) :: (.row 5 (w.flatMap rdt), .slice ar w.length cr) :: y5 :: bag) := by
      rw [hc, withT_self, set_blk hb]
      exact my5
    refine hd.store (es := t.dt) tyS38 (tab_zip t m5) (Tb.dt_len _) (Tb.dt_len _) rfl (by omega) fun h6 m6 => ?_
    rw [hc] at m6
    have m7 := back5 h6 [_, _] m6.swap
    try refine ⟨trivial, ?_⟩
    try simp only [go_sem, Nat.reduceBEq, Nat.reduceLeDiff]
    have ln : (lb.set b ((blk lb b).withT t)).length = lb.length := List.length_set
    rw [← ln] at m7
    have sb := hset_bulk hb ((blk lb b).withT t)
    have sc : ((blk lb b).withT t).bulk = t.bulk := rfl
    exact ⟨lb.set b ((blk lb b).withT t), w, _, ar, nh, cr, by rw [← ln], by omega, Dr, by omega, Di, m7⟩
  simp only [decide_eq_false q1, go_sem, Nat.reduceBEq]
  by_cases q2 : x = 2
  case neg =>
    simp only [decide_eq_false q2, go_sem, Nat.reduceBEq, Nat.reduceLeDiff]
    try simp only [go_sem, Nat.reduceBEq, Nat.reduceAdd, Nat.reduceLeDiff, Nat.reduceEqDiff, Int.reduceEq, not_false_eq_true, Int.reduceToNat]
    exact ⟨lb, w, _, ar, nh, cr, rfl, by omega, Dr, by omega, Di, m3⟩
  simp only [decide_eq_true q2, go_sem, Nat.reduceBEq]
  try simp only [go_sem, Nat.reduceBEq, Nat.reduceAdd, Nat.reduceLeDiff, Nat.reduceEqDiff, Int.reduceEq, not_false_eq_true, Int.reduceToNat]
  simp only [ix_nat hb, go_sem, Nat.reduceBEq, Nat.reduceAdd]
  obtain ⟨y4, my4, back4⟩ := m3.two
  obtain ⟨c, a1, n1, a2, n2, mt, hd, hc⟩ := tab_at hb my4.swap
  refine hd.load1 (i := 2) (d := .raw (.slice a2 (blk lb b).tab.slots.length n2)) tyS36 mt.third rfl (by omega) fun v rv => ?_
  obtain ⟨rfl, _⟩ := Rd_raw.1 rv
  try simp only [go_sem, Nat.reduceBEq]
  by_cases hz2 : 0 < (blk lb b).tab.slots.length
  case neg =>
    simp only [show decide ((0 : Int) < ((blk lb b).tab.slots.length : Nat)) = false from decide_eq_false (by omega), go_sem, Nat.reduceBEq, Nat.reduceLeDiff]
    try simp only [go_sem, Nat.reduceBEq, Nat.reduceAdd, Nat.reduceLeDiff, Nat.reduceEqDiff, Int.reduceEq, not_false_eq_true, Int.reduceToNat]
    exact ⟨lb, w, _, ar, nh, cr, rfl, by omega, Dr, by omega, Di, m3⟩
  simp only [show decide ((0 : Int) < ((blk lb b).tab.slots.length : Nat)) = true from decide_eq_true (by omega), go_sem]
  have m3o := back4 h3 [_, _, _, _] mt
  obtain ⟨bs, _, e⟩ := m3o.drop.row0 hz2 (fm_len Sl.dt_len _)
  cases e
  obtain ⟨s0, hs0, hm0⟩ := get_lt hz2
  have ks0 : s0.key.str.size ≤ 400 := keyOk_size (((D.cnt.ch b _ (blk_at hb)).keys 0 s0 hs0).1)
  refine regionT_intro (lb := [54]) (.two [0, 1, 2, 3, 4, 5, 7] 6 (.one [8, 9, 10, 11, 12, 13]) 8 (.one [6, 9, 10, 11, 12, 13])) (by kernel_rfl) ?_
  simp only [runPlan_two, runPlan_one, plk_c, plk_n, plk_s, List.getElem?_toArray, List.getElem?_cons_succ, List.getElem?_cons_zero, ix_nat hb, go_sem, Nat.reduceBEq, Nat.reduceAdd]
  refine bothK_mk ?_ ?_
  · try simp only [go_sem, Nat.reduceBEq]
    obtain ⟨y5, my5, back5⟩ := m3o.three
    refine hd.load1 (i := 2) (d := .raw (.slice (some ⟨bs, 0, none⟩) (blk lb b).tab.slots.length n2)) tyS36 my5.third rfl (by omega) fun v rv => ?_
    obtain ⟨rfl, _⟩ := Rd_raw.1 rv
    try simp only [go_sem, Nat.reduceBEq]
    refine (l1Below_c hl m3o 4 (by decide) (by decide)).mono ?_
    rintro _ h5 ⟨y, rfl, y0, y1, m5⟩
    try simp only [go_sem, Nat.reduceBEq, Nat.reduceAdd, Nat.reduceLeDiff]
    have hix : ixA (some 10) (some ⟨bs, 0, none⟩) (blk lb b).tab.slots.length 0 = some (.pointer (some ⟨bs, 0 + 0 * 10, none⟩)) := ix_nat (i := 0) hz2
    try simp only [hix, go_sem, Nat.reduceBEq, Nat.reduceAdd]
    obtain ⟨y6, my6, back6⟩ := m5.three
    refine slot_val (x := V.mk 5 (IntKind.i64.wrap (y - 1)) ⟨#[]⟩ 0 []) (a := none) rfl hs0 tyS49 my6.swap hz2 (by omega) fun h7 m7 => ?_
    have m8 := tb_close hd (t := ⟨(blk lb b).tab.hashed, (blk lb b).tab.heads, (blk lb b).tab.slots.take 0 ++ ⟨s0.key, V.mk 5 (IntKind.i64.wrap (y - 1)) ⟨#[]⟩ 0 [], s0.live, s0.link⟩ :: (blk lb b).tab.slots.drop (0 + 1), (blk lb b).tab.next, (blk lb b).tab.count⟩) m7.swap
    rw [hc] at m8
    have m9 := (back6 h7 [_] m8).swap
    have sl := slot_hbulk hs0 ⟨s0.key, V.mk 5 (IntKind.i64.wrap (y - 1)) ⟨#[]⟩ 0 [], s0.live, s0.link⟩
    have sv : Sl.bulk ⟨s0.key, V.mk 5 (IntKind.i64.wrap (y - 1)) ⟨#[]⟩ 0 [], s0.live, s0.link⟩ = s0.key.str.size := rfl
    generalize (⟨(blk lb b).tab.hashed, (blk lb b).tab.heads, (blk lb b).tab.slots.take 0 ++ ⟨s0.key, V.mk 5 (IntKind.i64.wrap (y - 1)) ⟨#[]⟩ 0 [], s0.live, s0.link⟩ :: (blk lb b).tab.slots.drop (0 + 1), (blk lb b).tab.next, (blk lb b).tab.count⟩ : Tb) = t at *
    try refine ⟨trivial, ?_⟩
    try simp only [go_sem, Nat.reduceBEq, Nat.reduceLeDiff]
    have ln : (lb.set b ((blk lb b).withT t)).length = lb.length := List.length_set
    rw [← ln] at m9
    have sb := hset_bulk hb ((blk lb b).withT t)
    have sc : ((blk lb b).withT t).bulk = t.bulk := rfl
    have sd : (blk lb b).bulk = (blk lb b).tab.bulk := rfl
    exact ⟨lb.set b ((blk lb b).withT t), w, _, ar, nh, cr, by rw [← ln], by omega, Dr, by omega, Di, m9⟩
  · try simp only [go_sem, Nat.reduceBEq]
    refine (l1Below_c hl m3o 4 (by decide) (by decide)).mono ?_
    rintro _ h5 ⟨y, rfl, y0, y1, m5⟩
    try simp only [go_sem, Nat.reduceBEq]
    obtain ⟨y7, my7, back7⟩ := m5.three
    refine hd.load1 (i := 2) (d := .raw (.slice (some ⟨bs, 0, none⟩) (blk lb b).tab.slots.length n2)) tyS36 my7.third rfl (by omega) fun v rv => ?_
    obtain ⟨rfl, _⟩ := Rd_raw.1 rv
    try simp only [go_sem, Nat.reduceBEq, Nat.reduceAdd, Nat.reduceLeDiff]
    have hix : ixA (some 10) (some ⟨bs, 0, none⟩) (blk lb b).tab.slots.length 0 = some (.pointer (some ⟨bs, 0 + 0 * 10, none⟩)) := ix_nat (i := 0) hz2
    try simp only [hix, go_sem, Nat.reduceBEq, Nat.reduceAdd]
    obtain ⟨y6, my6, back6⟩ := m5.three
    refine slot_val (x := V.mk 5 (IntKind.i64.wrap (y - 1)) ⟨#[]⟩ 0 []) (a := none) rfl hs0 tyS49 my6.swap hz2 (by omega) fun h7 m7 => ?_
    have m8 := tb_close hd (t := ⟨(blk lb b).tab.hashed, (blk lb b).tab.heads, (blk lb b).tab.slots.take 0 ++ ⟨s0.key, V.mk 5 (IntKind.i64.wrap (y - 1)) ⟨#[]⟩ 0 [], s0.live, s0.link⟩ :: (blk lb b).tab.slots.drop (0 + 1), (blk lb b).tab.next, (blk lb b).tab.count⟩) m7.swap
    rw [hc] at m8
    have m9 := (back6 h7 [_] m8).swap
    have sl := slot_hbulk hs0 ⟨s0.key, V.mk 5 (IntKind.i64.wrap (y - 1)) ⟨#[]⟩ 0 [], s0.live, s0.link⟩
    have sv : Sl.bulk ⟨s0.key, V.mk 5 (IntKind.i64.wrap (y - 1)) ⟨#[]⟩ 0 [], s0.live, s0.link⟩ = s0.key.str.size := rfl
    generalize (⟨(blk lb b).tab.hashed, (blk lb b).tab.heads, (blk lb b).tab.slots.take 0 ++ ⟨s0.key, V.mk 5 (IntKind.i64.wrap (y - 1)) ⟨#[]⟩ 0 [], s0.live, s0.link⟩ :: (blk lb b).tab.slots.drop (0 + 1), (blk lb b).tab.next, (blk lb b).tab.count⟩ : Tb) = t at *
    try refine ⟨trivial, ?_⟩
    try simp only [go_sem, Nat.reduceBEq, Nat.reduceLeDiff]
    have ln : (lb.set b ((blk lb b).withT t)).length = lb.length := List.length_set
    rw [← ln] at m9
    have sb := hset_bulk hb ((blk lb b).withT t)
    have sc : ((blk lb b).withT t).bulk = t.bulk := rfl
    have sd : (blk lb b).bulk = (blk lb b).tab.bulk := rfl
    exact ⟨lb.set b ((blk lb b).withT t), w, _, ar, nh, cr, by rw [← ln], by omega, Dr, by omega, Di, m9⟩
/-- A draw of a heap, of roots and of a place. -/
def DropP (h0 : Hp) (l : List UInt8) (bag : Bag) (u : Value) (h' : Hp) : Prop := ∃ (p : Nat) (lb : List Bk) (w : List (V × Option Addr)) (ah ar : Option Addr) (nh cr : Nat) (n : Int), u = .tuple #[.agg #[.slice ah lb.length nh], .slice ar w.length cr, .int .i64 n] ∧ szG Bk.bulk lb ≤ 1000000 ∧ szG V.bulk (w.map (·.1)) ≤ 200 ∧ w.length ≤ 9 ∧ (∀ x ∈ w, x.1.items = []) ∧ CurM h0 h' l p ((.row 5 (w.flatMap rdt), .slice ar w.length cr) :: (.row 6 (lb.flatMap Bk.dt), .slice ah lb.length nh) :: bag)
theorem drawDrop_c (hl : l.length ≤ 1048576) {sl : Value} (rd : RdS h0 1 sl (bcells l)) (m : My h0 h bag) : ACalls Tryz.prog 5 #[sl] h (DropP h0 l bag) := by
  (refine enter Tryz.func5 rfl rfl (by kernel_rfl) [] ?_; simp only [go_sem, Nat.reduceBEq])
  refine (l1New_c hl rd m).mono ?_
  rintro _ h1 ⟨p, rfl, m1⟩
  try simp only [go_sem, Nat.reduceBEq]
  refine (l13Any_c hl m1).mono ?_
  rintro _ h2 ⟨lb, w, ah, ar, nh, cr, rfl, k1, k2, k3, k4, m2⟩
  have wl : IntKind.i64.wrap ((w.length : Int) + 1) = ((w.length + 1 : Nat) : Int) := by rw [IntWalk.i64_in _ (by omega)]; omega
  try simp only [go_sem, Nat.reduceBEq, Nat.reduceLeDiff]
  refine regionD_intro (lb := [15]) (by kernel_rfl) ?_
  try simp only [go_sem, Nat.reduceBEq, Nat.reduceLeDiff]
  simp only [wl, go_sem]
  refine (l1Below_c hl m2 ((w.length + 1 : Nat) : Int) (by omega) (by omega)).mono ?_
  rintro _ h3 ⟨x, rfl, x0, x1, m3⟩
  try simp only [go_sem, Nat.reduceBEq, Nat.reduceLeDiff]
  exact ⟨p, lb, w, ah, ar, nh, cr, x, rfl, k1, k2, k3, k4, m3⟩
def AtP (h : Hp) (u : Value) (h' : Hp) : Prop := ∃ x : Int, u = .int .i64 x ∧ 0 ≤ x ∧ x ≤ 255 ∧ h' = h
theorem at_c (l : List UInt8) (hl : l.length ≤ 1048576) (i : Nat) (hi : i ≤ 1000) (sl : Value) (h : Hp) (rd : RdS h 1 sl (bcells l)) : ACalls Tryz.prog 8 #[sl, .int .i64 (i : Nat)] h (AtP h) := by
  obtain ⟨a, c, b, off, rfl, hat⟩ := rd.bytes
  (refine enter Tryz.func8 rfl rfl (by kernel_rfl) [] ?_; simp only [go_sem, Nat.reduceBEq])
  by_cases hb : i < l.length
  · obtain ⟨h1, h2, h3⟩ := hat i hb h (Ext.refl h)
    have hbt := (l.getD i 0).toNat_lt
    simp only [show decide ((i : Int) < (l.length : Nat)) = true from decide_eq_true (by omega), h2, go_sem, Nat.reduceBEq]
    refine hsem_at1 tyS5 h1 h3 (by omega) ?_
    try simp only [go_sem, Nat.reduceBEq]
    refine ⟨_, rfl, ?_⟩
    rw [IntWalk.i64_in _ (by omega)]
    exact ⟨by omega, by omega, rfl⟩
  · simp only [show decide ((i : Int) < (l.length : Nat)) = false from decide_eq_false (by omega), go_sem, Nat.reduceBEq, Int.reduceEq, not_false_eq_true]
    have w1 : IntKind.i64.wrap ((i : Int) * 31) = (i : Int) * 31 := IntWalk.i64_in _ (by omega)
    have w2 : IntKind.i64.wrap ((l.length : Int) * 7) = (l.length : Int) * 7 := IntWalk.i64_in _ (by omega)
    have w3 : IntKind.i64.wrap ((i : Int) * 31 + (l.length : Int) * 7) = (i : Int) * 31 + (l.length : Int) * 7 := IntWalk.i64_in _ (by omega)
    try simp only [w1, w2, w3, go_sem]
    refine ⟨_, rfl, ?_⟩
    exact ⟨Int.tmod_nonneg _ (by omega), by have := Int.tmod_lt_of_pos ((i : Int) * 31 + (l.length : Int) * 7) (show (0 : Int) < 256 by decide); omega, rfl⟩
end
end Go.Proofs.YtccjkhnefiikaaaGreatDoor
/-! What can be read as data reads as data of the abstract machine. -/
namespace Go.Sx
open Go Go.ChangeShapes Go.WideShapes Go.RowKit Go.ChangeMaps
section
variable {H : Type} {enc : TypeId × Value → H} {P : Program} {w : World} {base : Nat} {sp : Nat → Bool} {held : Bool}
theorem mapM_all {α β : Type} {g : α → Option β} : ∀ (l : List α) (r : List β), l.mapM g = some r → r.length = l.length ∧ ∀ (i : Nat) (a : α), l[i]? = some a → g a = r[i]?
  | [], r, h => by
    simp at h
    subst h
    simp
  | a :: l, r, h => by
    simp only [List.mapM_cons, Option.bind_eq_bind, Option.bind_eq_some_iff, Option.pure_def, Option.some.injEq] at h
    obtain ⟨b, hb, r', hr, rfl⟩ := h
    obtain ⟨h1, h2⟩ := mapM_all l r' hr
    refine ⟨by simp [h1], fun i x hx => ?_⟩
    cases i with
    | zero => simp at hx; subst hx; simpa using hb
    | succ i => simpa using h2 i x (by simpa using hx)
theorem cells_at {a : Addr} {n : Nat} {cs : List Value} (h : w.cells? base a n = some cs) : cs.length = n ∧ ∀ i, i < n → w.cell? (a.add i) = cs[i]? := by
  unfold World.cells? at h
  split at h
  · obtain ⟨h1, h2⟩ := mapM_all _ _ h
    refine ⟨by simpa using h1, fun i hi => ?_⟩
    exact h2 i i (by simp [hi])
  · simp at h
theorem cell_vis {a : Addr} {v : Value} (h : w.cell? a = some v) : ∃ c e f, vis w a.block = some (.cells c e f) ∧ a.spot = none ∧ c[a.off]? = some v := by
  unfold World.cell? at h
  split at h
  · rename_i c e f hb
    split at h
    · simp at h
    · rename_i hs
      exact ⟨c, e, f, hb, by simpa using hs, h⟩
  · simp at h
theorem addr_add_add (a : Addr) (i j : Nat) : (a.add i).add j = a.add (i + j) := by
  unfold Addr.add
  by_cases hi : i = 0 <;> by_cases hj : j = 0 <;> simp [hi, hj, Nat.add_assoc]
/-- A slice whose elements read. -/
theorem open_list {α : Type} {f : α → List Dt} {ok : α → Prop} {z : Nat} {t e fuel : Nat} {cs : List Value} {x : DataW H × List MemPlace} (ht : P.underlying t = some (.slice e)) (hz : P.cellsOf e = z) (_ : 0 < z)
    (el : ∀ n cs x, n < fuel → DataW.trod enc P w base sp held n e cs = some x → ∃ a, ok a ∧ RdL (vis w) (f a) cs) (h : DataW.trod enc P w base sp held fuel t cs = some x) :
    ∃ (l : List α) (v : Value), cs = [v] ∧ (∀ a ∈ l, ok a) ∧ l.length ≤ maxLen ∧ Rd (vis w) (.row z (l.flatMap f)) v := by
  rcases DataW.trod_slice ht h with ⟨rfl, _⟩ | ⟨a, len, cap, elems, rest, n, hfu, rfl, _, hb, hlc, hcm, hlen, hel, _, _⟩
  · exact ⟨[], _, rfl, by simp, Nat.zero_le _, by simp only [List.flatMap_nil, Rd]; exact ⟨[], OwS.nil.rd, by simp only [RdL]⟩⟩
  · rw [hz] at hel
    have step : ∀ k, k ≤ len → ∃ (l : List α) (xs : List Value), l.length = k ∧ (∀ a ∈ l, ok a) ∧ RdL (vis w) (l.flatMap f) xs ∧ xs.length = k * z ∧ ∀ j u, xs[j]? = some u → w.cell? (a.add j) = some u := by
      intro k
      induction k with
      | zero => intro _; exact ⟨[], [], rfl, by simp, by simp only [List.flatMap_nil, RdL], by simp, by simp⟩
      | succ k ih =>
        intro hk
        obtain ⟨l, xs, h1, h2, h3, h4, h5⟩ := ih (by omega)
        have hek := hel k (by omega)
        rw [List.getElem?_eq_getElem (by omega)] at hek
        obtain ⟨cs', hc1, hc2⟩ := Option.bind_eq_some_iff.1 hek
        obtain ⟨b, hok, hrd⟩ := el n cs' _ (by omega) hc2
        obtain ⟨hcl, hcc⟩ := cells_at hc1
        have hcl0 : cs'.length = z := hcl
        clear hcl
        refine ⟨l ++ [b], xs ++ cs', by simp [h1], ?_, ?_, by rw [List.length_append, h4, hcl0, Nat.add_mul, Nat.one_mul], fun j u hj => ?_⟩
        · intro q hq
          rcases List.mem_append.1 hq with hq | hq
          · exact h2 q hq
          · simp at hq; subst hq; exact hok
        · rw [List.flatMap_append, List.flatMap_cons, List.flatMap_nil, List.append_nil]
          exact h3.append hrd
        · by_cases hjx : j < xs.length
          · rw [List.getElem?_append_left hjx] at hj
            exact h5 j u hj
          · rw [List.getElem?_append_right (by omega), h4] at hj
            have hlt : j - k * z < z := by have := (List.getElem?_eq_some_iff.1 hj).1; omega
            have := hcc (j - k * z) hlt
            rw [hj, addr_add_add, show k * z + (j - k * z) = j by omega] at this
            exact this
    obtain ⟨l, xs, h1, h2, h3, h4, h5⟩ := step len (Nat.le_refl _)
    refine ⟨l, _, rfl, h2, by omega, ?_⟩
    simp only [Rd]
    refine ⟨xs, ⟨⟨_, len, cap, rfl, hlc, h4, ?_⟩, h3.one⟩, h3⟩
    by_cases hxs : xs = []
    · exact .inl hxs
    · obtain ⟨v0, hv0⟩ : ∃ v, xs[0]? = some v := by
        cases xs with
        | nil => exact absurd rfl hxs
        | cons v r => exact ⟨v, rfl⟩
      have hc0 := h5 0 v0 hv0
      have ha0 : a.add 0 = a := rfl
      rw [ha0] at hc0
      obtain ⟨c, e', f', k1, k2, k3⟩ := cell_vis hc0
      refine .inr ⟨a, rfl, c, e', f', k1, k2, fun j u hj => ?_⟩
      have := h5 j u hj
      obtain ⟨c2, e2, f2, q1, q2, q3⟩ := cell_vis this
      have hbk : (a.add j).block = a.block := by unfold Addr.add; split <;> rfl
      have hof : (a.add j).off = a.off + j := by unfold Addr.add; split <;> simp_all
      rw [hbk] at q1
      rw [k1] at q1
      cases q1
      rw [hof] at q3
      exact q3
theorem trod_one {t n : Nat} {cs : List Value} {x : DataW H × List MemPlace} {k : IntKind} (ht : P.underlying t = some (.int k)) (h : DataW.trod enc P w base sp held n t cs = some x) : ∃ m, cs = [.int k m] ∧ k.min ≤ m ∧ m ≤ k.max := by
  obtain ⟨m, rfl, _, hw⟩ := DataW.trod_int ht h
  simp only [Lit.wf, Bool.and_eq_true, decide_eq_true_eq] at hw
  exact ⟨m, rfl, hw⟩
end
end Go.Sx
namespace Go.Proofs.YtccjkhnefiikaaaGreatDoor
set_option maxRecDepth 8000
open Go Go.Sx Go.ChangeShapes Go.WideShapes Go.RowKit Go.ChangeMaps
section
variable {H : Type} {enc : TypeId × Value → H} {w : World} {base : Nat} {sp : Nat → Bool} {held : Bool}
def bdt (b : UInt8) : List Dt := [.raw (.int .u8 b.toNat)]
theorem openB {v0 : Value} {d : DataW H} {ps : List MemPlace} (h : DataW.Trod enc Tryz.prog w base sp held 22 v0 d ps) (h1 : oneCell v0 = true) :
    ∃ (l : List UInt8), RdS (vis w) 1 v0 (bcells l) := by
  obtain ⟨n, h⟩ := h
  obtain ⟨l, v, e, _, _, hrd⟩ := open_list (α := UInt8) (f := bdt) (ok := fun _ => True) (z := 1) Tryz.underlying22 (by kernel_rfl) (by decide) (fun n' cs' x' _ h' => by
    obtain ⟨m, e, h0, h2⟩ := trod_one Tryz.underlying5 h'
    have h0 : 0 ≤ m := h0
    have h2 : m ≤ 255 := h2
    refine ⟨UInt8.ofNat m.toNat, trivial, ?_⟩
    have h3 : (UInt8.ofNat m.toNat).toNat = m.toNat := by
      rw [UInt8.toNat_ofNat']
      exact Nat.mod_eq_of_lt (by show m.toNat < 256; omega)
    rw [e]
    simp only [bdt, RdL_cons, RdL_nil, Rd_raw]
    exact ⟨_, _, rfl, ⟨by rw [h3, Int.toNat_of_nonneg h0], rfl⟩, rfl⟩) h
  have : v0 = v := by cases v0 <;> first | (simp [Value.cells] at e; exact e) | (simp [oneCell] at h1)
  subst this
  refine ⟨l, ?_⟩
  simp only [Rd] at hrd
  obtain ⟨xs, r1, r2⟩ := hrd
  have r2 : RdL (vis w) ((bcells l).map .raw) xs := by
    have : ∀ l : List UInt8, l.flatMap bdt = (bcells l).map .raw := by
      intro l
      induction l with
      | nil => rfl
      | cons b r ih => simp only [List.flatMap_cons, ih, bdt, bcells, List.map_cons, List.cons_append, List.nil_append]
    rw [← this]
    exact r2
  rwa [r2.of_raws] at r1
end
end Go.Proofs.YtccjkhnefiikaaaGreatDoor
namespace Go.Proofs.YtccjkhnefiikaaaGreatDoor
set_option maxRecDepth 8000
open Go Go.Sx
theorem big_c (l : List UInt8) (sl : Value) (h : Hp) (rd : RdS h 1 sl (bcells l)) : ACalls Tryz.prog 4 #[sl] h (Pu (.bool (decide (1048576 < l.length))) h) := by
  have hbl : (bcells l).length = l.length * 1 := by simp [bcells]
  obtain ⟨a, c, rfl, _⟩ := rd.slice l.length (by decide) hbl
  (refine enter Tryz.func4 rfl rfl (by kernel_rfl) [] ?_; simp only [go_sem, Nat.reduceBEq])
  exact ⟨by rw [show decide ((1048576 : Int) < (l.length : Nat)) = decide (1048576 < l.length) from decide_eq_decide.2 (by omega)], rfl⟩
end Go.Proofs.YtccjkhnefiikaaaGreatDoor
namespace Go.Proofs.YtccjkhnefiikaaaGreatDoor
set_option maxRecDepth 8000
open Go Go.Sx Go.ChangeShapes Go.WideShapes Go.ChangeAt Go.RowKit Go.ChangeMaps
theorem own : ownKnob Tryz.prog.godebug = none := by kernel_rfl
theorem laidOut : laidOutB Tryz.prog = true := by kernel_rfl
theorem szG_without {w : V → Nat} {l : List V} {i : Nat} (hi : i < l.length) : szG w (l.take i ++ l.drop (i + 1)) ≤ szG w l := by
  have e : l.drop i = l[i] :: l.drop (i + 1) := List.drop_eq_getElem_cons hi
  have := szG_append (w := w) (l.take i) (l.drop i)
  rw [List.take_append_drop, e, szG_cons] at this
  rw [szG_append]
  omega
/-- what the law keeps from round to round -/
def InL (h0 : Hp) (x : List Bk × List (V × Option Addr) × Value × Value) (h' : Hp) : Prop :=
  countedB x.1 (x.2.1.map (·.1)) = true ∧ szG Bk.bulk x.1 ≤ 1000000 ∧ szG V.bulk (x.2.1.map (·.1)) ≤ 200 ∧ x.2.1.length ≤ 9 ∧ (∀ y ∈ x.2.1, y.1.items = []) ∧ Ext h0 h' ∧
  ∃ (ah ar : Option Addr) (nh cr : Nat), x.2.2.1 = .slice ah x.1.length nh ∧ x.2.2.2 = .slice ar x.2.1.length cr ∧ RdB h' x.1 (.slice ah x.1.length nh) ∧ Rd h' (.row 5 (x.2.1.flatMap rdt)) (.slice ar x.2.1.length cr)
set_option maxHeartbeats 3200000 in
theorem FnDropAll_law (l : List UInt8) (sl : Value) (h : Hp) (rd : RdS h 1 sl (bcells l)) (hE : Env h) : ACalls Tryz.prog 3 #[sl] h (Is (.bool true) h) := by
  have hbl : (bcells l).length = l.length * 1 := by simp [bcells]
  obtain ⟨a, c, rfl, _⟩ := rd.slice l.length (by decide) hbl
  (refine enter Tryz.func3 rfl rfl (by kernel_rfl) [] ?_; simp only [go_sem, Nat.reduceBEq])
  (refine (big_c l _ _ rd).mono ?_; rintro _ _ ⟨rfl, rfl⟩; simp only [go_sem, Nat.reduceBEq])
  by_cases hl : 1048576 < l.length
  · simp only [decide_eq_true hl, go_sem, Nat.reduceBEq]
    exact ⟨rfl, Ext.refl _⟩
  simp only [decide_eq_false hl, go_sem, Nat.reduceBEq]
  refine (drawDrop_c (by omega) rd (My.nil (Ext.refl h))).mono ?_
  rintro _ h1 ⟨p, lb, w, ah, ar, nh, cr, n, rfl, hb, hr, hw, hi, m1⟩
  have E1 := m1.my.ext
  have rl1 : RdB h1 lb (.slice ah lb.length nh) := m1.my.rd2
  have rw0 : Rd h1 (.row 5 (w.flatMap rdt)) (.slice ar w.length cr) := m1.my.rd
  have rw1 := roots_rd hi rw0
  clear m1
  try simp only [go_sem, Nat.reduceBEq, Nat.reduceLeDiff]
  refine (sIsCounted lb (w.map (·.1)) (by omega) (by omega) _ _ _ rl1 rw1).mono ?_
  rintro _ h2 ⟨rfl, e2⟩
  have E2 := E1.trans e2
  try simp only [go_sem, Nat.reduceBEq]
  cases hc : countedB lb (w.map (·.1)) with
  | false =>
    try simp only [go_sem, Nat.reduceBEq, Nat.reduceLeDiff]
    refine (iDropValue lb (w.map (·.1)) 0 (by omega) (by omega) _ _ _ (rl1.mono e2) (rw1.mono e2) (hE.ext E2)).mono ?_
    rintro _ h3 ⟨a3, c3, rfl, m3⟩
    rw [drop_no2 hc]
    try simp only [go_sem, Nat.reduceBEq, Nat.reduceLeDiff]
    exact ⟨rfl, E2.trans m3.ext⟩
  | true =>
  try simp only [go_sem]
  refine aloop (ι := List Bk × List (V × Option Addr) × Value × Value) (fun x => [(4, .val x.2.2.2), (3, .box 3 0), (0, .val (.slice a l.length c))]) (fun x => [(3, [x.2.2.1])])
    (InL h) (fun x => x.2.1.length) (lb, w, .slice ah lb.length nh, .slice ar w.length cr) ⟨hc, hb, hr, hw, hi, E2, ah, ar, nh, cr, rfl, rfl, rl1.mono e2, rw0.mono e2⟩ (by repeat (first | exact wkF_e | refine wkF_c rfl ?_)) (wkB_c rfl wkB_e) rfl ?_
  clear rl1 rw0 rw1 hc hb hr hw hi E1 E2 e2
  rintro ⟨lb, w, hs, rs⟩ h3 ⟨hc, hb, hr, hw, hi, E3, ah, ar, nh, cr, eh, er, rl3, rw3⟩
  obtain rfl : hs = .slice ah lb.length nh := eh
  obtain rfl : rs = .slice ar w.length cr := er
  have hc : countedB lb (w.map (·.1)) = true := hc
  have hb : szG Bk.bulk lb ≤ 1000000 := hb
  have hr : szG V.bulk (w.map (·.1)) ≤ 200 := hr
  have hw : w.length ≤ 9 := hw
  have hi : ∀ y ∈ w, y.1.items = [] := hi
  have rl3 : RdB h3 lb (.slice ah lb.length nh) := rl3
  have rw3 : Rd h3 (.row 5 (w.flatMap rdt)) (.slice ar w.length cr) := rw3
  have hlb := szG_len (w := Bk.bulk) lb
  try simp only [go_sem, Nat.reduceBEq]
  by_cases hz : 0 < w.length
  case neg =>
    have hw0 : w = [] := List.eq_nil_of_length_eq_zero (by omega)
    simp only [show decide ((0 : Int) < (w.length : Nat)) = false from decide_eq_false (by omega), go_sem, Nat.reduceBEq, Nat.reduceLeDiff]
    subst hw0
    refine (iCountRefs lb [] (by omega) (by decide) _ _ _ rl3 (roots_rd hi rw3)).mono ?_
    rintro _ h5 ⟨a5, c5, rfl, m5⟩
    have E5 := m5.ext
    have hcl := counts_len lb []
    have hfree := (cnt_iff.1 hc).all_free
    obtain ⟨a6, c6, xs6, e6, hc6, hr6, hat6⟩ := (rl3.mono E5).rows (by decide) lb.length (fm_len Bk.dt_len _)
    cases e6
    try simp only [go_sem, Nat.reduceBEq]
    refine aloop (ι := Nat) (fun i => [(12, .val (.int .i64 (i : Nat))), (11, .val (.slice a5 (counts lb []).length c5)), (3, .box 3 0)]) (fun _ => [(3, [.slice ah lb.length nh])])
      (fun i h' => i ≤ lb.length ∧ h' = h5) (fun i => lb.length - i) 0 ⟨Nat.zero_le _, rfl⟩ (by repeat (first | exact wkF_e | refine wkF_c rfl ?_)) (wkB_c rfl wkB_e) rfl ?_
    rintro i _ ⟨hi5, rfl⟩
    have hi5 : i ≤ lb.length := hi5
    try simp only [go_sem, Nat.reduceBEq]
    by_cases hil : i < lb.length
    case neg =>
      simp only [show decide ((i : Int) < (lb.length : Nat)) = false from decide_eq_false (by omega), hcl, decide_true, go_sem, Nat.reduceBEq]
      exact ⟨rfl, E3.trans E5⟩
    obtain ⟨b, hb6, _⟩ := get_lt hil
    obtain ⟨f1, f2⟩ := hfree i b hb6
    obtain ⟨bb, ob, rfl, at6⟩ := hat6 (by omega)
    have wsu := wrap_succ (i := i) (by omega)
    simp only [show decide ((i : Int) < (lb.length : Nat)) = true from decide_eq_true (by omega), go_sem, Nat.reduceBEq]
    simp only [ix_nat hil, go_sem, Nat.reduceBEq]
    refine hsem_cell (f := Bk.dt) (o := 0) (d := .raw (.int .i64 b.count)) Bk.dt_len tyS3 at6 hr6 hb6 (by decide) rfl (by omega) fun v rv => ?_
    obtain ⟨rfl, _⟩ := Rd_raw.1 rv
    try simp only [f1, ix_nat hil, go_sem, Nat.reduceBEq, Nat.reduceAdd]
    refine hsem_cell (f := Bk.dt) (o := 3) (d := .row 10 (b.tab.slots.flatMap Sl.dt)) Bk.dt_len tyS36 at6 hr6 hb6 (by decide) rfl (by omega) fun v rv => ?_
    obtain ⟨a7, c7, _, rfl, _⟩ := rv.rows (by decide) b.tab.slots.length (fm_len Sl.dt_len _)
    have f3 : b.tab.slots.length = 0 := by rw [f2]; rfl
    try simp only [f3, go_sem, Nat.reduceBEq]
    simp only [show decide ((0 : Int) < ((0 : Nat) : Int)) = false from rfl, wsu, go_sem, Nat.reduceBEq]
    exact Again.intro (i + 1) (by first | omega | (simp only; omega)) ⟨hil, rfl⟩ (by repeat (first | exact wkF_e | refine wkF_c rfl ?_)) (wkB_c rfl wkB_e) rfl
  simp only [show decide ((0 : Int) < (w.length : Nat)) = true from decide_eq_true (by omega), go_sem, Nat.reduceBEq]
  refine (at_c l (by omega) w.length (by omega) _ _ (rd.mono E3)).mono ?_
  rintro _ _ ⟨x, rfl, x0, x1, rfl⟩
  have hzw : (((w.length : Nat) : Int) = 0) = False := eq_false (by omega)
  obtain ⟨i, hxi, hil⟩ : ∃ i : Nat, x.tmod (w.length : Nat) = (i : Int) ∧ i < w.length := by
    have q1 := Int.tmod_nonneg (w.length : Int) x0
    have q2 := Int.tmod_lt_of_pos x (show (0 : Int) < (w.length : Nat) by omega)
    exact ⟨(x.tmod (w.length : Nat)).toNat, by omega, by omega⟩
  try simp only [hzw, if_false, hxi, go_sem, Nat.reduceBEq, Nat.reduceLeDiff]
  obtain ⟨xi, hxw, _⟩ := get_lt hil
  have hri : (w.map (·.1))[i]? = some xi.1 := by rw [List.getElem?_map, hxw]; rfl
  have hget : (w.map (·.1)).getD ((i : Int)).toNat V.zero = xi.1 := by rw [Int.toNat_natCast, List.getD_eq_getElem?_getD, hri]; rfl
  have hd := drop_yes (i := (i : Int)) (show 0 ≤ (i : Int) ∧ (i : Int) ≤ ((w.map (·.1)).length : Int) - 1 by rw [List.length_map]; omega) hc
  rw [hget] at hd
  have hcd := counted_drop hc hri
  have hbd := drop_bulk (slotsN lb + 1) lb xi.1
  have hrd := szG_without (w := V.bulk) (l := w.map (·.1)) (i := i) (by rw [List.length_map]; exact hil)
  refine (iDropValue lb (w.map (·.1)) (i : Int) (by omega) (by omega) _ _ _ rl3 (roots_rd hi rw3) (hE.ext E3)).mono ?_
  rintro _ h4 ⟨a4, c4, rfl, m4⟩
  rw [hd] at m4 ⊢
  have e4 := m4.ext
  have E4 := E3.trans e4
  have rl4 : RdB h4 (dropF (slotsN lb + 1) lb xi.1) (.slice a4 (dropF (slotsN lb + 1) lb xi.1).length c4) := m4.rd
  have rw4 := rw3.mono e4
  clear m4
  generalize dropF (slotsN lb + 1) lb xi.1 = lb2 at *
  have wsu := wrap_succ (i := i) (by omega)
  try simp only [go_sem, Nat.reduceBEq, Nat.reduceLeDiff]
  refine regionD_intro (lb := []) (by kernel_rfl) ?_
  simp only [go_sem]
  refine my_row0 (by decide) slT27 rfl (My.nil (Ext.refl h4)) fun a20 h20 m20 => ?_
  obtain ⟨a2, e2, rs2⟩ := roots_sub (rw4.mono m20.ext) 0 i (Nat.zero_le _) (by omega)
  have e2 : slA (some 5) ar w.length cr 0 (i : Int) = some (.slice a2 (i - 0) (cr - 0)) := e2
  rw [List.drop_zero, Nat.sub_zero] at rs2
  simp only [e2, go_sem, Nat.reduceBEq]
  refine roots_add (w1 := []) (w2 := w.take i) slT27 rfl rfl (by decide) m20 rs2 (by rw [List.length_take]; show 0 + _ ≤ 100000; omega) fun a21 c21 h21 m21 => ?_
  obtain ⟨a3, e3, rs3⟩ := roots_sub (rw4.mono m21.ext) (i + 1) w.length (by omega) (Nat.le_refl _)
  have e3 : slA (some 5) ar w.length cr ((i + 1 : Nat) : Int) (w.length : Nat) = some (.slice a3 (w.length - (i + 1)) (cr - (i + 1))) := e3
  rw [List.take_of_length_le (by rw [List.length_drop]; exact Nat.le_refl _)] at rs3
  simp only [wsu, e3, go_sem, Nat.reduceBEq]
  refine roots_add (w1 := [] ++ w.take i) (w2 := w.drop (i + 1)) slT27 rfl rfl (by decide) m21 rs3 (by rw [List.nil_append, List.length_take, List.length_drop]; omega) fun a22 c22 h22 m22 => ?_
  rw [List.nil_append] at m22 ⊢
  have lw : (w.take i ++ w.drop (i + 1)).length + 1 = w.length := by rw [List.length_append, List.length_take, List.length_drop]; omega
  have hiw : ∀ y ∈ w.take i ++ w.drop (i + 1), y.1.items = [] := fun y hy => by
    rcases List.mem_append.1 hy with hy | hy
    · exact hi y (List.mem_of_mem_take hy)
    · exact hi y (List.mem_of_mem_drop hy)
  have mp : (w.take i ++ w.drop (i + 1)).map (·.1) = (w.map (·.1)).take i ++ (w.map (·.1)).drop (i + 1) := by rw [List.map_append, List.map_take, List.map_drop]
  rw [← mp] at hcd hrd
  have rw5 : Rd h22 (.row 5 ((w.take i ++ w.drop (i + 1)).flatMap rdt)) (.slice a22 (w.take i ++ w.drop (i + 1)).length c22) := m22.rd
  have rl5 := rl4.mono m22.ext
  have E5 := E4.trans m22.ext
  clear m20 m21 m22
  generalize w.take i ++ w.drop (i + 1) = w2 at *
  try simp only [go_sem, Nat.reduceBEq, Nat.reduceLeDiff]
  refine (iIsCounted lb2 (w2.map (·.1)) (by omega) (by omega) _ _ _ rl5 (roots_rd hiw rw5) (hE.ext E5)).mono ?_
  rintro _ h6 ⟨rfl, e6⟩
  rw [hcd]
  try simp only [go_sem, Nat.reduceBEq, Nat.reduceLeDiff]
  exact Again.intro (lb2, w2, .slice a4 lb2.length c4, .slice a22 w2.length c22) (by first | omega | (simp only; omega)) ⟨hcd, by show szG Bk.bulk lb2 ≤ 1000000; omega, by show szG V.bulk (w2.map (·.1)) ≤ 200; omega, by show w2.length ≤ 9; omega, hiw, E5.trans e6, a4, a22, c4, c22, rfl, rfl, rl5.mono e6, rw5.mono e6⟩ (by repeat (first | exact wkF_e | refine wkF_c rfl ?_)) (wkB_c rfl wkB_e) rfl
theorem FnDropAll_met (os : Os) (args : Array Value) : laidMetH Tryz.prog Rows.fnDropAllRow.laid ((World.doorLaid Tryz.prog 400 os).forCall (fun _ _ => 0) ⟨#[], args, []⟩).memory :=
  laidMetH_of_parts3 (fuel := 8) (laidMet_of_run' 8 (by kernel_rfl) (by kernel_rfl)) (by kernel_rfl) (by kernel_rfl)
set_option maxRecDepth 100000 in
theorem FnDropAll_lifted (os : Os) (started : os.Started) (H : Type) (enc : TypeId × Value → H) :
    ReturnsInHanded {} Tryz.checked os 3 .any (fun w args => (Rows.fnDropAllSpec.pre enc Tryz.prog Tryz.f3 Rows.fnDropAllRow.domain false w args ∧ laidMetH Tryz.prog Rows.fnDropAllRow.laid w) ∧ sizedMet enc Tryz.prog Tryz.f3 (OpenSpec.ofChange Rows.fnDropAllSpec) false w args) (Rows.fnDropAllSpec.post enc Tryz.prog Tryz.f3 false true false false) := by
  refine returnsInHanded_of_change_and (C := Tryz.checked) (X := fun w _ => laidMetH Tryz.prog Rows.fnDropAllRow.laid w) (fun _ _ _ hh h => h.of_heap hh) own started (by kernel_rfl) Tryz.func3
    (ChangeSpec.witness_shaped (enc := enc) (C := Tryz.checked) (os := os) (X := fun w _ => laidMetH Tryz.prog Rows.fnDropAllRow.laid w) false (World.doorLaid Tryz.prog 400 os) #[.slice none 0 0] 8 rfl (World.shaped_of_RefB (by kernel_rfl) (by kernel_rfl)) (by kernel_rfl) (by kernel_rfl) (by kernel_rfl) (FnDropAll_met os _)) ?_
  intro W base args ds gs before hval0 hW _ _ hL _
  have hT : Pow (vis W) := pow_of (by kernel_rfl) (by rw [MakeChecks.laidMetH_plain _ _ _ (by kernel_rfl)] at hL; exact hL)
  have hE : Env (vis W) := env_of hT (by kernel_rfl) (by kernel_rfl) (by rw [MakeChecks.laidMetH_plain _ _ _ (by kernel_rfl)] at hL; exact hL)
  have hval : ∀ (j : Nat) t v, Tryz.f3.params[j]? = some t → args[j]? = some v → Value.okWide Tryz.prog W .any base t v := hval0
  have hW' := hW
  obtain ⟨p, q, hA0, hV, rfl, _, _⟩ := hW
  have hA : DataW.TrodAll enc Tryz.prog W 0 (fun _ => true) true Tryz.f3.params.toList args.toList ds p := hA0
  rw [Tryz.params3] at hA hval
  obtain ⟨v0, vs0, d0, ds0, p0, q0, hargs, rfl, rfl, h0, r0⟩ := trodAll_cons hA
  obtain ⟨rfl, rfl, rfl⟩ := trodAll_nil r0
  obtain rfl : args = #[v0] := by cases args; simp_all
  obtain ⟨rfl, rfl⟩ := trodVars_none hV
  obtain ⟨_, _, _, rfl⟩ := okWide_slice Tryz.underlying22 (hval 0 22 v0 rfl rfl)
  obtain ⟨a0, e0⟩ := openB h0 rfl
  clear hA0 hval0
  simp only [List.append_nil] at hW'
  exact (to_below (FnDropAll_law a0 _ _ e0 hE)).mono fun e W' ⟨he, hb⟩ => ⟨_, he, law_post laidOut (by kernel_rfl) rfl Tryz.underlying4 rfl hW' rfl rfl rfl hb⟩
theorem FnDropAll_proved : Rows.FnDropAllSaid :=
  OpenClaim.holds_of_wide 3 Tryz.f3 rfl rfl rfl rfl rfl rfl rfl ⟨rfl, rfl, rfl, rfl, rfl⟩ rfl rfl rfl rfl rfl (by kernel_rfl) Tryz.func3 (by kernel_rfl)
    (of_decide_eq_true (by kernel_rfl)) (by unfold Func.isWrapper; first | (rw [if_pos (by decide +kernel)]; kernel_rfl) | (rw [if_neg (by decide +kernel)]; exact ⟨rfl, rfl⟩))
    (fun os started H enc _ => FnDropAll_lifted os started H enc)
theorem FnDropAll_card : Rows.FnDropAllCardSaid :=
  Claim7.holds_tied_plain_at .later [] Rows.fnDropAllCard.laidKinds true Rows.fnDropAllCard.stood.harness Rows.fnDropAllCard.stood.looks
    FnDropAll_proved (fun _ h => by cases h) (by kernel_rfl) (fun _ h => by cases h) fnDropAll_row_tie rfl ⟨rfl, rfl⟩ (by kernel_rfl) rfl
    (fun f fn hf hfn => by
      obtain rfl : f = 3 := Option.some.inj ((show Tryz.prog.funcNamed Rows.fnDropAllRow.func = some 3 by kernel_rfl).symm.trans hf) |>.symm
      obtain rfl : fn = Tryz.f3 := (Option.some.inj (Tryz.func3.symm.trans hfn)).symm
      exact ⟨by kernel_rfl, fun j t ht => by
        rw [Tryz.params3] at ht
        have hm : t ∈ [22] := by simpa using Array.mem_of_getElem? ht
        have hall : ([22].all fun u => !Tryz.prog.wantsStandIn u) = true := by kernel_rfl
        exact (show Tryz.prog.wantsStandIn t = false by simpa using List.all_eq_true.1 hall t hm)⟩)
    (by kernel_rfl)
end Go.Proofs.YtccjkhnefiikaaaGreatDoor
