/-
  What CountRefs of the program and of the reference returns.
-/
import Derived.Test.YtpelbeoapmbloaaFacts
import Derived.Test.YtpelbeoapmbloaaNum
import Derived.Test.YtpelbeoapmbloaaSxTabV
namespace Go.Proofs.Ytpelbeoapmbloaa
set_option maxRecDepth 8000
open Go Go.Sx
/-- numbers made anew -/
def MadeI (h : Hp) (l : List Int) (u : Value) (h' : Hp) : Prop := ∃ a c, u = .slice a l.length c ∧ My h h' [(.row 1 (l.flatMap idt), .slice a l.length c)]
theorem hit_no1 {n : Nat} {v : V} (h : ¬ v.kind = 5) : hit n v = false := by unfold hit; rw [decide_eq_false h]; rfl
theorem hit_no2 {n : Nat} {v : V} (h : ¬ (0 ≤ v.num ∧ v.num ≤ (n : Int) - 1)) : hit n v = false := by unfold hit; rw [decide_eq_false h, Bool.and_false]
theorem hit_yes {n : Nat} {v : V} (h : v.kind = 5) (k : 0 ≤ v.num ∧ v.num ≤ (n : Int) - 1) : hit n v = true := by unfold hit; rw [decide_eq_true h, decide_eq_true k]; rfl
theorem cnt1_no {l : List Int} {v : V} (h : hit l.length v = false) : cnt1 l v = l := if_neg (by rw [h]; simp)
theorem cnt1_yes {l : List Int} {v : V} (h : hit l.length v = true) : cnt1 l v = l.set v.num.toNat (l.getD v.num.toNat 0 + 1) := if_pos h
theorem small_get {l : List Int} {n i : Nat} (h : smallC l n) (hn : n ≤ 1099511627776) (hi : i < l.length) : IntKind.i64.wrap (l.getD i 0 + 1) = l.getD i 0 + 1 := by
  have := h _ (getD_mem (d := 0) hi)
  exact IntWalk.i64_in _ (by omega)
def Cnted (h0 : Hp) (l : List Int) (n bo bp : Nat) (u : Value) (h' : Hp) : Prop := u = .tuple #[] ∧ My h0 h' [(.row 1 (l.flatMap idt), .slice (some ⟨bo, 0, none⟩) n n), (.ptr [] [.raw (.slice (some ⟨bo, 0, none⟩) n n)] [], .pointer (some ⟨bp, 0, none⟩))]
theorem iCount1 (l : List Int) (n : Nat) (hn : l.length = n) (hn1 : n ≤ 1048576) (m : Nat) (hm : m ≤ 1099511627776) (hsm : smallC l m) (v : V) (a : Option Addr) (k c bo bp : Nat) (h0 h : Hp)
    (my : My h0 h [(.row 1 (l.flatMap idt), .slice (some ⟨bo, 0, none⟩) n n), (.ptr [] [.raw (.slice (some ⟨bo, 0, none⟩) n n)] [], .pointer (some ⟨bp, 0, none⟩))]) :
    ACalls Try.prog 45 #[.agg #[.int .i64 v.kind, .int .i64 v.num, .string v.str, .int .i64 v.next, .slice a k c], .pointer (some ⟨bp, 0, none⟩)] h (Cnted h0 (cnt1 l v) n bo bp) := by
  have hw : IntKind.i64.wrap ((n : Int) - 1) = (n : Int) - 1 := IntWalk.i64_in _ (by omega)
  subst hn
  (refine enter Try.func45 rfl rfl (by kernel_rfl) [] ?_; simp only [go_sem, Nat.reduceBEq])
  by_cases h5 : v.kind = 5
  case neg =>
    simp only [decide_eq_false h5, go_sem, Nat.reduceBEq]
    exact ⟨rfl, by rw [cnt1_no (hit_no1 h5)]; exact my⟩
  simp only [decide_eq_true h5, go_sem, Nat.reduceBEq]
  refine Hold.ld1 (i := 0) Hold.ptr tyS22 my.swap rfl rfl ?_
  simp only [hw, go_sem, Nat.reduceBEq]
  (refine (iInRange _ _ _ _).mono ?_; rintro _ _ ⟨rfl, rfl⟩; simp only [go_sem, Nat.reduceBEq])
  by_cases hr : 0 ≤ v.num ∧ v.num ≤ (l.length : Int) - 1
  case neg =>
    simp only [decide_eq_false hr, go_sem]
    exact ⟨rfl, by rw [cnt1_no (hit_no2 hr)]; exact my⟩
  have hlt : v.num.toNat < l.length := by omega
  have hsw := small_get hsm hm hlt
  simp only [decide_eq_true hr, go_sem, Nat.reduceBEq]
  refine Hold.ld1 (i := 0) Hold.ptr tyS22 my.swap rfl rfl ?_
  obtain ⟨ys, hry, haty⟩ := my.at_
  simp only [ix_int hr.1 hlt, go_sem, Nat.reduceBEq]
  refine hsem_num tyS3 (haty (by omega)) hry (getD_at (d := 0) hlt) (by omega) ?_
  simp only [ix_int hr.1 hlt, hsw, go_sem, Nat.reduceBEq]
  obtain ⟨cn, hn', en⟩ := hold_num (es := l) (b := bo) (cap := l.length) hlt
  obtain ⟨x, hx⟩ := hold_self (es := l) hlt
  refine hn'.put1 (h0 := h0) (d := .raw (.int .i64 x)) tyS3 rfl rfl (by rw [en, hx]; exact my) (by omega) fun h5' m5 => ?_
  rw [en] at m5
  try simp only [go_sem]
  refine ⟨rfl, ?_⟩
  rw [cnt1_yes (hit_yes h5 hr)]
  exact m5
set_option maxHeartbeats 800000 in
theorem iCountRefs (l : List Bk) (rs : List V) (hb : szG Bk.bulk l ≤ 1048576) (hbr : szG V.bulk rs ≤ 1048576) (s u : Value) (h : Hp) (r1 : RdB h l s) (r2 : Rd h (.row 5 (rs.flatMap V.dt)) u) : ACalls Try.prog 19 #[.agg #[s], u] h (MadeI h (counts l rs)) := by
  have hlen := szG_len (w := Bk.bulk) l
  have hlr := szG_len (w := V.bulk) rs
  obtain ⟨a1, c1, xs1, rfl, hc1, hr1, hat1⟩ := r1.rows (by decide) l.length (fm_len Bk.dt_len _)
  obtain ⟨a2, c2, xs2, rfl, hc2, hr2, hat2⟩ := r2.rows (by decide) rs.length (fm_len V.dt_len _)
  (refine enter Try.func19 rfl rfl (by kernel_rfl) [5] ?_; simp only [go_sem, Nat.reduceBEq])
  refine hsem_my_make slT22 (by decide) rfl rfl (by omega) (by decide) (My.nil (Ext.refl h)) fun bo h1 m1 => ?_
  have m1 : My h h1 [(.row 1 (zeros [.int .i64 0] l.length), .slice (some ⟨bo, 0, none⟩) l.length l.length)] := m1
  rw [zeros_int] at m1
  try simp only [go_sem, Nat.reduceBEq]
  refine hsem_my_alloc (z := [.slice none 0 0]) (by kernel_rfl) rfl m1 fun bp h2 m2 => ?_
  try simp only [go_sem, Nat.reduceBEq]
  refine Hold.store Hold.ptr (es := [.raw (.slice (some ⟨bo, 0, none⟩) l.length l.length)]) tyS22 (m2.raw (u := .slice (some ⟨bo, 0, none⟩) l.length l.length) rfl) rfl rfl rfl rfl fun h3 m3 => ?_
  have m3 := m3.swap
  try simp only [go_sem, Nat.reduceBEq]
  refine aloop (ι := Nat) (fun i => [(20, .val (.int .i64 (i : Nat))), (19, .val (.int .i64 (rs.length : Nat))), (18, .val (.slice a2 rs.length c2)), (6, .val (.func (.func 45) #[] #[.pointer (some ⟨bp, 0, none⟩)])), (5, .val (.pointer (some ⟨bp, 0, none⟩))), (2, .box 2 0)]) (fun _ => [(2, [.slice a1 l.length c1])])
    (fun i h' => i ≤ rs.length ∧ My h h' [(.row 1 ((cntV (List.replicate l.length 0) (rs.take i)).flatMap idt), .slice (some ⟨bo, 0, none⟩) l.length l.length), (.ptr [] [.raw (.slice (some ⟨bo, 0, none⟩) l.length l.length)] [], .pointer (some ⟨bp, 0, none⟩))]) (fun i => rs.length - i) 0
    ⟨Nat.zero_le _, m3⟩ (by repeat (first | exact wkF_e | refine wkF_c rfl ?_)) (wkB_c rfl wkB_e) rfl ?_
  rintro i h4 ⟨hi, m4⟩
  have hi : i ≤ rs.length := hi
  have m4 : My h h4 [(.row 1 ((cntV (List.replicate l.length 0) (rs.take i)).flatMap idt), .slice (some ⟨bo, 0, none⟩) l.length l.length), (.ptr [] [.raw (.slice (some ⟨bo, 0, none⟩) l.length l.length)] [], .pointer (some ⟨bp, 0, none⟩))] := m4
  try simp only [go_sem, Nat.reduceBEq]
  refine Br.intro (fun hq => ?_) (fun hq => ?_) <;> (try simp only [hq, go_sem, Nat.reduceBEq])
  · have hq : i < rs.length := by simpa using hq
    obtain ⟨b2, o2, rfl, hat2'⟩ := hat2 (by omega)
    obtain ⟨e, he, hm⟩ := get_lt hq
    have wsu := wrap_succ (i := i) (by omega)
    have hsm := (smallC.zero l.length).vals (es := rs.take i)
    have htk : (rs.take i).length ≤ rs.length := by rw [List.length_take]; omega
    simp only [ix_nat hq, go_sem, Nat.reduceBEq]
    refine hsem_vrow tyS29 (hat2'.mono m4.ext) (hr2.mono m4.ext) he rfl fun s2 rd2 => ?_
    obtain ⟨a5, c5, _, rfl, _⟩ := rd2.rows (by decide) e.items.length (fm_len edt_len _)
    try simp only [go_sem, Nat.reduceBEq, Nat.reduceAdd, Nat.reduceLeDiff]
    refine (iCount1 _ l.length (by rw [cntV_len, List.length_replicate]) (by omega) _ (by omega) hsm e a5 _ c5 bo bp h _ m4).mono ?_
    rintro _ h5 ⟨rfl, m5⟩
    rw [← cntV_snoc he] at m5
    try simp only [wsu, go_sem, Nat.reduceBEq]
    exact Again.intro (i + 1) (by first | omega | (simp only; omega)) ⟨hq, m5⟩ (by repeat (first | exact wkF_e | refine wkF_c rfl ?_)) (wkB_c rfl wkB_e) rfl
  have hq : i = rs.length := by simp at hq; omega
  subst hq
  rw [List.take_length] at m4
  have hsm0 := (smallC.zero l.length).vals (es := rs)
  try simp only [go_sem, Nat.reduceBEq, Nat.reduceAdd, Nat.reduceLeDiff, Nat.reduceEqDiff, Int.reduceEq, not_false_eq_true, Int.reduceToNat]
  generalize hcv : cntV (List.replicate l.length 0) rs = cv at *
  have hcl : cv.length = l.length := by rw [← hcv, cntV_len, List.length_replicate]
  refine aloop (ι := Nat) (fun i => [(31, .val (.int .i64 (i : Nat))), (30, .val (.int .i64 (l.length : Nat))), (29, .val (.slice a1 l.length c1)), (6, .val (.func (.func 45) #[] #[.pointer (some ⟨bp, 0, none⟩)])), (5, .val (.pointer (some ⟨bp, 0, none⟩)))]) (fun _ => [])
    (fun i h' => i ≤ l.length ∧ My h h' [(.row 1 ((cntBl cv (l.take i)).flatMap idt), .slice (some ⟨bo, 0, none⟩) l.length l.length), (.ptr [] [.raw (.slice (some ⟨bo, 0, none⟩) l.length l.length)] [], .pointer (some ⟨bp, 0, none⟩))]) (fun i => l.length - i) 0
    ⟨Nat.zero_le _, m4⟩ (by repeat (first | exact wkF_e | refine wkF_c rfl ?_)) wkB_e rfl ?_
  rintro i h5 ⟨hi, m5⟩
  have hi : i ≤ l.length := hi
  have m5 : My h h5 [(.row 1 ((cntBl cv (l.take i)).flatMap idt), .slice (some ⟨bo, 0, none⟩) l.length l.length), (.ptr [] [.raw (.slice (some ⟨bo, 0, none⟩) l.length l.length)] [], .pointer (some ⟨bp, 0, none⟩))] := m5
  have hsm1 := hsm0.blocks (es := l.take i)
  have htk := szG_take (w := Bk.bulk) l i
  try simp only [go_sem, Nat.reduceBEq]
  refine Br.intro (fun hq => ?_) (fun hq => ?_) <;> (try simp only [hq, go_sem, Nat.reduceBEq])
  · have hq : i < l.length := by simpa using hq
    obtain ⟨b1, o1, rfl, hat1'⟩ := hat1 (by omega)
    obtain ⟨b, hbk, hm⟩ := get_lt hq
    have hsb := slots_bulk hbk
    obtain ⟨hsl, hsv⟩ := tab_slots b.tab
    have wsu := wrap_succ (i := i) (by omega)
    simp only [ix_nat hq, go_sem, Nat.reduceBEq]
    refine hpure_base m5.ext (hsem_blk tyS85 hat1' hr1 hbk rfl fun s3 u3 rh ru => ?_)
    obtain ⟨a3, c3, xs3, rfl, hc3, hr3, hat3⟩ := rh.rows (by decide) b.tab.heads.length (fm_len idt_len _)
    obtain ⟨a4, c4, xs4, rfl, hc4, hr4, hat4⟩ := ru.rows (by decide) b.tab.slots.length (fm_len Sl.dt_len _)
    try simp only [go_sem, Nat.reduceBEq, Nat.reduceAdd, Nat.reduceLeDiff]
    refine aloop (ι := Nat) (fun k => [(39, .val (.int .i64 (k : Nat))), (38, .val (.int .i64 (b.tab.slots.length : Nat))), (37, .val (.slice a4 b.tab.slots.length c4)), (31, .val (.int .i64 (i : Nat))), (30, .val (.int .i64 (l.length : Nat))), (29, .val (.slice (some ⟨b1, o1, none⟩) l.length c1)), (6, .val (.func (.func 45) #[] #[.pointer (some ⟨bp, 0, none⟩)])), (5, .val (.pointer (some ⟨bp, 0, none⟩)))]) (fun _ => [])
      (fun k h' => k ≤ b.tab.slots.length ∧ My h h' [(.row 1 ((cntSl (cntBl cv (l.take i)) (b.tab.slots.take k)).flatMap idt), .slice (some ⟨bo, 0, none⟩) l.length l.length), (.ptr [] [.raw (.slice (some ⟨bo, 0, none⟩) l.length l.length)] [], .pointer (some ⟨bp, 0, none⟩))]) (fun k => b.tab.slots.length - k) 0
      ⟨Nat.zero_le _, m5⟩ (by repeat (first | exact wkF_e | refine wkF_c rfl ?_)) wkB_e rfl ?_
    rintro k h6 ⟨hk, m6⟩
    have hk : k ≤ b.tab.slots.length := hk
    have m6 : My h h6 [(.row 1 ((cntSl (cntBl cv (l.take i)) (b.tab.slots.take k)).flatMap idt), .slice (some ⟨bo, 0, none⟩) l.length l.length), (.ptr [] [.raw (.slice (some ⟨bo, 0, none⟩) l.length l.length)] [], .pointer (some ⟨bp, 0, none⟩))] := m6
    have hsm2 := hsm1.slots (es := b.tab.slots.take k)
    have htk2 : (b.tab.slots.take k).length ≤ b.tab.slots.length := by rw [List.length_take]; omega
    try simp only [go_sem, Nat.reduceBEq]
    refine Br.intro (fun hkb => ?_) (fun hkb => ?_) <;> (try simp only [hkb, go_sem, Nat.reduceBEq, Nat.reduceEqDiff])
    · have hkb : k < b.tab.slots.length := by simpa using hkb
      obtain ⟨b4, o4, rfl, hat4'⟩ := hat4 (by omega)
      obtain ⟨e, he, hme⟩ := get_lt hkb
      have wsk := wrap_succ (i := k) (by omega)
      simp only [ix_nat hkb, go_sem, Nat.reduceBEq]
      refine hsem_slot tyS65 (hat4'.mono m6.ext) (hr4.mono m6.ext) he rfl fun s5 rd5 => ?_
      obtain ⟨a5, c5, _, rfl, _⟩ := rd5.rows (by decide) e.val.items.length (fm_len edt_len _)
      cases hv : e.live with
      | false =>
        simp only [wsk, go_sem, Nat.reduceBEq, Nat.reduceAdd, Nat.reduceLeDiff]
        exact Again.intro (k + 1) (by first | omega | (simp only; omega)) ⟨hkb, by rw [cntSl_snoc he, hv]; exact m6⟩ (by repeat (first | exact wkF_e | refine wkF_c rfl ?_)) wkB_e rfl
      | true =>
        try simp only [go_sem, Nat.reduceBEq, Nat.reduceAdd, Nat.reduceLeDiff]
        refine (iCount1 _ l.length (by rw [cntSl_len, cntBl_len, hcl]) (by omega) _ (by omega) hsm2 e.val a5 _ c5 bo bp h _ m6).mono ?_
        rintro _ h7 ⟨rfl, m7⟩
        try simp only [wsk, go_sem, Nat.reduceBEq]
        exact Again.intro (k + 1) (by first | omega | (simp only; omega)) ⟨hkb, by rw [cntSl_snoc he, hv]; exact m7⟩ (by repeat (first | exact wkF_e | refine wkF_c rfl ?_)) wkB_e rfl
    · have hkb : k = b.tab.slots.length := by simp at hkb; omega
      subst hkb
      rw [List.take_length, ← cntBl_snoc hbk] at m6
      simp only [wsu, go_sem]
      exact Again.intro (i + 1) (by first | omega | (simp only; omega)) ⟨hq, m6⟩ (by repeat (first | exact wkF_e | refine wkF_c rfl ?_)) wkB_e rfl
  · have hq : i = l.length := by simp at hq; omega
    subst hq
    rw [List.take_length] at m5
    try simp only [go_sem, Nat.reduceBEq, Nat.reduceAdd, Nat.reduceLeDiff, Nat.reduceEqDiff, Int.reduceEq, not_false_eq_true, Int.reduceToNat]
    refine Hold.ld1 (i := 0) Hold.ptr tyS22 m5.swap rfl rfl ?_
    try simp only [go_sem, Nat.reduceBEq]
    have hcc : counts l rs = cntBl cv l := by unfold counts; rw [hcv]
    have hl2 : (cntBl cv l).length = l.length := by rw [cntBl_len, hcl]
    refine ⟨some ⟨bo, 0, none⟩, l.length, ?_, ?_⟩
    · rw [hcc, hl2]
    · rw [hcc, hl2]
      exact m5.swap.drop
set_option maxHeartbeats 800000 in
theorem sCounts (l : List Bk) (rs : List V) (hb : szG Bk.bulk l ≤ 1048576) (hbr : szG V.bulk rs ≤ 1048576) (s u : Value) (h : Hp) (r1 : RdB h l s) (r2 : Rd h (.row 5 (rs.flatMap V.dt)) u) : ACalls Try.prog 42 #[.agg #[s], u] h (MadeI h (counts l rs)) := by
  have hlen := szG_len (w := Bk.bulk) l
  have hlr := szG_len (w := V.bulk) rs
  obtain ⟨a1, c1, xs1, rfl, hc1, hr1, hat1⟩ := r1.rows (by decide) l.length (fm_len Bk.dt_len _)
  obtain ⟨a2, c2, xs2, rfl, hc2, hr2, hat2⟩ := r2.rows (by decide) rs.length (fm_len V.dt_len _)
  have hw : IntKind.i64.wrap ((l.length : Int) - 1) = (l.length : Int) - 1 := IntWalk.i64_in _ (by omega)
  (refine enter Try.func42 rfl rfl (by kernel_rfl) [] ?_; simp only [go_sem, Nat.reduceBEq])
  refine hsem_my_make slT22 (by decide) rfl rfl (by omega) (by decide) (My.nil (Ext.refl h)) fun bo h1 m1 => ?_
  have m1 : My h h1 [(.row 1 (zeros [.int .i64 0] l.length), .slice (some ⟨bo, 0, none⟩) l.length l.length)] := m1
  rw [zeros_int] at m1
  try simp only [go_sem, Nat.reduceBEq]
  refine aloop (ι := Nat) (fun i => [(6, .val (.int .i64 (i : Nat))), (5, .val (.slice (some ⟨bo, 0, none⟩) l.length l.length)), (1, .val (.slice a2 rs.length c2)), (2, .box 2 0)]) (fun _ => [(2, [.slice a1 l.length c1])])
    (fun i h' => i ≤ rs.length ∧ My h h' [(.row 1 ((cntV (List.replicate l.length 0) (rs.take i)).flatMap idt), .slice (some ⟨bo, 0, none⟩) l.length l.length)]) (fun i => rs.length - i) 0
    ⟨Nat.zero_le _, m1⟩ (by repeat (first | exact wkF_e | refine wkF_c rfl ?_)) (wkB_c rfl wkB_e) rfl ?_
  rintro i h4 ⟨hi, m4⟩
  have hi : i ≤ rs.length := hi
  have m4 : My h h4 [(.row 1 ((cntV (List.replicate l.length 0) (rs.take i)).flatMap idt), .slice (some ⟨bo, 0, none⟩) l.length l.length)] := m4
  have hsm := (smallC.zero l.length).vals (es := rs.take i)
  have htk : (rs.take i).length ≤ rs.length := by rw [List.length_take]; omega
  have hcl0 : (cntV (List.replicate l.length 0) (rs.take i)).length = l.length := by rw [cntV_len, List.length_replicate]
  try simp only [go_sem, Nat.reduceBEq]
  refine Br.intro (fun hq => ?_) (fun hq => ?_) <;> (try simp only [hq, go_sem, Nat.reduceBEq])
  · have hq : i < rs.length := by simpa using hq
    obtain ⟨b2, o2, rfl, hat2'⟩ := hat2 (by omega)
    obtain ⟨e, he, hm⟩ := get_lt hq
    have wsu := wrap_succ (i := i) (by omega)
    have hsn := cntV_snoc (l := List.replicate l.length 0) he
    generalize cntV (List.replicate l.length 0) (rs.take i) = cv at *
    simp only [ix_nat hq, go_sem, Nat.reduceBEq]
    refine hsem_vkind tyS3 (hat2'.mono m4.ext) (hr2.mono m4.ext) he rfl ?_
    by_cases h5 : e.kind = 5
    case neg =>
      simp only [decide_eq_false h5, wsu, go_sem, Nat.reduceBEq]
      exact Again.intro (i + 1) (by first | omega | (simp only; omega)) ⟨hq, by rw [hsn, cnt1_no (hit_no1 h5)]; exact m4⟩ (by repeat (first | exact wkF_e | refine wkF_c rfl ?_)) (wkB_c rfl wkB_e) rfl
    simp only [decide_eq_true h5, ix_nat hq, go_sem, Nat.reduceBEq]
    refine hsem_vnum tyS3 (hat2'.mono m4.ext) (hr2.mono m4.ext) he (by omega) ?_
    simp only [hw, go_sem, Nat.reduceBEq]
    (refine (l1In_c _ _ _ _).mono ?_; rintro _ _ ⟨rfl, rfl⟩; simp only [go_sem, Nat.reduceBEq])
    by_cases hr : 0 ≤ e.num ∧ e.num ≤ (l.length : Int) - 1
    case neg =>
      simp only [decide_eq_false hr, wsu, go_sem, Nat.reduceBEq]
      exact Again.intro (i + 1) (by first | omega | (simp only; omega)) ⟨hq, by rw [hsn, cnt1_no (hit_no2 (by rw [hcl0]; exact hr))]; exact m4⟩ (by repeat (first | exact wkF_e | refine wkF_c rfl ?_)) (wkB_c rfl wkB_e) rfl
    have hlt : e.num.toNat < l.length := by omega
    have hsw := small_get hsm (by omega) (by rw [hcl0]; exact hlt)
    simp only [decide_eq_true hr, go_sem]
    refine regionD_intro (lb := []) (by kernel_rfl) ?_
    simp only [ix_nat hq, go_sem, Nat.reduceBEq]
    refine hsem_vnum tyS3 (hat2'.mono m4.ext) (hr2.mono m4.ext) he (by omega) ?_
    simp only [ix_nat hq, go_sem, Nat.reduceBEq]
    refine hsem_vnum tyS3 (hat2'.mono m4.ext) (hr2.mono m4.ext) he (by omega) ?_
    obtain ⟨ys, hry, haty⟩ := m4.at_
    simp only [ix_int hr.1 hlt, go_sem, Nat.reduceBEq]
    refine hsem_num tyS3 (haty (by omega)) hry (getD_at (d := 0) (by rw [hcl0]; exact hlt)) (by omega) ?_
    simp only [ix_int hr.1 hlt, hsw, go_sem, Nat.reduceBEq]
    obtain ⟨cn, hn', en⟩ := hold_num (es := cv) (b := bo) (cap := l.length) (i := e.num.toNat) (by omega)
    rw [hcl0] at hn'
    obtain ⟨x, hx⟩ := hold_self (es := cv) (i := e.num.toNat) (by omega)
    refine hn'.put1 (h0 := h) (d := .raw (.int .i64 x)) tyS3 rfl rfl (by rw [en, hx]; exact m4) (by omega) fun h5' m5 => ?_
    rw [en] at m5
    try simp only [wsu, go_sem, Nat.reduceBEq]
    exact Again.intro (i + 1) (by first | omega | (simp only; omega)) ⟨hq, by rw [hsn, cnt1_yes (hit_yes h5 (by rw [hcl0]; exact hr))]; exact m5⟩ (by repeat (first | exact wkF_e | refine wkF_c rfl ?_)) (wkB_c rfl wkB_e) rfl
  have hq : i = rs.length := by simp at hq; omega
  subst hq
  rw [List.take_length] at m4
  have hsm0 := (smallC.zero l.length).vals (es := rs)
  try simp only [go_sem, Nat.reduceBEq, Nat.reduceAdd, Nat.reduceLeDiff, Nat.reduceEqDiff, Int.reduceEq, not_false_eq_true, Int.reduceToNat]
  generalize hcv : cntV (List.replicate l.length 0) rs = cv at *
  have hcl : cv.length = l.length := by rw [← hcv, cntV_len, List.length_replicate]
  refine aloop (ι := Nat) (fun i => [(7, .val (.int .i64 (i : Nat))), (5, .val (.slice (some ⟨bo, 0, none⟩) l.length l.length)), (2, .box 2 0)]) (fun _ => [(2, [.slice a1 l.length c1])])
    (fun i h' => i ≤ l.length ∧ My h h' [(.row 1 ((cntBl cv (l.take i)).flatMap idt), .slice (some ⟨bo, 0, none⟩) l.length l.length)]) (fun i => l.length - i) 0
    ⟨Nat.zero_le _, m4⟩ (by repeat (first | exact wkF_e | refine wkF_c rfl ?_)) (wkB_c rfl wkB_e) rfl ?_
  rintro i h5 ⟨hi, m5⟩
  have hi : i ≤ l.length := hi
  have m5 : My h h5 [(.row 1 ((cntBl cv (l.take i)).flatMap idt), .slice (some ⟨bo, 0, none⟩) l.length l.length)] := m5
  have hsm1 := hsm0.blocks (es := l.take i)
  have htk := szG_take (w := Bk.bulk) l i
  try simp only [go_sem, Nat.reduceBEq]
  refine Br.intro (fun hq => ?_) (fun hq => ?_) <;> (try simp only [hq, go_sem, Nat.reduceBEq])
  · have hq : i < l.length := by simpa using hq
    obtain ⟨b1, o1, rfl, hat1'⟩ := hat1 (by omega)
    obtain ⟨b, hbk, hm⟩ := get_lt hq
    have hsb := slots_bulk hbk
    obtain ⟨hsl, hsv⟩ := tab_slots b.tab
    have wsu := wrap_succ (i := i) (by omega)
    simp only [ix_nat hq, go_sem, Nat.reduceBEq, Nat.reduceAdd]
    refine hpure_base m5.ext (hsem_bslots tyS31 hat1' hr1 hbk (by omega) fun u ru => ?_)
    obtain ⟨a4, c4, xs4, rfl, hc4, hr4, hat4⟩ := ru.rows (by decide) b.tab.slots.length (fm_len Sl.dt_len _)
    try simp only [go_sem, Nat.reduceBEq]
    refine aloop (ι := Nat) (fun k => [(9, .val (.int .i64 (k : Nat))), (8, .val (.slice a4 b.tab.slots.length c4)), (7, .val (.int .i64 (i : Nat))), (5, .val (.slice (some ⟨bo, 0, none⟩) l.length l.length)), (2, .box 2 0)]) (fun _ => [(2, [.slice (some ⟨b1, o1, none⟩) l.length c1])])
      (fun k h' => k ≤ b.tab.slots.length ∧ My h h' [(.row 1 ((cntSl (cntBl cv (l.take i)) (b.tab.slots.take k)).flatMap idt), .slice (some ⟨bo, 0, none⟩) l.length l.length)]) (fun k => b.tab.slots.length - k) 0
      ⟨Nat.zero_le _, m5⟩ (by repeat (first | exact wkF_e | refine wkF_c rfl ?_)) (wkB_c rfl wkB_e) rfl ?_
    rintro k h6 ⟨hk, m6⟩
    have hk : k ≤ b.tab.slots.length := hk
    have m6 : My h h6 [(.row 1 ((cntSl (cntBl cv (l.take i)) (b.tab.slots.take k)).flatMap idt), .slice (some ⟨bo, 0, none⟩) l.length l.length)] := m6
    have hsm2 := hsm1.slots (es := b.tab.slots.take k)
    have htk2 : (b.tab.slots.take k).length ≤ b.tab.slots.length := by rw [List.length_take]; omega
    have hcl2 : (cntSl (cntBl cv (l.take i)) (b.tab.slots.take k)).length = l.length := by rw [cntSl_len, cntBl_len, hcl]
    try simp only [go_sem, Nat.reduceBEq]
    refine Br.intro (fun hkb => ?_) (fun hkb => ?_) <;> (try simp only [hkb, go_sem, Nat.reduceBEq, Nat.reduceEqDiff])
    · have hkb : k < b.tab.slots.length := by simpa using hkb
      obtain ⟨b4, o4, rfl, hat4'⟩ := hat4 (by omega)
      obtain ⟨e, he, hme⟩ := get_lt hkb
      have wsk := wrap_succ (i := k) (by omega)
      have hsn := cntSl_snoc (l := cntBl cv (l.take i)) he
      generalize cntSl (cntBl cv (l.take i)) (b.tab.slots.take k) = dv at *
      simp only [ix_nat hkb, go_sem, Nat.reduceBEq, Nat.reduceAdd]
      refine hsem_slive tyS4 (hat4'.mono m6.ext) (hr4.mono m6.ext) he rfl ?_
      cases hv : e.live with
      | false =>
        simp only [wsk, go_sem, Nat.reduceBEq]
        exact Again.intro (k + 1) (by first | omega | (simp only; omega)) ⟨hkb, by rw [hsn, hv]; exact m6⟩ (by repeat (first | exact wkF_e | refine wkF_c rfl ?_)) (wkB_c rfl wkB_e) rfl
      | true =>
      simp only [ix_nat hkb, go_sem, Nat.reduceBEq, Nat.reduceAdd]
      refine hsem_skind tyS3 (hat4'.mono m6.ext) (hr4.mono m6.ext) he (by omega) ?_
      by_cases h5 : e.val.kind = 5
      case neg =>
        simp only [decide_eq_false h5, wsk, go_sem, Nat.reduceBEq]
        exact Again.intro (k + 1) (by first | omega | (simp only; omega)) ⟨hkb, by rw [hsn, hv, if_pos rfl, cnt1_no (hit_no1 h5)]; exact m6⟩ (by repeat (first | exact wkF_e | refine wkF_c rfl ?_)) (wkB_c rfl wkB_e) rfl
      simp only [decide_eq_true h5, ix_nat hkb, go_sem, Nat.reduceBEq, Nat.reduceAdd]
      refine hsem_snum tyS3 (hat4'.mono m6.ext) (hr4.mono m6.ext) he (by omega) ?_
      simp only [hw, go_sem, Nat.reduceBEq]
      (refine (l1In_c _ _ _ _).mono ?_; rintro _ _ ⟨rfl, rfl⟩; simp only [go_sem, Nat.reduceBEq])
      by_cases hr : 0 ≤ e.val.num ∧ e.val.num ≤ (l.length : Int) - 1
      case neg =>
        simp only [decide_eq_false hr, wsk, go_sem, Nat.reduceBEq]
        exact Again.intro (k + 1) (by first | omega | (simp only; omega)) ⟨hkb, by rw [hsn, hv, if_pos rfl, cnt1_no (hit_no2 (by rw [hcl2]; exact hr))]; exact m6⟩ (by repeat (first | exact wkF_e | refine wkF_c rfl ?_)) (wkB_c rfl wkB_e) rfl
      have hlt : e.val.num.toNat < l.length := by omega
      have hsw := small_get hsm2 (by omega) (by rw [hcl2]; exact hlt)
      simp only [decide_eq_true hr, go_sem]
      refine regionD_intro (lb := []) (by kernel_rfl) ?_
      simp only [ix_nat hkb, go_sem, Nat.reduceBEq, Nat.reduceAdd]
      refine hsem_snum tyS3 (hat4'.mono m6.ext) (hr4.mono m6.ext) he (by omega) ?_
      simp only [ix_nat hkb, go_sem, Nat.reduceBEq, Nat.reduceAdd]
      refine hsem_snum tyS3 (hat4'.mono m6.ext) (hr4.mono m6.ext) he (by omega) ?_
      obtain ⟨ys, hry, haty⟩ := m6.at_
      simp only [ix_int hr.1 hlt, go_sem, Nat.reduceBEq]
      refine hsem_num tyS3 (haty (by omega)) hry (getD_at (d := 0) (by rw [hcl2]; exact hlt)) (by omega) ?_
      simp only [ix_int hr.1 hlt, hsw, go_sem, Nat.reduceBEq]
      obtain ⟨cn, hn', en⟩ := hold_num (es := dv) (b := bo) (cap := l.length) (i := e.val.num.toNat) (by omega)
      rw [hcl2] at hn'
      obtain ⟨x, hx⟩ := hold_self (es := dv) (i := e.val.num.toNat) (by omega)
      refine hn'.put1 (h0 := h) (d := .raw (.int .i64 x)) tyS3 rfl rfl (by rw [en, hx]; exact m6) (by omega) fun h7 m7 => ?_
      rw [en] at m7
      try simp only [wsk, go_sem, Nat.reduceBEq]
      exact Again.intro (k + 1) (by first | omega | (simp only; omega)) ⟨hkb, by rw [hsn, hv, if_pos rfl, cnt1_yes (hit_yes h5 (by rw [hcl2]; exact hr))]; exact m7⟩ (by repeat (first | exact wkF_e | refine wkF_c rfl ?_)) (wkB_c rfl wkB_e) rfl
    · have hkb : k = b.tab.slots.length := by simp at hkb; omega
      subst hkb
      rw [List.take_length, ← cntBl_snoc hbk] at m6
      simp only [wsu, go_sem]
      exact Again.intro (i + 1) (by first | omega | (simp only; omega)) ⟨hq, m6⟩ (by repeat (first | exact wkF_e | refine wkF_c rfl ?_)) (wkB_c rfl wkB_e) rfl
  · have hq : i = l.length := by simp at hq; omega
    subst hq
    rw [List.take_length] at m5
    try simp only [go_sem, Nat.reduceBEq, Nat.reduceAdd, Nat.reduceLeDiff, Nat.reduceEqDiff, Int.reduceEq, not_false_eq_true, Int.reduceToNat]
    have hcc : counts l rs = cntBl cv l := by unfold counts; rw [hcv]
    have hl2 : (cntBl cv l).length = l.length := by rw [cntBl_len, hcl]
    refine ⟨some ⟨bo, 0, none⟩, l.length, ?_, ?_⟩
    · rw [hcc, hl2]
    · rw [hcc, hl2]
      exact m5
theorem sCountRefs (l : List Bk) (rs : List V) (hb : szG Bk.bulk l ≤ 1048576) (hbr : szG V.bulk rs ≤ 1048576) (s u : Value) (h : Hp) (r1 : RdB h l s) (r2 : Rd h (.row 5 (rs.flatMap V.dt)) u) : ACalls Try.prog 16 #[.agg #[s], u] h (MadeI h (counts l rs)) := by
  obtain ⟨a1, c1, xs1, rfl, hc1, hr1, hat1⟩ := r1.rows (by decide) l.length (fm_len Bk.dt_len _)
  obtain ⟨a2, c2, xs2, rfl, hc2, hr2, hat2⟩ := r2.rows (by decide) rs.length (fm_len V.dt_len _)
  (refine enter Try.func16 rfl rfl (by kernel_rfl) [] ?_; simp only [go_sem, Nat.reduceBEq, Nat.reduceLeDiff])
  refine (sCounts l rs hb hbr _ _ _ r1 r2).mono ?_
  rintro _ h1 ⟨a, c, rfl, m⟩
  simp only [go_sem, Nat.reduceBEq]
  exact ⟨_, _, rfl, m⟩
end Go.Proofs.Ytpelbeoapmbloaa
