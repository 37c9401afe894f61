/-
  What IsTable of the program and of the reference returns.
-/
import Derived.Test.YtedfplodobpgfaaGreatDoorTabC
import Derived.Test.YtedfplodobpgfaaGreatDoorTabF
import Derived.Test.YtedfplodobpgfaaGreatDoorKey
import Derived.Test.YtedfplodobpgfaaGreatDoorSxTabI
namespace Go.Proofs.YtedfplodobpgfaaGreatDoor
set_option maxRecDepth 8000
open Go Go.Sx
theorem eqI_c (l r : List Int) (hl : l.length ≤ 4611686018427387904) (s1 s2 : Value) (h : Hp) (r1 : RdI h l s1) (r2 : RdI h r s2) : ACalls Tryz.prog 126 #[s1, s2] h (Pu (.bool (decide (l = r))) h) := by
  obtain ⟨a1, c1, xs1, rfl, hc1, hr1, hat1⟩ := r1.rows (by decide) l.length (fm_len idt_len l)
  obtain ⟨a2, c2, xs2, rfl, hc2, hr2, hat2⟩ := r2.rows (by decide) r.length (fm_len idt_len r)
  (refine enter Tryz.func126 rfl rfl (by kernel_rfl) [] ?_; simp only [go_sem, Nat.reduceBEq])
  by_cases he : l.length = r.length
  case neg =>
    simp only [decide_eq_false (show ¬ ((l.length : Nat) : Int) = ((r.length : Nat) : Int) by omega), Bool.not_false, go_sem, Nat.reduceBEq]
    exact ⟨by rw [decide_eq_false (fun e => he (by rw [e]))], rfl⟩
  simp only [decide_eq_true (show ((l.length : Nat) : Int) = ((r.length : Nat) : Int) by omega), Bool.not_true, go_sem, Nat.reduceBEq]
  refine aloop (ι := Nat) (fun i => [(13, .val (.int .i64 (i : Nat))), (12, .val (.int .i64 (l.length : Nat))), (0, .val (.slice a1 l.length c1)), (1, .val (.slice a2 r.length c2))]) (fun _ => []) (fun i h' => i ≤ l.length ∧ l.take i = r.take i ∧ h' = h) (fun i => l.length - i) 0 ⟨Nat.zero_le _, rfl, rfl⟩ (by repeat (first | exact wkF_e | refine wkF_c rfl ?_)) wkB_e rfl ?_
  rintro i _ ⟨hi, hq, rfl⟩
  try simp only [go_sem, Nat.reduceBEq]
  refine Br.intro (fun hb => ?_) (fun hb => ?_) <;> (try simp only [hb, go_sem, Nat.reduceBEq])
  · have hb : i < l.length := by simpa using hb
    obtain ⟨b1, o1, rfl, hat1'⟩ := hat1 (by omega)
    obtain ⟨b2, o2, rfl, hat2'⟩ := hat2 (by omega)
    obtain ⟨e, he1, hm1⟩ := get_lt hb
    obtain ⟨f, he2, hm2⟩ := get_lt (l := r) (i := i) (by omega)
    have wsu := wrap_succ (i := i) (by omega)
    refine regionD_intro (lb := []) (by kernel_rfl) ?_
    simp only [ix_nat hb, go_sem, Nat.reduceBEq]
    refine hsem_num tyS3 hat1' hr1 he1 rfl ?_
    simp only [ix_nat (show i < r.length by omega), go_sem, Nat.reduceBEq]
    refine hsem_num tyS3 hat2' hr2 he2 rfl ?_
    by_cases hef : e = f
    · subst hef
      simp only [decide_true, Bool.not_true, wsu, go_sem, Nat.reduceBEq]
      exact Again.intro (i + 1) (by first | omega | (simp only; omega)) ⟨hb, by rw [take_snoc he1, take_snoc he2, hq], rfl⟩ (by repeat (first | exact wkF_e | refine wkF_c rfl ?_)) wkB_e rfl
    · simp only [decide_eq_false hef, Bool.not_false, go_sem, Nat.reduceBEq]
      refine ⟨?_, rfl⟩
      rw [decide_eq_false]
      intro hlr
      subst hlr
      rw [he1] at he2
      cases he2
      exact hef rfl
  · have hb : i = l.length := by simp at hb; omega
    subst hb
    rw [List.take_length, he, List.take_length] at hq
    exact ⟨by rw [decide_eq_true hq], rfl⟩
set_option maxHeartbeats 1600000 in
theorem iIsTable (t : Tb) (hb : t.bulk ≤ 1099511627776) (s u : Value) (h : Hp) (r1 : RdI h t.heads s) (r2 : RdT h t.slots u) (hE : Env h) : ACalls Tryz.prog 61 #[.agg #[.bool t.hashed, s, u, .int .i64 t.next, .int .i64 t.count]] h (Is (.bool t.isTab) h) := by
  obtain ⟨a1, c1, xs1, rfl, hc1, hr1, hat1⟩ := r1.rows (by decide) t.heads.length (fm_len idt_len _)
  obtain ⟨a2, c2, xs2, rfl, hc2, hr2, hat2⟩ := r2.rows (by decide) t.slots.length (fm_len Sl.dt_len _)
  have hlh : t.heads.length ≤ 1099511627776 := by unfold Tb.bulk at hb; omega
  have hls : t.slots.length ≤ 1099511627776 := by have := szG_len (w := Sl.bulk) t.slots; unfold Tb.bulk at hb; omega
  have hks : ∀ e ∈ t.slots, e.key.str.size ≤ 1099511627776 := fun e he => by
    have h1 := szG_mem (w := Sl.bulk) he
    have e1 : Sl.bulk e = e.key.str.size + e.val.bulk := rfl
    unfold Tb.bulk at hb
    omega
  (refine enter Tryz.func61 rfl rfl (by kernel_rfl) [] ?_; simp only [go_sem, Nat.reduceBEq])
  (refine (iInRange _ _ _ _).mono ?_; rintro _ _ ⟨rfl, rfl⟩; simp only [go_sem, Nat.reduceBEq])
  by_cases hnx : 0 ≤ t.next ∧ t.next ≤ 1000000001
  case neg =>
    simp only [decide_eq_false hnx, Bool.not_false, go_sem, Nat.reduceBEq]
    exact ⟨by rw [noTab fun w => hnx w.next], Ext.refl _⟩
  simp only [decide_eq_true hnx, Bool.not_true, go_sem]
  refine hsem_mk_map fun bm hbn om em => ?_
  generalize hset h bm (.map #[] 0) = h0 at om em ⊢
  try simp only [go_sem, Nat.reduceBEq]
  refine aloop (ι := Nat) (fun i => [(21, .val (.int .i64 (i : Nat))), (20, .val (.int .i64 (t.slots.length : Nat))), (19, .val (.slice a2 t.slots.length c2)), (3, .val (.map (some bm))), (1, .box 1 0)]) (fun _ => [(1, [.bool t.hashed, .slice a1 t.heads.length c1, .slice a2 t.slots.length c2, .int .i64 t.next, .int .i64 t.count])])
    (fun i h' => i ≤ t.slots.length ∧ OwM h' bm (liveK (t.slots.take i)) ∧ Ext h h' ∧ preK t i) (fun i => t.slots.length - i) 0 ⟨Nat.zero_le _, om, em, preK.zero t⟩ (by repeat (first | exact wkF_e | refine wkF_c rfl ?_)) (wkB_c rfl wkB_e) rfl ?_
  rintro i h2 ⟨hi, o2, e2, pre⟩
  have hi : i ≤ t.slots.length := hi
  have pre : preK t i := pre
  try simp only [go_sem, Nat.reduceBEq]
  refine Br.intro (fun hb => ?_) (fun hb => ?_) <;> (try simp only [hb, go_sem, Nat.reduceBEq])
  · have hb : i < t.slots.length := by simpa using hb
    obtain ⟨b2, off2, rfl, hat2'⟩ := hat2 (by omega)
    obtain ⟨e, he, hm⟩ := get_lt hb
    have wsu := wrap_succ (i := i) (by omega)
    simp only [ix_nat hb, go_sem, Nat.reduceBEq]
    refine hsem_slot tyS134 (hat2'.mono e2) (hr2.mono e2) he rfl fun s2 rd2 => ?_
    obtain ⟨a5, c5, _, rfl, _⟩ := rd2.rows (by decide) e.val.items.length (fm_len edt_len _)
    try simp only [go_sem, Nat.reduceBEq, Nat.reduceAdd, Nat.reduceLeDiff]
    refine (iIsKey e.key _ (hE.ext e2)).mono ?_
    rintro _ h7 ⟨rfl, e7⟩
    have e27 := e2.trans e7
    have om7 := o2.ext e7
    cases hko : keyOk e.key with
    | false =>
      try simp only [go_sem, Nat.reduceBEq]
      exact ⟨by rw [noTab fun w => by have := (w.keys i e he).1; rw [hko] at this; cases this], e27⟩
    | true =>
    cases kt : e.key.text with
    | true =>
      have hkx : e.key.text = true ∨ e.key.num < t.next := .inl kt
      have ev : e.key.val = .agg #[.bool true, .int .i64 e.key.num, .string e.key.str] := by unfold Ky.val; rw [kt]
      cases hlv : e.live with
      | true =>
        simp only [go_sem, Nat.reduceBEq, Nat.reduceAdd, Nat.reduceLeDiff]
        rw [← ev]
        refine hsem_map_has (by kernel_rfl) om7 e.key ?_
        by_cases hmm : e.key ∈ liveK (t.slots.take i)
        · simp only [decide_eq_true hmm, go_sem, Nat.reduceBEq]
          obtain ⟨j, u, hj, hu, lu, eu⟩ := mem_liveK.1 hmm
          exact ⟨by rw [noTab fun w => w.dist i j e u hj he hu hlv lu eu], e27⟩
        · simp only [decide_eq_false hmm, go_sem, Nat.reduceBEq, Nat.reduceAdd, Nat.reduceLeDiff]
          rw [← ev]
          refine hsem_map_add (by kernel_rfl) om7 e.key hmm fun h8 o8 b8 => ?_
          have e8 : Ext h h8 := b8.ext e27 (by simpa using hbn)
          simp only [wsu, go_sem, Nat.reduceBEq]
          refine Again.intro (i + 1) (by first | omega | (simp only; omega)) ⟨hb, by rw [liveK_snoc he, hlv]; exact o8, e8, pre.step he ⟨hko, hkx, .inl hlv⟩ fun _ => hmm⟩ (by repeat (first | exact wkF_e | refine wkF_c rfl ?_)) (wkB_c rfl wkB_e) rfl
      | false =>
        simp only [go_sem, Nat.reduceBEq, Nat.reduceAdd, Nat.reduceLeDiff]
        (refine (iZero e.val _ _ (rd2.mono e7)).mono ?_; rintro _ _ ⟨rfl, rfl⟩; simp only [go_sem, Nat.reduceBEq])
        cases hz : e.val.isZero with
        | false =>
          try simp only [go_sem, Nat.reduceBEq]
          exact ⟨by rw [noTab fun w => by have := (w.keys i e he).2.2; rw [hlv, hz] at this; simp at this], e27⟩
        | true =>
          simp only [wsu, go_sem, Nat.reduceBEq]
          refine Again.intro (i + 1) (by first | omega | (simp only; omega)) ⟨hb, by rw [liveK_snoc he, hlv]; exact om7, e27, pre.step he ⟨hko, hkx, .inr hz⟩ fun q => by rw [hlv] at q; cases q⟩ (by repeat (first | exact wkF_e | refine wkF_c rfl ?_)) (wkB_c rfl wkB_e) rfl
    | false =>
      by_cases hnn : t.next ≤ e.key.num
      · simp only [decide_eq_true hnn, go_sem, Nat.reduceBEq]
        exact ⟨by rw [noTab fun w => by have := (w.keys i e he).2.1; rw [kt] at this; simp at this; omega], e27⟩
      have hkx : e.key.text = true ∨ e.key.num < t.next := .inr (by omega)
      have ev : e.key.val = .agg #[.bool false, .int .i64 e.key.num, .string e.key.str] := by unfold Ky.val; rw [kt]
      cases hlv : e.live with
      | true =>
        simp only [decide_eq_false hnn, go_sem, Nat.reduceBEq, Nat.reduceAdd, Nat.reduceLeDiff]
        rw [← ev]
        refine hsem_map_has (by kernel_rfl) om7 e.key ?_
        by_cases hmm : e.key ∈ liveK (t.slots.take i)
        · simp only [decide_eq_true hmm, go_sem, Nat.reduceBEq]
          obtain ⟨j, u, hj, hu, lu, eu⟩ := mem_liveK.1 hmm
          exact ⟨by rw [noTab fun w => w.dist i j e u hj he hu hlv lu eu], e27⟩
        · simp only [decide_eq_false hmm, go_sem, Nat.reduceBEq, Nat.reduceAdd, Nat.reduceLeDiff]
          rw [← ev]
          refine hsem_map_add (by kernel_rfl) om7 e.key hmm fun h8 o8 b8 => ?_
          have e8 : Ext h h8 := b8.ext e27 (by simpa using hbn)
          simp only [wsu, go_sem, Nat.reduceBEq]
          refine Again.intro (i + 1) (by first | omega | (simp only; omega)) ⟨hb, by rw [liveK_snoc he, hlv]; exact o8, e8, pre.step he ⟨hko, hkx, .inl hlv⟩ fun _ => hmm⟩ (by repeat (first | exact wkF_e | refine wkF_c rfl ?_)) (wkB_c rfl wkB_e) rfl
      | false =>
        simp only [decide_eq_false hnn, go_sem, Nat.reduceBEq, Nat.reduceAdd, Nat.reduceLeDiff]
        (refine (iZero e.val _ _ (rd2.mono e7)).mono ?_; rintro _ _ ⟨rfl, rfl⟩; simp only [go_sem, Nat.reduceBEq])
        cases hz : e.val.isZero with
        | false =>
          try simp only [go_sem, Nat.reduceBEq]
          exact ⟨by rw [noTab fun w => by have := (w.keys i e he).2.2; rw [hlv, hz] at this; simp at this], e27⟩
        | true =>
          simp only [wsu, go_sem, Nat.reduceBEq]
          refine Again.intro (i + 1) (by first | omega | (simp only; omega)) ⟨hb, by rw [liveK_snoc he, hlv]; exact om7, e27, pre.step he ⟨hko, hkx, .inr hz⟩ fun q => by rw [hlv] at q; cases q⟩ (by repeat (first | exact wkF_e | refine wkF_c rfl ?_)) (wkB_c rfl wkB_e) rfl
  · have hb : i = t.slots.length := by simp at hb; omega
    subst hb
    rw [List.take_length] at o2
    try simp only [go_sem, Nat.reduceBEq, Nat.reduceAdd, Nat.reduceLeDiff, Nat.reduceEqDiff, Int.reduceEq, not_false_eq_true, Int.reduceToNat]
    refine hsem_map_len (by kernel_rfl) o2 ?_
    rw [liveK_len]
    by_cases hcn : t.count = ((liveN t.slots : Nat) : Int)
    case neg =>
      simp only [decide_eq_false hcn, Bool.not_false, go_sem, Nat.reduceBEq]
      exact ⟨by rw [noTab fun w => hcn w.cnt], e2⟩
    simp only [decide_eq_true hcn, Bool.not_true, go_sem, Nat.reduceBEq]
    by_cases ht : t.hashed = true
    · have hnt : ¬ t.hashed = false := by rw [ht]; simp
      simp only [ht, Bool.not_true, go_sem, Nat.reduceBEq]
      by_cases q1 : (t.heads.length : Int) < 8
      · simp only [decide_eq_true q1, go_sem, Nat.reduceBEq]
        exact ⟨by rw [noTab fun w => by have := (w.hash ht).1; omega], e2⟩
      by_cases q2 : (1024 : Int) < (t.heads.length : Int)
      · simp only [decide_eq_false q1, decide_eq_true q2, go_sem, Nat.reduceBEq]
        exact ⟨by rw [noTab fun w => by have := (w.hash ht).1; omega], e2⟩
      cases q3 : p2 t.heads.length with
      | false =>
        have q3' := q3
        unfold p2 at q3'
        simp only [decide_eq_false q1, decide_eq_false q2, q3', vbin_bandI, Bool.not_false, go_sem, Nat.reduceBEq]
        exact ⟨by rw [noTab fun w => by have := (w.hash ht).2.1; rw [q3] at this; cases this], e2⟩
      | true =>
      have q3' := q3
      unfold p2 at q3'
      by_cases q4 : (t.heads.length : Int) < (t.slots.length : Int)
      · simp only [decide_eq_false q1, decide_eq_false q2, q3', vbin_bandI, Bool.not_true, decide_eq_true q4, go_sem, Nat.reduceBEq]
        exact ⟨by rw [noTab fun w => by have := (w.hash ht).2.2.1; omega], e2⟩
      simp only [decide_eq_false q1, decide_eq_false q2, q3', vbin_bandI, Bool.not_true, decide_eq_false q4, go_sem, Nat.reduceBEq]
      refine (noHeads_c t.heads.length (by omega) _).mono ?_
      rintro _ h3 ⟨a3, c3, rfl, m3⟩
      obtain ⟨_, _, e5, _, _, hat3⟩ := m3.row_shape (by decide) t.heads.length (by rw [fm_len idt_len, List.length_replicate])
      cases e5
      obtain ⟨b3, rfl⟩ := hat3 (by omega)
      try simp only [go_sem, Nat.reduceBEq]
      refine aloop (ι := Nat) (fun i => [(138, .val (.int .i64 (i : Nat))), (137, .val (.int .i64 (t.slots.length : Nat))), (136, .val (.slice a2 t.slots.length c2)), (9, .val (.slice (some ⟨b3, 0, none⟩) t.heads.length c3)), (8, .val (.int .i64 (t.heads.length : Nat))), (1, .box 1 0)]) (fun _ => [(1, [.bool true, .slice a1 t.heads.length c1, .slice a2 t.slots.length c2, .int .i64 t.next, .int .i64 t.count])])
        (fun i h' => i ≤ t.slots.length ∧ My h2 h' [(.row 1 ((hdsN t.heads.length t.slots i).flatMap idt), .slice (some ⟨b3, 0, none⟩) t.heads.length c3)] ∧ preH t i) (fun i => t.slots.length - i) 0 ⟨Nat.zero_le _, m3, preH.zero t⟩ (by repeat (first | exact wkF_e | refine wkF_c rfl ?_)) (wkB_c rfl wkB_e) rfl ?_
      rintro i h4 ⟨hi, m4, prh⟩
      have hi : i ≤ t.slots.length := hi
      have m4 : My h2 h4 [(.row 1 ((hdsN t.heads.length t.slots i).flatMap idt), .slice (some ⟨b3, 0, none⟩) t.heads.length c3)] := m4
      have prh : preH t i := prh
      have hhl := hdsN_len t.heads.length t.slots i
      have e24 := e2.trans m4.ext
      try simp only [go_sem, Nat.reduceBEq]
      refine Br.intro (fun hb => ?_) (fun hb => ?_) <;> (try simp only [hb, go_sem, Nat.reduceBEq])
      · have hb : i < t.slots.length := by simpa using hb
        obtain ⟨b2, off2, rfl, hat2'⟩ := hat2 (by omega)
        obtain ⟨e, he, hm⟩ := get_lt hb
        have wsu := wrap_succ (i := i) (by omega)
        have hmm : e.key.hash % t.heads.length < t.heads.length := Nat.mod_lt _ (by omega)
        have hh := e.key.hash_lt
        have hsk := hks e hm
        have emm : ((e.key.hash : Nat) : Int) % ((t.heads.length : Nat) : Int) = ((e.key.hash % t.heads.length : Nat) : Int) := by omega
        simp only [ix_nat hb, go_sem, Nat.reduceBEq]
        refine hsem_slot tyS134 (hat2'.mono e24) (hr2.mono e24) he rfl fun s2 rd2 => ?_
        obtain ⟨a5, c5, _, rfl, _⟩ := rd2.rows (by decide) e.val.items.length (fm_len edt_len _)
        try simp only [go_sem, Nat.reduceBEq, Nat.reduceAdd, Nat.reduceLeDiff]
        (refine (iKeyHash e.key (by omega) _).mono ?_; rintro _ _ ⟨rfl, rfl⟩; simp only [go_sem, Nat.reduceBEq])
        (refine (iMod _ _ (by omega) (by omega) _).mono ?_; rintro _ _ ⟨rfl, rfl⟩; simp only [go_sem, Nat.reduceBEq])
        rw [emm]
        try simp only [go_sem, Nat.reduceBEq, Nat.reduceAdd, Nat.reduceLeDiff, Nat.reduceEqDiff, Int.reduceEq, not_false_eq_true, Int.reduceToNat]
        refine regionD_intro (lb := [149]) (by kernel_rfl) ?_
        obtain ⟨ys, hr4, hat4⟩ := m4.at_
        simp only [ix_nat hmm, go_sem, Nat.reduceBEq]
        have hgd : (hdsN t.heads.length t.slots i)[e.key.hash % t.heads.length]? = some ((hdsN t.heads.length t.slots i).getD (e.key.hash % t.heads.length) (-1)) := getD_at (by rw [hhl]; exact hmm)
        refine hsem_num tyS3 (hat4 (by omega)) hr4 hgd (by omega) ?_
        by_cases hlk : e.link = (hdsN t.heads.length t.slots i).getD (e.key.hash % t.heads.length) (-1)
        · simp only [decide_eq_true hlk, Bool.not_true, ix_nat hmm, go_sem, Nat.reduceBEq]
          obtain ⟨cn, hn, en⟩ := hold_num (es := hdsN t.heads.length t.slots i) (b := b3) (cap := c3) (i := e.key.hash % t.heads.length) (by rw [hhl]; exact hmm)
          rw [hhl] at hn
          obtain ⟨w, hw⟩ := hold_self (es := hdsN t.heads.length t.slots i) (i := e.key.hash % t.heads.length) (by rw [hhl]; exact hmm)
          refine hn.put1 (h0 := h2) (d := .raw (.int .i64 w)) tyS3 rfl rfl (by rw [en, hw]; exact m4) (by omega) fun h5 m5 => ?_
          rw [en, ← hdsN_succ he] at m5
          simp only [wsu, go_sem, Nat.reduceBEq]
          exact Again.intro (i + 1) (by first | omega | (simp only; omega)) ⟨hb, m5, prh.step he (by rw [hlk]; exact hgd)⟩ (by repeat (first | exact wkF_e | refine wkF_c rfl ?_)) (wkB_c rfl wkB_e) rfl
        · simp only [decide_eq_false hlk, Bool.not_false, go_sem, Nat.reduceBEq]
          have hno : t.isTab = false := noTab fun w => by
            have := (w.hash ht).2.2.2.1 i e he
            rw [hgd] at this
            exact hlk (Option.some.inj this).symm
          exact ⟨by rw [hno], e24⟩
      · have hb : i = t.slots.length := by simp at hb; omega
        subst hb
        try simp only [go_sem, Nat.reduceBEq, Nat.reduceAdd, Nat.reduceLeDiff, Nat.reduceEqDiff, Int.reduceEq, not_false_eq_true, Int.reduceToNat]
        refine (eqI_c (hdsN t.heads.length t.slots t.slots.length) t.heads (by rw [hhl]; omega) _ _ _ m4.rd (r1.mono e24)).mono ?_
        rintro _ _ ⟨rfl, rfl⟩
        try simp only [go_sem, Nat.reduceBEq]
        refine ⟨?_, e24⟩
        by_cases hq : hdsN t.heads.length t.slots t.slots.length = t.heads
        · rw [decide_eq_true hq, yesTab (wf_hashed ht hnx pre hcn (by omega) q3 (by omega) prh hq.symm)]
        · rw [decide_eq_false hq, noTab fun w => hq ((w.hash ht).2.2.2.2).symm]
    · have ht : t.hashed = false := by simpa using ht
      simp only [ht, Bool.not_false, go_sem]
      refine regionD_intro (lb := [79, 84, 87]) (by kernel_rfl) ?_
      by_cases q1 : t.heads.length = 0
      case neg =>
        simp only [decide_eq_true (show (0 : Int) < ((t.heads.length : Nat) : Int) by omega), go_sem, Nat.reduceBEq]
        exact ⟨by rw [noTab fun w => q1 (w.packed ht).1], e2⟩
      simp only [decide_eq_false (show ¬ (0 : Int) < ((t.heads.length : Nat) : Int) by omega), go_sem, Nat.reduceBEq]
      (refine (iMin _ _ _).mono ?_; rintro _ _ ⟨rfl, rfl⟩; simp only [go_sem, Nat.reduceBEq])
      by_cases q2 : min t.next 1024 < ((t.slots.length : Nat) : Int)
      · simp only [decide_eq_true q2, go_sem, Nat.reduceBEq]
        exact ⟨by rw [noTab fun w => by have := w.packed ht; omega], e2⟩
      simp only [decide_eq_false q2, go_sem, Nat.reduceBEq]
      refine aloop (ι := Nat) (fun i => [(94, .val (.int .i64 (i : Nat))), (93, .val (.int .i64 (t.slots.length : Nat))), (92, .val (.slice a2 t.slots.length c2))]) (fun _ => [])
        (fun i h' => i ≤ t.slots.length ∧ h2 = h' ∧ preP t i) (fun i => t.slots.length - i) 0 ⟨Nat.zero_le _, rfl, preP.zero t⟩ (by repeat (first | exact wkF_e | refine wkF_c rfl ?_)) wkB_e rfl ?_
      rintro i _ ⟨hi, rfl, prp⟩
      have hi : i ≤ t.slots.length := hi
      have prp : preP t i := prp
      try simp only [go_sem, Nat.reduceBEq]
      refine Br.intro (fun hb => ?_) (fun hb => ?_) <;> (try simp only [hb, go_sem, Nat.reduceBEq])
      · have hb : i < t.slots.length := by simpa using hb
        obtain ⟨b2, off2, rfl, hat2'⟩ := hat2 (by omega)
        obtain ⟨e, he, hm⟩ := get_lt hb
        have wsu := wrap_succ (i := i) (by omega)
        simp only [ix_nat hb, go_sem, Nat.reduceBEq]
        refine hsem_slot tyS134 (hat2'.mono e2) (hr2.mono e2) he rfl fun s2 rd2 => ?_
        obtain ⟨a5, c5, _, rfl, _⟩ := rd2.rows (by decide) e.val.items.length (fm_len edt_len _)
        try simp only [go_sem, Nat.reduceBEq, Nat.reduceAdd, Nat.reduceLeDiff]
        refine regionD_intro (lb := [100, 106]) (by kernel_rfl) ?_
        try simp only [go_sem, Nat.reduceBEq, Nat.reduceAdd, Nat.reduceLeDiff]
        (refine (iIntKey _ _).mono ?_; rintro _ _ ⟨rfl, rfl⟩; simp only [go_sem, Nat.reduceBEq])
        have kd : decide (e.key.text = false ∧ e.key.num = ((i : Nat) : Int) ∧ e.key.str = ⟨#[]⟩) = decide (e.key = ⟨false, (i : Nat), ⟨#[]⟩⟩) := key_dec e.key ⟨false, (i : Nat), ⟨#[]⟩⟩
        simp only [kd, go_sem]
        by_cases hq : e.key = ⟨false, (i : Nat), ⟨#[]⟩⟩
        case neg =>
          simp only [decide_eq_false hq, Bool.not_false, go_sem, Nat.reduceBEq]
          exact ⟨by rw [noTab fun w => hq ((w.packed ht).2.2.2 i e he).1], e2⟩
        simp only [decide_eq_true hq, Bool.not_true, go_sem, Nat.reduceBEq]
        by_cases hlk : e.link = -1
        case neg =>
          simp only [decide_eq_false hlk, Bool.not_false, go_sem, Nat.reduceBEq]
          exact ⟨by rw [noTab fun w => hlk ((w.packed ht).2.2.2 i e he).2], e2⟩
        simp only [decide_eq_true hlk, Bool.not_true, wsu, go_sem, Nat.reduceBEq]
        exact Again.intro (i + 1) (by first | omega | (simp only; omega)) ⟨hb, rfl, prp.step he ⟨hq, hlk⟩⟩ (by repeat (first | exact wkF_e | refine wkF_c rfl ?_)) wkB_e rfl
      · have hb : i = t.slots.length := by simp at hb; omega
        subst hb
        try simp only [go_sem, Nat.reduceBEq, Nat.reduceAdd, Nat.reduceLeDiff, Nat.reduceEqDiff, Int.reduceEq, not_false_eq_true, Int.reduceToNat]
        exact ⟨by rw [yesTab (wf_packed ht hnx pre hcn q1 (by omega) (by omega) prp)], e2⟩
set_option maxHeartbeats 3200000 in
theorem sIsTable (t : Tb) (hb : t.bulk ≤ 1099511627776) (s u : Value) (h : Hp) (r1 : RdI h t.heads s) (r2 : RdT h t.slots u) : ACalls Tryz.prog 53 #[.agg #[.bool t.hashed, s, u, .int .i64 t.next, .int .i64 t.count]] h (Is (.bool t.isTab) h) := by
  obtain ⟨a1, c1, xs1, rfl, hc1, hr1, hat1⟩ := r1.rows (by decide) t.heads.length (fm_len idt_len _)
  obtain ⟨a2, c2, xs2, rfl, hc2, hr2, hat2⟩ := r2.rows (by decide) t.slots.length (fm_len Sl.dt_len _)
  have hlh : t.heads.length ≤ 1099511627776 := by unfold Tb.bulk at hb; omega
  have hls : t.slots.length ≤ 1099511627776 := by have := szG_len (w := Sl.bulk) t.slots; unfold Tb.bulk at hb; omega
  have hks : ∀ e ∈ t.slots, e.key.str.size ≤ 1099511627776 := fun e he => by
    have h1 := szG_mem (w := Sl.bulk) he
    have e1 : Sl.bulk e = e.key.str.size + e.val.bulk := rfl
    unfold Tb.bulk at hb
    omega
  (refine enter Tryz.func53 rfl rfl (by kernel_rfl) [] ?_; simp only [go_sem, Nat.reduceBEq])
  (refine (l1In_c _ _ _ _).mono ?_; rintro _ _ ⟨rfl, rfl⟩; simp only [go_sem, Nat.reduceBEq])
  by_cases hnx : 0 ≤ t.next ∧ t.next ≤ 1000000001
  case neg =>
    simp only [decide_eq_false hnx, Bool.not_false, go_sem, Nat.reduceBEq]
    exact ⟨by rw [noTab fun w => hnx w.next], Ext.refl _⟩
  by_cases q0 : (1024 : Int) < ((t.slots.length : Nat) : Int)
  · simp only [decide_eq_true hnx, Bool.not_true, decide_eq_true q0, go_sem, Nat.reduceBEq]
    exact ⟨by rw [noTab fun w => by have := w.ch.len; omega], Ext.refl _⟩
  by_cases ht : t.hashed = true
  · simp only [decide_eq_true hnx, Bool.not_true, decide_eq_false q0, ht, go_sem, Nat.reduceBEq]
    (refine (l1In_c _ _ _ _).mono ?_; rintro _ _ ⟨rfl, rfl⟩; simp only [go_sem, Nat.reduceBEq])
    by_cases q1 : (8 : Int) ≤ ((t.heads.length : Nat) : Int) ∧ ((t.heads.length : Nat) : Int) ≤ 1024
    case neg =>
      simp only [decide_eq_false q1, Bool.not_false, go_sem, Nat.reduceBEq]
      exact ⟨by rw [noTab fun w => by have := (w.hash ht).1; omega], Ext.refl _⟩
    cases q3 : p2 t.heads.length with
    | false =>
      have q3' := q3
      unfold p2 at q3'
      simp only [decide_eq_true q1, Bool.not_true, q3', vbin_bandI, Bool.not_false, go_sem, Nat.reduceBEq]
      exact ⟨by rw [noTab fun w => by have := (w.hash ht).2.1; rw [q3] at this; cases this], Ext.refl _⟩
    | true =>
    have q3' := q3
    unfold p2 at q3'
    by_cases q4 : ((t.heads.length : Nat) : Int) < ((t.slots.length : Nat) : Int)
    · simp only [decide_eq_true q1, Bool.not_true, q3', vbin_bandI, decide_eq_true q4, go_sem, Nat.reduceBEq]
      exact ⟨by rw [noTab fun w => by have := (w.hash ht).2.2.1; omega], Ext.refl _⟩
    simp only [decide_eq_true q1, Bool.not_true, q3', vbin_bandI, decide_eq_false q4, go_sem, Nat.reduceBEq]
    refine hsem_my_make slT22 (by decide) rfl rfl (n := t.heads.length) (by omega) (by decide) (My.nil (Ext.refl h)) fun bo h1 m1 => ?_
    try simp only [go_sem, Nat.reduceBEq]
    generalize hzz : SlT.zero _ = zz at m1
    refine aloop (ι := Nat) (fun b => [(6, .val (.int .i64 (b : Nat))), (5, .val (.slice (some ⟨bo, 0, none⟩) t.heads.length t.heads.length)), (3, .val (.int .i64 (t.heads.length : Nat))), (4, .val (.int .i64 0)), (1, .box 1 0)]) (fun _ => [(1, [.bool true, .slice a1 t.heads.length c1, .slice a2 t.slots.length c2, .int .i64 t.next, .int .i64 t.count])])
      (fun b h' => b ≤ t.heads.length ∧ My h h' [(.row 1 ((List.replicate b (-1)).flatMap idt ++ zeros zz (t.heads.length - b)), .slice (some ⟨bo, 0, none⟩) t.heads.length t.heads.length)]) (fun b => t.heads.length - b) 0 ⟨Nat.zero_le _, m1⟩ (by repeat (first | exact wkF_e | refine wkF_c rfl ?_)) (wkB_c rfl wkB_e) rfl ?_
    rintro b h2 ⟨hi, m2⟩
    have hi : b ≤ t.heads.length := hi
    have m2 : My h h2 [(.row 1 ((List.replicate b (-1)).flatMap idt ++ zeros zz (t.heads.length - b)), .slice (some ⟨bo, 0, none⟩) t.heads.length t.heads.length)] := m2
    try simp only [go_sem, Nat.reduceBEq]
    refine Br.intro (fun hb => ?_) (fun hb => ?_) <;> (try simp only [hb, go_sem, Nat.reduceBEq])
    · have hb : b < t.heads.length := by simpa using hb
      have wsu := wrap_succ (i := b) (by omega)
      simp only [ix_nat hb, go_sem, Nat.reduceBEq]
      rw [zeros_sub zz hb] at m2
      have m3 : My h h2 ((.raw (.int .i64 (-1)), .int .i64 (-1)) :: [(.row 1 ((List.replicate b (-1)).flatMap idt ++ (zz.map .raw ++ zeros zz (t.heads.length - (b + 1)))), .slice (some ⟨bo, 0, none⟩) t.heads.length t.heads.length)]) := m2.raw rfl
      refine hsem_my_put (es := idt (-1)) tyS3 m3 (by omega) (by rw [List.length_map, ← hzz]; rfl) rfl rfl ?_ fun h4 m4 => ?_
      · rw [fm_len idt_len, List.length_replicate]
      simp only [wsu, go_sem, Nat.reduceBEq]
      refine Again.intro (b + 1) (by first | omega | (simp only; omega)) ⟨hb, ?_⟩ (by repeat (first | exact wkF_e | refine wkF_c rfl ?_)) (wkB_c rfl wkB_e) rfl
      rw [List.replicate_succ', List.flatMap_append, List.flatMap_cons, List.flatMap_nil, List.append_nil, List.append_assoc]
      exact m4
    have hb : b = t.heads.length := by simp at hb; omega
    subst hb
    rw [Nat.sub_self] at m2
    have m3 : My h h2 [(.row 1 ((hdsN t.heads.length t.slots 0).flatMap idt), .slice (some ⟨bo, 0, none⟩) t.heads.length t.heads.length)] := by simpa [zeros, hdsN] using m2
    try simp only [go_sem, Nat.reduceBEq, Nat.reduceAdd, Nat.reduceLeDiff, Nat.reduceEqDiff, Int.reduceEq, not_false_eq_true, Int.reduceToNat]
    refine aloop (ι := Nat) (fun i => [(7, .val (.int .i64 (i : Nat))), (5, .val (.slice (some ⟨bo, 0, none⟩) t.heads.length t.heads.length)), (3, .val (.int .i64 (t.heads.length : Nat))), (4, .val (.int .i64 (liveN (t.slots.take i) : Nat))), (1, .box 1 0)]) (fun _ => [(1, [.bool true, .slice a1 t.heads.length c1, .slice a2 t.slots.length c2, .int .i64 t.next, .int .i64 t.count])])
      (fun i h' => i ≤ t.slots.length ∧ My h h' [(.row 1 ((hdsN t.heads.length t.slots i).flatMap idt), .slice (some ⟨bo, 0, none⟩) t.heads.length t.heads.length)] ∧ preH t i ∧ preK t i) (fun i => t.slots.length - i) 0 ⟨Nat.zero_le _, m3, preH.zero t, preK.zero t⟩ (by repeat (first | exact wkF_e | refine wkF_c rfl ?_)) (wkB_c rfl wkB_e) rfl ?_
    rintro i h6 ⟨hi, m6, prh, pre⟩
    have hi : i ≤ t.slots.length := hi
    have m6 : My h h6 [(.row 1 ((hdsN t.heads.length t.slots i).flatMap idt), .slice (some ⟨bo, 0, none⟩) t.heads.length t.heads.length)] := m6
    have prh : preH t i := prh
    have pre : preK t i := pre
    have hhl := hdsN_len t.heads.length t.slots i
    try simp only [go_sem, Nat.reduceBEq]
    refine Br.intro (fun hb => ?_) (fun hb => ?_) <;> (try simp only [hb, go_sem, Nat.reduceBEq])
    · have hb : i < t.slots.length := by simpa using hb
      obtain ⟨b2, off2, rfl, hat2'⟩ := hat2 (by omega)
      obtain ⟨e, he, hm⟩ := get_lt hb
      have wsu := wrap_succ (i := i) (by omega)
      have hln := liveN_take t.slots i
      have hln2 := liveN_le t.slots
      have wnu := wrap_succ (i := liveN (t.slots.take i)) (by omega)
      have hmm : e.key.hash % t.heads.length < t.heads.length := Nat.mod_lt _ (by omega)
      have hh := e.key.hash_lt
      have hsk := hks e hm
      have emm : ((e.key.hash : Nat) : Int).tmod ((t.heads.length : Nat) : Int) = ((e.key.hash % t.heads.length : Nat) : Int) := by
        rw [Int.tmod_eq_emod_of_nonneg (by omega)]
        omega
      have hm0 : (((t.heads.length : Nat) : Int) = 0) = False := eq_false (by omega)
      simp only [ix_nat hb, go_sem, Nat.reduceBEq]
      refine hsem_slotB m6.ext tyS134 hat2' hr2 he rfl fun s2 rd2 => ?_
      obtain ⟨a5, c5, _, rfl, _⟩ := rd2.rows (by decide) e.val.items.length (fm_len edt_len _)
      try simp only [go_sem, Nat.reduceBEq, Nat.reduceAdd, Nat.reduceLeDiff]
      (refine (sKeyHash e.key (by omega) _).mono ?_; rintro _ _ ⟨rfl, rfl⟩; simp only [go_sem, Nat.reduceBEq])
      obtain ⟨ys, hr4, hat4⟩ := m6.at_
      simp only [hm0, emm, ix_nat hmm, go_sem, Nat.reduceBEq, not_false_eq_true]
      have hgd : (hdsN t.heads.length t.slots i)[e.key.hash % t.heads.length]? = some ((hdsN t.heads.length t.slots i).getD (e.key.hash % t.heads.length) (-1)) := getD_at (by rw [hhl]; exact hmm)
      refine hsem_num tyS3 (hat4 (by omega)) hr4 hgd (by omega) ?_
      simp only [ix_nat hmm, go_sem, Nat.reduceBEq]
      obtain ⟨cn, hn, en⟩ := hold_num (es := hdsN t.heads.length t.slots i) (b := bo) (cap := t.heads.length) (i := e.key.hash % t.heads.length) (by rw [hhl]; exact hmm)
      rw [hhl] at hn
      obtain ⟨w, hw⟩ := hold_self (es := hdsN t.heads.length t.slots i) (i := e.key.hash % t.heads.length) (by rw [hhl]; exact hmm)
      refine hn.put1 (h0 := h) (d := .raw (.int .i64 w)) tyS3 rfl rfl (by rw [en, hw]; exact m6) (by omega) fun h5 m5 => ?_
      rw [en, ← hdsN_succ he] at m5
      try simp only [go_sem, Nat.reduceBEq, Nat.reduceAdd, Nat.reduceLeDiff]
      refine (sIsKey e.key _ (by omega)).mono ?_
      rintro _ h7 ⟨rfl, e7⟩
      have m7 := m5.mono e7
      have e67 := m7.ext
      cases hko : keyOk e.key with
      | false =>
        try simp only [go_sem, Nat.reduceBEq]
        exact ⟨by rw [noTab fun w => by have := (w.keys i e he).1; rw [hko] at this; cases this], e67⟩
      | true =>
      by_cases hlk : e.link = (hdsN t.heads.length t.slots i).getD (e.key.hash % t.heads.length) (-1)
      case neg =>
        simp only [decide_eq_false hlk, Bool.not_false, go_sem, Nat.reduceBEq]
        have hno : t.isTab = false := noTab fun w => by
          have := (w.hash ht).2.2.2.1 i e he
          rw [hgd] at this
          exact hlk (Option.some.inj this).symm
        exact ⟨by rw [hno], e67⟩
      cases kt : e.key.text with
      | true =>
        have hkx : e.key.text = true ∨ e.key.num < t.next := .inl kt
        cases hlw : e.live with
        | true =>
          have hzo : e.live = true ∨ e.val.isZero = true := .inl hlw
          simp only [decide_eq_true hlk, Bool.not_true, go_sem, Nat.reduceBEq]
          refine aloop (ι := Nat) (fun j => (11, .val (.int .i64 (j : Nat))) :: (8, .box 8 0) :: [(7, .val (.int .i64 (i : Nat))), (5, .val (.slice (some ⟨bo, 0, none⟩) t.heads.length t.heads.length)), (3, .val (.int .i64 (t.heads.length : Nat))), (4, .val (.int .i64 (liveN (t.slots.take i) : Nat))), (1, .box 1 0)]) (fun _ => [(8, [.bool true, .int .i64 e.key.num, .string e.key.str, .int .i64 e.val.kind, .int .i64 e.val.num, .string e.val.str, .int .i64 e.val.next, .slice a5 e.val.items.length c5, .bool true, .int .i64 e.link]), (1, [.bool true, .slice a1 t.heads.length c1, .slice (some ⟨b2, off2, none⟩) t.slots.length c2, .int .i64 t.next, .int .i64 t.count])])
            (fun j h' => h7 = h' ∧ j ≤ i ∧ ∀ (q : Nat) (u : Sl), q < j → t.slots[q]? = some u → u.live = true → ¬ u.key = e.key) (fun j => i - j) 0 ⟨rfl, Nat.zero_le _, fun _ _ h => by omega⟩ (by repeat (first | exact wkF_e | refine wkF_c rfl ?_)) (wkB_c rfl (wkB_c rfl wkB_e)) rfl ?_
          rintro j _ ⟨rfl, hji, hall⟩
          have hji : j ≤ i := hji
          have hall : ∀ (q : Nat) (u : Sl), q < j → t.slots[q]? = some u → u.live = true → ¬ u.key = e.key := hall
          by_cases hj : j < i
          · have hjl : j < t.slots.length := by omega
            obtain ⟨u, hu, _⟩ := get_lt hjl
            have wsj := wrap_succ (i := j) (by omega)
            simp only [decide_eq_true (show ((j : Nat) : Int) < ((i : Nat) : Int) by omega), go_sem, Nat.reduceBEq]
            refine regionD_intro (lb := [157, 164, 170]) (by kernel_rfl) ?_
            simp only [ix_nat hjl, go_sem, Nat.reduceBEq, Nat.reduceAdd]
            refine hsem_slive tyS4 (hat2'.mono e67) (hr2.mono e67) hu rfl ?_
            cases hlu : u.live with
            | false =>
              simp only [wsj, go_sem, Nat.reduceBEq]
              exact Again.intro (j + 1) (by first | omega | (simp only; omega)) ⟨rfl, hj, fun q v hq hv lv => by
                by_cases hqj : q = j
                · subst hqj; rw [hu] at hv; cases hv; rw [hlu] at lv; cases lv
                · exact hall q v (by omega) hv lv⟩ (by repeat (first | exact wkF_e | refine wkF_c rfl ?_)) (wkB_c rfl (wkB_c rfl wkB_e)) rfl
            | true =>
              simp only [ix_nat hjl, go_sem, Nat.reduceBEq]
              refine hsem_skey tyS40 (hat2'.mono e67) (hr2.mono e67) hu rfl ?_
              have kd : decide (u.key.text = true ∧ u.key.num = e.key.num ∧ u.key.str = e.key.str) = decide (u.key = e.key) := by rw [← kt]; exact key_dec u.key e.key
              simp only [kd, keyT40, go_sem, Nat.reduceBEq, Nat.reduceAdd, Nat.reduceLeDiff]
              by_cases hk : u.key = e.key
              · simp only [decide_eq_true hk, go_sem, Nat.reduceBEq]
                exact ⟨by rw [noTab fun w => w.dist i j e u hj he hu hlw hlu hk], e67⟩
              · simp only [decide_eq_false hk, wsj, go_sem, Nat.reduceBEq]
                exact Again.intro (j + 1) (by first | omega | (simp only; omega)) ⟨rfl, hj, fun q v hq hv lv => by
                  by_cases hqj : q = j
                  · subst hqj; rw [hu] at hv; cases hv; exact hk
                  · exact hall q v (by omega) hv lv⟩ (by repeat (first | exact wkF_e | refine wkF_c rfl ?_)) (wkB_c rfl (wkB_c rfl wkB_e)) rfl
          · have hdd : e.live = true → e.key ∉ liveK (t.slots.take i) := fun _ hm => by
              obtain ⟨q, u, hq, hu, lu, eu⟩ := mem_liveK.1 hm
              exact hall q u (by omega) hu lu eu
            simp only [decide_eq_false (show ¬ ((j : Nat) : Int) < ((i : Nat) : Int) by omega), wnu, wsu, go_sem, Nat.reduceBEq, Nat.reduceEqDiff]
            have hln3 : liveN (t.slots.take (i + 1)) = liveN (t.slots.take i) + 1 := by rw [liveN_snoc he, hlw]; rfl
            refine Again.intro (i + 1) (by first | omega | (simp only; omega)) ⟨hb, m7, prh.step he (by rw [hlk]; exact hgd), pre.step he ⟨hko, hkx, hzo⟩ hdd⟩ (by simp only [hln3]; exact (by repeat (first | exact wkF_e | refine wkF_c rfl ?_))) (wkB_c rfl wkB_e) rfl
        | false =>
          simp only [decide_eq_true hlk, Bool.not_true, go_sem, Nat.reduceBEq, Nat.reduceAdd, Nat.reduceLeDiff]
          (refine (sZero e.val _ _ (rd2.mono e67)).mono ?_; rintro _ _ ⟨rfl, rfl⟩; simp only [go_sem, Nat.reduceBEq])
          cases hz : e.val.isZero with
          | false =>
            try simp only [go_sem, Nat.reduceBEq]
            exact ⟨by rw [noTab fun w => by have := (w.keys i e he).2.2; rw [hlw, hz] at this; simp at this], e67⟩
          | true =>
            have hzo : e.live = true ∨ e.val.isZero = true := .inr hz
            try simp only [go_sem]
            have hdd : e.live = true → e.key ∉ liveK (t.slots.take i) := fun q => by rw [hlw] at q; cases q
            refine aloop (ι := Unit) (fun _ => (11, .val (.int .i64 0)) :: (8, .box 8 0) :: [(7, .val (.int .i64 (i : Nat))), (5, .val (.slice (some ⟨bo, 0, none⟩) t.heads.length t.heads.length)), (3, .val (.int .i64 (t.heads.length : Nat))), (4, .val (.int .i64 (liveN (t.slots.take i) : Nat))), (1, .box 1 0)]) (fun _ => [(8, [.bool true, .int .i64 e.key.num, .string e.key.str, .int .i64 e.val.kind, .int .i64 e.val.num, .string e.val.str, .int .i64 e.val.next, .slice a5 e.val.items.length c5, .bool false, .int .i64 e.link]), (1, [.bool true, .slice a1 t.heads.length c1, .slice (some ⟨b2, off2, none⟩) t.slots.length c2, .int .i64 t.next, .int .i64 t.count])]) (fun _ h' => h7 = h') (fun _ => 0) () rfl (by repeat (first | exact wkF_e | refine wkF_c rfl ?_)) (wkB_c rfl (wkB_c rfl wkB_e)) rfl ?_
            rintro _ _ rfl
            simp only [wsu, go_sem, Nat.reduceBEq, Nat.reduceEqDiff]
            have hln3 : liveN (t.slots.take (i + 1)) = liveN (t.slots.take i) := by rw [liveN_snoc he, hlw]; rfl
            refine Again.intro (i + 1) (by first | omega | (simp only; omega)) ⟨hb, m7, prh.step he (by rw [hlk]; exact hgd), pre.step he ⟨hko, hkx, hzo⟩ hdd⟩ (by simp only [hln3]; exact (by repeat (first | exact wkF_e | refine wkF_c rfl ?_))) (wkB_c rfl wkB_e) rfl
      | false =>
        by_cases hnn : t.next ≤ e.key.num
        · simp only [decide_eq_true hlk, Bool.not_true, decide_eq_true hnn, go_sem, Nat.reduceBEq]
          exact ⟨by rw [noTab fun w => by have := (w.keys i e he).2.1; rw [kt] at this; simp at this; omega], e67⟩
        have hkx : e.key.text = true ∨ e.key.num < t.next := .inr (by omega)
        cases hlw : e.live with
        | true =>
          have hzo : e.live = true ∨ e.val.isZero = true := .inl hlw
          simp only [decide_eq_true hlk, Bool.not_true, decide_eq_false hnn, go_sem, Nat.reduceBEq]
          refine aloop (ι := Nat) (fun j => (11, .val (.int .i64 (j : Nat))) :: (8, .box 8 0) :: [(7, .val (.int .i64 (i : Nat))), (5, .val (.slice (some ⟨bo, 0, none⟩) t.heads.length t.heads.length)), (3, .val (.int .i64 (t.heads.length : Nat))), (4, .val (.int .i64 (liveN (t.slots.take i) : Nat))), (1, .box 1 0)]) (fun _ => [(8, [.bool false, .int .i64 e.key.num, .string e.key.str, .int .i64 e.val.kind, .int .i64 e.val.num, .string e.val.str, .int .i64 e.val.next, .slice a5 e.val.items.length c5, .bool true, .int .i64 e.link]), (1, [.bool true, .slice a1 t.heads.length c1, .slice (some ⟨b2, off2, none⟩) t.slots.length c2, .int .i64 t.next, .int .i64 t.count])])
            (fun j h' => h7 = h' ∧ j ≤ i ∧ ∀ (q : Nat) (u : Sl), q < j → t.slots[q]? = some u → u.live = true → ¬ u.key = e.key) (fun j => i - j) 0 ⟨rfl, Nat.zero_le _, fun _ _ h => by omega⟩ (by repeat (first | exact wkF_e | refine wkF_c rfl ?_)) (wkB_c rfl (wkB_c rfl wkB_e)) rfl ?_
          rintro j _ ⟨rfl, hji, hall⟩
          have hji : j ≤ i := hji
          have hall : ∀ (q : Nat) (u : Sl), q < j → t.slots[q]? = some u → u.live = true → ¬ u.key = e.key := hall
          by_cases hj : j < i
          · have hjl : j < t.slots.length := by omega
            obtain ⟨u, hu, _⟩ := get_lt hjl
            have wsj := wrap_succ (i := j) (by omega)
            simp only [decide_eq_true (show ((j : Nat) : Int) < ((i : Nat) : Int) by omega), go_sem, Nat.reduceBEq]
            refine regionD_intro (lb := [157, 164, 170]) (by kernel_rfl) ?_
            simp only [ix_nat hjl, go_sem, Nat.reduceBEq, Nat.reduceAdd]
            refine hsem_slive tyS4 (hat2'.mono e67) (hr2.mono e67) hu rfl ?_
            cases hlu : u.live with
            | false =>
              simp only [wsj, go_sem, Nat.reduceBEq]
              exact Again.intro (j + 1) (by first | omega | (simp only; omega)) ⟨rfl, hj, fun q v hq hv lv => by
                by_cases hqj : q = j
                · subst hqj; rw [hu] at hv; cases hv; rw [hlu] at lv; cases lv
                · exact hall q v (by omega) hv lv⟩ (by repeat (first | exact wkF_e | refine wkF_c rfl ?_)) (wkB_c rfl (wkB_c rfl wkB_e)) rfl
            | true =>
              simp only [ix_nat hjl, go_sem, Nat.reduceBEq]
              refine hsem_skey tyS40 (hat2'.mono e67) (hr2.mono e67) hu rfl ?_
              have kd : decide (u.key.text = false ∧ u.key.num = e.key.num ∧ u.key.str = e.key.str) = decide (u.key = e.key) := by rw [← kt]; exact key_dec u.key e.key
              simp only [kd, keyT40, go_sem, Nat.reduceBEq, Nat.reduceAdd, Nat.reduceLeDiff]
              by_cases hk : u.key = e.key
              · simp only [decide_eq_true hk, go_sem, Nat.reduceBEq]
                exact ⟨by rw [noTab fun w => w.dist i j e u hj he hu hlw hlu hk], e67⟩
              · simp only [decide_eq_false hk, wsj, go_sem, Nat.reduceBEq]
                exact Again.intro (j + 1) (by first | omega | (simp only; omega)) ⟨rfl, hj, fun q v hq hv lv => by
                  by_cases hqj : q = j
                  · subst hqj; rw [hu] at hv; cases hv; exact hk
                  · exact hall q v (by omega) hv lv⟩ (by repeat (first | exact wkF_e | refine wkF_c rfl ?_)) (wkB_c rfl (wkB_c rfl wkB_e)) rfl
          · have hdd : e.live = true → e.key ∉ liveK (t.slots.take i) := fun _ hm => by
              obtain ⟨q, u, hq, hu, lu, eu⟩ := mem_liveK.1 hm
              exact hall q u (by omega) hu lu eu
            simp only [decide_eq_false (show ¬ ((j : Nat) : Int) < ((i : Nat) : Int) by omega), wnu, wsu, go_sem, Nat.reduceBEq, Nat.reduceEqDiff]
            have hln3 : liveN (t.slots.take (i + 1)) = liveN (t.slots.take i) + 1 := by rw [liveN_snoc he, hlw]; rfl
            refine Again.intro (i + 1) (by first | omega | (simp only; omega)) ⟨hb, m7, prh.step he (by rw [hlk]; exact hgd), pre.step he ⟨hko, hkx, hzo⟩ hdd⟩ (by simp only [hln3]; exact (by repeat (first | exact wkF_e | refine wkF_c rfl ?_))) (wkB_c rfl wkB_e) rfl
        | false =>
          simp only [decide_eq_true hlk, Bool.not_true, decide_eq_false hnn, go_sem, Nat.reduceBEq, Nat.reduceAdd, Nat.reduceLeDiff]
          (refine (sZero e.val _ _ (rd2.mono e67)).mono ?_; rintro _ _ ⟨rfl, rfl⟩; simp only [go_sem, Nat.reduceBEq])
          cases hz : e.val.isZero with
          | false =>
            try simp only [go_sem, Nat.reduceBEq]
            exact ⟨by rw [noTab fun w => by have := (w.keys i e he).2.2; rw [hlw, hz] at this; simp at this], e67⟩
          | true =>
            have hzo : e.live = true ∨ e.val.isZero = true := .inr hz
            try simp only [go_sem]
            have hdd : e.live = true → e.key ∉ liveK (t.slots.take i) := fun q => by rw [hlw] at q; cases q
            refine aloop (ι := Unit) (fun _ => (11, .val (.int .i64 0)) :: (8, .box 8 0) :: [(7, .val (.int .i64 (i : Nat))), (5, .val (.slice (some ⟨bo, 0, none⟩) t.heads.length t.heads.length)), (3, .val (.int .i64 (t.heads.length : Nat))), (4, .val (.int .i64 (liveN (t.slots.take i) : Nat))), (1, .box 1 0)]) (fun _ => [(8, [.bool false, .int .i64 e.key.num, .string e.key.str, .int .i64 e.val.kind, .int .i64 e.val.num, .string e.val.str, .int .i64 e.val.next, .slice a5 e.val.items.length c5, .bool false, .int .i64 e.link]), (1, [.bool true, .slice a1 t.heads.length c1, .slice (some ⟨b2, off2, none⟩) t.slots.length c2, .int .i64 t.next, .int .i64 t.count])]) (fun _ h' => h7 = h') (fun _ => 0) () rfl (by repeat (first | exact wkF_e | refine wkF_c rfl ?_)) (wkB_c rfl (wkB_c rfl wkB_e)) rfl ?_
            rintro _ _ rfl
            simp only [wsu, go_sem, Nat.reduceBEq, Nat.reduceEqDiff]
            have hln3 : liveN (t.slots.take (i + 1)) = liveN (t.slots.take i) := by rw [liveN_snoc he, hlw]; rfl
            refine Again.intro (i + 1) (by first | omega | (simp only; omega)) ⟨hb, m7, prh.step he (by rw [hlk]; exact hgd), pre.step he ⟨hko, hkx, hzo⟩ hdd⟩ (by simp only [hln3]; exact (by repeat (first | exact wkF_e | refine wkF_c rfl ?_))) (wkB_c rfl wkB_e) rfl
    · have hb : i = t.slots.length := by simp at hb; omega
      subst hb
      try simp only [go_sem, Nat.reduceBEq, Nat.reduceAdd, Nat.reduceLeDiff, Nat.reduceEqDiff, Int.reduceEq, not_false_eq_true, Int.reduceToNat]
      rw [List.take_length]
      refine aloop (ι := Nat) (fun b => (12, .val (.int .i64 (b : Nat))) :: [(5, .val (.slice (some ⟨bo, 0, none⟩) t.heads.length t.heads.length)), (3, .val (.int .i64 (t.heads.length : Nat))), (4, .val (.int .i64 (liveN t.slots : Nat))), (1, .box 1 0)]) (fun _ => [(1, [.bool true, .slice a1 t.heads.length c1, .slice a2 t.slots.length c2, .int .i64 t.next, .int .i64 t.count])])
        (fun b h' => h6 = h' ∧ b ≤ t.heads.length ∧ t.heads.take b = (hdsN t.heads.length t.slots t.slots.length).take b) (fun b => t.heads.length - b) 0 ⟨rfl, Nat.zero_le _, rfl⟩ (by repeat (first | exact wkF_e | refine wkF_c rfl ?_)) (wkB_c rfl wkB_e) rfl ?_
      rintro b _ ⟨rfl, hi2, hq⟩
      have hi2 : b ≤ t.heads.length := hi2
      have hq : t.heads.take b = (hdsN t.heads.length t.slots t.slots.length).take b := hq
      try simp only [go_sem, Nat.reduceBEq]
      refine Br.intro (fun hb => ?_) (fun hb => ?_) <;> (try simp only [hb, go_sem, Nat.reduceBEq])
      · have hb : b < t.heads.length := by simpa using hb
        obtain ⟨b1, off1, rfl, hat1'⟩ := hat1 (by omega)
        obtain ⟨x, hx, _⟩ := get_lt hb
        obtain ⟨y, hy, _⟩ := get_lt (l := hdsN t.heads.length t.slots t.slots.length) (i := b) (by omega)
        have wsu := wrap_succ (i := b) (by omega)
        obtain ⟨ys, hr4, hat4⟩ := m6.at_
        refine regionD_intro (lb := [183]) (by kernel_rfl) ?_
        simp only [ix_nat hb, go_sem, Nat.reduceBEq]
        refine hsem_num tyS3 (hat1'.mono m6.ext) (hr1.mono m6.ext) hx rfl ?_
        simp only [ix_nat hb, go_sem, Nat.reduceBEq]
        refine hsem_num tyS3 (hat4 (by omega)) hr4 hy (by omega) ?_
        by_cases hxy : x = y
        · subst hxy
          simp only [decide_true, Bool.not_true, wsu, go_sem, Nat.reduceBEq]
          exact Again.intro (b + 1) (by first | omega | (simp only; omega)) ⟨rfl, hb, by rw [take_snoc hx, take_snoc hy, hq]⟩ (by repeat (first | exact wkF_e | refine wkF_c rfl ?_)) (wkB_c rfl wkB_e) rfl
        · simp only [decide_eq_false hxy, Bool.not_false, go_sem, Nat.reduceBEq]
          have hno : t.isTab = false := noTab fun w => by
            have := (w.hash ht).2.2.2.2
            rw [← this, hx] at hy
            exact hxy (Option.some.inj hy)
          exact ⟨by rw [hno], m6.ext⟩
      · have hb : b = t.heads.length := by simp at hb; omega
        subst hb
        rw [List.take_length, List.take_of_length_le (by omega)] at hq
        try simp only [go_sem, Nat.reduceBEq, Nat.reduceAdd, Nat.reduceLeDiff, Nat.reduceEqDiff, Int.reduceEq, not_false_eq_true, Int.reduceToNat]
        refine ⟨?_, m6.ext⟩
        by_cases hcn : ((liveN t.slots : Nat) : Int) = t.count
        · rw [decide_eq_true hcn, yesTab (wf_hashed ht hnx pre hcn.symm (by omega) q3 (by omega) prh hq)]
        · rw [decide_eq_false hcn, noTab fun w => hcn w.cnt.symm]
  · have ht : t.hashed = false := by simpa using ht
    simp only [decide_eq_true hnx, Bool.not_true, decide_eq_false q0, ht, Bool.not_false, go_sem, Nat.reduceBEq]
    by_cases q1 : t.heads.length = 0
    case neg =>
      simp only [decide_eq_true (show (0 : Int) < ((t.heads.length : Nat) : Int) by omega), go_sem, Nat.reduceBEq]
      exact ⟨by rw [noTab fun w => q1 (w.packed ht).1], Ext.refl _⟩
    by_cases q2 : t.next < ((t.slots.length : Nat) : Int)
    · simp only [decide_eq_false (show ¬ (0 : Int) < ((t.heads.length : Nat) : Int) by omega), decide_eq_true q2, go_sem, Nat.reduceBEq]
      exact ⟨by rw [noTab fun w => by have := (w.packed ht).2.1; omega], Ext.refl _⟩
    simp only [decide_eq_false (show ¬ (0 : Int) < ((t.heads.length : Nat) : Int) by omega), decide_eq_false q2, go_sem, Nat.reduceBEq]
    refine hsem_my_make slT22 (by decide) rfl rfl (n := t.heads.length) (by omega) (by decide) (My.nil (Ext.refl h)) fun bo h1 m1 => ?_
    have em1 := m1.ext
    clear m1
    try simp only [go_sem, Nat.reduceBEq]
    refine aloop (ι := Unit) (fun _ => [(6, .val (.int .i64 0)), (5, .val (.slice (some ⟨bo, 0, none⟩) t.heads.length t.heads.length)), (3, .val (.int .i64 (t.heads.length : Nat))), (4, .val (.int .i64 0)), (1, .box 1 0)]) (fun _ => [(1, [.bool false, .slice a1 t.heads.length c1, .slice a2 t.slots.length c2, .int .i64 t.next, .int .i64 t.count])])
      (fun _ h' => h1 = h') (fun _ => 0) () rfl (by repeat (first | exact wkF_e | refine wkF_c rfl ?_)) (wkB_c rfl wkB_e) rfl ?_
    rintro _ _ rfl
    simp only [decide_eq_false (show ¬ (0 : Int) < ((t.heads.length : Nat) : Int) by omega), go_sem, Nat.reduceBEq]
    refine aloop (ι := Nat) (fun i => [(7, .val (.int .i64 (i : Nat))), (5, .val (.slice (some ⟨bo, 0, none⟩) t.heads.length t.heads.length)), (3, .val (.int .i64 (t.heads.length : Nat))), (4, .val (.int .i64 (liveN (t.slots.take i) : Nat))), (1, .box 1 0)]) (fun _ => [(1, [.bool false, .slice a1 t.heads.length c1, .slice a2 t.slots.length c2, .int .i64 t.next, .int .i64 t.count])])
      (fun i h' => i ≤ t.slots.length ∧ Ext h h' ∧ preP t i ∧ preK t i) (fun i => t.slots.length - i) 0 ⟨Nat.zero_le _, em1, preP.zero t, preK.zero t⟩ (by repeat (first | exact wkF_e | refine wkF_c rfl ?_)) (wkB_c rfl wkB_e) rfl ?_
    rintro i h6 ⟨hi, e6, prp, pre⟩
    have hi : i ≤ t.slots.length := hi
    have e6 : Ext h h6 := e6
    have prp : preP t i := prp
    have pre : preK t i := pre
    try simp only [go_sem, Nat.reduceBEq]
    refine Br.intro (fun hb => ?_) (fun hb => ?_) <;> (try simp only [hb, go_sem, Nat.reduceBEq])
    · have hb : i < t.slots.length := by simpa using hb
      obtain ⟨b2, off2, rfl, hat2'⟩ := hat2 (by omega)
      obtain ⟨e, he, hm⟩ := get_lt hb
      have wsu := wrap_succ (i := i) (by omega)
      have hln := liveN_take t.slots i
      have hln2 := liveN_le t.slots
      have wnu := wrap_succ (i := liveN (t.slots.take i)) (by omega)
      have hsk := hks e hm
      simp only [ix_nat hb, go_sem, Nat.reduceBEq]
      refine hsem_slotB e6 tyS134 hat2' hr2 he rfl fun s2 rd2 => ?_
      obtain ⟨a5, c5, _, rfl, _⟩ := rd2.rows (by decide) e.val.items.length (fm_len edt_len _)
      have kd : decide (e.key.text = false ∧ e.key.num = ((i : Nat) : Int) ∧ e.key.str = ⟨#[]⟩) = decide (e.key = ⟨false, (i : Nat), ⟨#[]⟩⟩) := key_dec e.key ⟨false, (i : Nat), ⟨#[]⟩⟩
      simp only [kd, keyT40, go_sem, Nat.reduceBEq, Nat.reduceAdd, Nat.reduceLeDiff]
      by_cases hq : e.key = ⟨false, (i : Nat), ⟨#[]⟩⟩
      case neg =>
        simp only [decide_eq_false hq, Bool.not_false, go_sem, Nat.reduceBEq]
        exact ⟨by rw [noTab fun w => hq ((w.packed ht).2.2.2 i e he).1], e6⟩
      simp only [decide_eq_true hq, Bool.not_true, go_sem, Nat.reduceBEq, Nat.reduceAdd, Nat.reduceLeDiff]
      refine (sIsKey e.key _ (by omega)).mono ?_
      rintro _ h7 ⟨rfl, e7⟩
      have e67 := e6.trans e7
      cases hko : keyOk e.key with
      | false =>
        try simp only [go_sem, Nat.reduceBEq]
        exact ⟨by rw [noTab fun w => by have := (w.keys i e he).1; rw [hko] at this; cases this], e67⟩
      | true =>
      by_cases hlk : e.link = -1
      case neg =>
        simp only [decide_eq_false hlk, Bool.not_false, go_sem, Nat.reduceBEq]
        exact ⟨by rw [noTab fun w => hlk ((w.packed ht).2.2.2 i e he).2], e67⟩
      have kt : e.key.text = false := by rw [hq]
      by_cases hnn : t.next ≤ e.key.num
      · simp only [decide_eq_true hlk, Bool.not_true, kt, decide_eq_true hnn, go_sem, Nat.reduceBEq]
        exact ⟨by rw [noTab fun w => by have := (w.keys i e he).2.1; rw [kt] at this; simp at this; omega], e67⟩
      have hkx : e.key.text = true ∨ e.key.num < t.next := .inr (by omega)
      cases hlw : e.live with
      | true =>
        have hzo : e.live = true ∨ e.val.isZero = true := .inl hlw
        simp only [decide_eq_true hlk, Bool.not_true, kt, decide_eq_false hnn, go_sem, Nat.reduceBEq]
        have hdd : e.live = true → e.key ∉ liveK (t.slots.take i) := fun _ hm => by
          obtain ⟨j, u, hj, hu, _, eu⟩ := mem_liveK.1 hm
          rw [(prp j u hj hu).1, hq] at eu
          simp only [Ky.mk.injEq] at eu
          omega
        refine aloop (ι := Unit) (fun _ => (11, .val (.int .i64 0)) :: (8, .box 8 0) :: [(7, .val (.int .i64 (i : Nat))), (5, .val (.slice (some ⟨bo, 0, none⟩) t.heads.length t.heads.length)), (3, .val (.int .i64 (t.heads.length : Nat))), (4, .val (.int .i64 (liveN (t.slots.take i) : Nat))), (1, .box 1 0)]) (fun _ => [(8, [.bool false, .int .i64 e.key.num, .string e.key.str, .int .i64 e.val.kind, .int .i64 e.val.num, .string e.val.str, .int .i64 e.val.next, .slice a5 e.val.items.length c5, .bool true, .int .i64 e.link]), (1, [.bool false, .slice a1 t.heads.length c1, .slice (some ⟨b2, off2, none⟩) t.slots.length c2, .int .i64 t.next, .int .i64 t.count])]) (fun _ h' => h7 = h') (fun _ => 0) () rfl (by repeat (first | exact wkF_e | refine wkF_c rfl ?_)) (wkB_c rfl (wkB_c rfl wkB_e)) rfl ?_
        rintro _ _ rfl
        simp only [wnu, wsu, go_sem, Nat.reduceBEq, Nat.reduceEqDiff]
        have hln3 : liveN (t.slots.take (i + 1)) = liveN (t.slots.take i) + 1 := by rw [liveN_snoc he, hlw]; rfl
        refine Again.intro (i + 1) (by first | omega | (simp only; omega)) ⟨hb, e67, prp.step he ⟨hq, hlk⟩, pre.step he ⟨hko, hkx, hzo⟩ hdd⟩ (by simp only [hln3]; exact (by repeat (first | exact wkF_e | refine wkF_c rfl ?_))) (wkB_c rfl wkB_e) rfl
      | false =>
        simp only [decide_eq_true hlk, Bool.not_true, kt, decide_eq_false hnn, go_sem, Nat.reduceBEq, Nat.reduceAdd, Nat.reduceLeDiff]
        (refine (sZero e.val _ _ (rd2.mono e67)).mono ?_; rintro _ _ ⟨rfl, rfl⟩; simp only [go_sem, Nat.reduceBEq])
        cases hz : e.val.isZero with
        | false =>
          try simp only [go_sem, Nat.reduceBEq]
          exact ⟨by rw [noTab fun w => by have := (w.keys i e he).2.2; rw [hlw, hz] at this; simp at this], e67⟩
        | true =>
          have hzo : e.live = true ∨ e.val.isZero = true := .inr hz
          try simp only [go_sem]
          have hdd : e.live = true → e.key ∉ liveK (t.slots.take i) := fun _ hm => by
            obtain ⟨j, u, hj, hu, _, eu⟩ := mem_liveK.1 hm
            rw [(prp j u hj hu).1, hq] at eu
            simp only [Ky.mk.injEq] at eu
            omega
          refine aloop (ι := Unit) (fun _ => (11, .val (.int .i64 0)) :: (8, .box 8 0) :: [(7, .val (.int .i64 (i : Nat))), (5, .val (.slice (some ⟨bo, 0, none⟩) t.heads.length t.heads.length)), (3, .val (.int .i64 (t.heads.length : Nat))), (4, .val (.int .i64 (liveN (t.slots.take i) : Nat))), (1, .box 1 0)]) (fun _ => [(8, [.bool false, .int .i64 e.key.num, .string e.key.str, .int .i64 e.val.kind, .int .i64 e.val.num, .string e.val.str, .int .i64 e.val.next, .slice a5 e.val.items.length c5, .bool false, .int .i64 e.link]), (1, [.bool false, .slice a1 t.heads.length c1, .slice (some ⟨b2, off2, none⟩) t.slots.length c2, .int .i64 t.next, .int .i64 t.count])]) (fun _ h' => h7 = h') (fun _ => 0) () rfl (by repeat (first | exact wkF_e | refine wkF_c rfl ?_)) (wkB_c rfl (wkB_c rfl wkB_e)) rfl ?_
          rintro _ _ rfl
          simp only [wsu, go_sem, Nat.reduceBEq, Nat.reduceEqDiff]
          have hln3 : liveN (t.slots.take (i + 1)) = liveN (t.slots.take i) := by rw [liveN_snoc he, hlw]; rfl
          refine Again.intro (i + 1) (by first | omega | (simp only; omega)) ⟨hb, e67, prp.step he ⟨hq, hlk⟩, pre.step he ⟨hko, hkx, hzo⟩ hdd⟩ (by simp only [hln3]; exact (by repeat (first | exact wkF_e | refine wkF_c rfl ?_))) (wkB_c rfl wkB_e) rfl
    · have hb : i = t.slots.length := by simp at hb; omega
      subst hb
      rw [List.take_length]
      try simp only [go_sem, Nat.reduceBEq, Nat.reduceAdd, Nat.reduceLeDiff, Nat.reduceEqDiff, Int.reduceEq, not_false_eq_true, Int.reduceToNat]
      refine aloop (ι := Unit) (fun _ => [(12, .val (.int .i64 0)), (3, .val (.int .i64 (t.heads.length : Nat))), (4, .val (.int .i64 (liveN t.slots : Nat))), (1, .box 1 0)]) (fun _ => [(1, [.bool false, .slice a1 t.heads.length c1, .slice a2 t.slots.length c2, .int .i64 t.next, .int .i64 t.count])])
        (fun _ h' => h6 = h') (fun _ => 0) () rfl (by repeat (first | exact wkF_e | refine wkF_c rfl ?_)) (wkB_c rfl wkB_e) rfl ?_
      rintro _ _ rfl
      simp only [decide_eq_false (show ¬ (0 : Int) < ((t.heads.length : Nat) : Int) by omega), go_sem, Nat.reduceBEq]
      refine ⟨?_, e6⟩
      by_cases hcn : ((liveN t.slots : Nat) : Int) = t.count
      · rw [decide_eq_true hcn, yesTab (wf_packed ht hnx pre hcn.symm q1 (by omega) (by omega) prp)]
      · rw [decide_eq_false hcn, noTab fun w => hcn w.cnt.symm]
end Go.Proofs.YtedfplodobpgfaaGreatDoor
