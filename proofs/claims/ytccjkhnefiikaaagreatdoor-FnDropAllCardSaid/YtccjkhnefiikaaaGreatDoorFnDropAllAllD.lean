/-
  The statement FnDropAll is proved: for each argument the law returns true; nothing is assumed.
-/
import Derived.Test.YtccjkhnefiikaaaGreatDoorFnDropAllAllC
namespace Go.Proofs.YtccjkhnefiikaaaGreatDoor
set_option maxRecDepth 8000
open Go Go.Sx
theorem eqI_c (l r : List Int) (hl : l.length ≤ 4611686018427387904) (s1 s2 : Value) (h : Hp) (r1 : RdI h l s1) (r2 : RdI h r s2) : ACalls Tryz.prog 61 #[s1, s2] h (Pu (.bool (decide (l = r))) h) := by
  obtain ⟨a1, c1, xs1, rfl, hc1, hr1, hat1⟩ := r1.rows (by decide) l.length (fm_len idt_len l)
  obtain ⟨a2, c2, xs2, rfl, hc2, hr2, hat2⟩ := r2.rows (by decide) r.length (fm_len idt_len r)
  (refine enter Tryz.func61 rfl rfl (by kernel_rfl) [] ?_; simp only [go_sem, Nat.reduceBEq])
  by_cases he : l.length = r.length
  case neg =>
    simp only [decide_eq_false (show ¬ ((l.length : Nat) : Int) = ((r.length : Nat) : Int) by omega), Bool.not_false, go_sem, Nat.reduceBEq]
    exact ⟨by rw [decide_eq_false (fun e => he (by rw [e]))], rfl⟩
  simp only [decide_eq_true (show ((l.length : Nat) : Int) = ((r.length : Nat) : Int) by omega), Bool.not_true, go_sem, Nat.reduceBEq]
  refine aloop (ι := Nat) (fun i => [(13, .val (.int .i64 (i : Nat))), (12, .val (.int .i64 (l.length : Nat))), (0, .val (.slice a1 l.length c1)), (1, .val (.slice a2 r.length c2))]) (fun _ => []) (fun i h' => i ≤ l.length ∧ l.take i = r.take i ∧ h' = h) (fun i => l.length - i) 0 ⟨Nat.zero_le _, rfl, rfl⟩ (by repeat (first | exact wkF_e | refine wkF_c rfl ?_)) wkB_e rfl ?_
  rintro i _ ⟨hi, hq, rfl⟩
  try simp only [go_sem, Nat.reduceBEq]
  refine Br.intro (fun hb => ?_) (fun hb => ?_) <;> (try simp only [hb, go_sem, Nat.reduceBEq])
  · have hb : i < l.length := by simpa using hb
    obtain ⟨b1, o1, rfl, hat1'⟩ := hat1 (by omega)
    obtain ⟨b2, o2, rfl, hat2'⟩ := hat2 (by omega)
    obtain ⟨e, he1, hm1⟩ := get_lt hb
    obtain ⟨f, he2, hm2⟩ := get_lt (l := r) (i := i) (by omega)
    have wsu := wrap_succ (i := i) (by omega)
    refine regionD_intro (lb := []) (by kernel_rfl) ?_
    simp only [ix_nat hb, go_sem, Nat.reduceBEq]
    refine hsem_num tyS3 hat1' hr1 he1 rfl ?_
    simp only [ix_nat (show i < r.length by omega), go_sem, Nat.reduceBEq]
    refine hsem_num tyS3 hat2' hr2 he2 rfl ?_
    by_cases hef : e = f
    · subst hef
      simp only [decide_true, Bool.not_true, wsu, go_sem, Nat.reduceBEq]
      exact Again.intro (i + 1) (by first | omega | (simp only; omega)) ⟨hb, by rw [take_snoc he1, take_snoc he2, hq], rfl⟩ (by repeat (first | exact wkF_e | refine wkF_c rfl ?_)) wkB_e rfl
    · simp only [decide_eq_false hef, Bool.not_false, go_sem, Nat.reduceBEq]
      refine ⟨?_, rfl⟩
      rw [decide_eq_false]
      intro hlr
      subst hlr
      rw [he1] at he2
      cases he2
      exact hef rfl
  · have hb : i = l.length := by simp at hb; omega
    subst hb
    rw [List.take_length, he, List.take_length] at hq
    exact ⟨by rw [decide_eq_true hq], rfl⟩
set_option maxHeartbeats 1600000 in
theorem iIsTable (t : Tb) (hb : t.bulk ≤ 1099511627776) (s u : Value) (h : Hp) (r1 : RdI h t.heads s) (r2 : RdT h t.slots u) (hE : Env h) : ACalls Tryz.prog 34 #[.agg #[.bool t.hashed, s, u, .int .i64 t.next, .int .i64 t.count]] h (Is (.bool t.isTab) h) := by
  obtain ⟨a1, c1, xs1, rfl, hc1, hr1, hat1⟩ := r1.rows (by decide) t.heads.length (fm_len idt_len _)
  obtain ⟨a2, c2, xs2, rfl, hc2, hr2, hat2⟩ := r2.rows (by decide) t.slots.length (fm_len Sl.dt_len _)
  have hlh : t.heads.length ≤ 1099511627776 := by unfold Tb.bulk at hb; omega
  have hls : t.slots.length ≤ 1099511627776 := by have := szG_len (w := Sl.bulk) t.slots; unfold Tb.bulk at hb; omega
  have hks : ∀ e ∈ t.slots, e.key.str.size ≤ 1099511627776 := fun e he => by
    have h1 := szG_mem (w := Sl.bulk) he
    have e1 : Sl.bulk e = e.key.str.size + e.val.bulk := rfl
    unfold Tb.bulk at hb
    omega
  (refine enter Tryz.func34 rfl rfl (by kernel_rfl) [] ?_; simp only [go_sem, Nat.reduceBEq])
  (refine (iInRange _ _ _ _).mono ?_; rintro _ _ ⟨rfl, rfl⟩; simp only [go_sem, Nat.reduceBEq])
  by_cases hnx : 0 ≤ t.next ∧ t.next ≤ 1000000001
  case neg =>
    simp only [decide_eq_false hnx, Bool.not_false, go_sem, Nat.reduceBEq]
    exact ⟨by rw [noTab fun w => hnx w.next], Ext.refl _⟩
  simp only [decide_eq_true hnx, Bool.not_true, go_sem]
  refine hsem_mk_map fun bm hbn om em => ?_
  generalize hset h bm (.map #[] 0) = h0 at om em ⊢
  try simp only [go_sem, Nat.reduceBEq]
  refine aloop (ι := Nat) (fun i => [(21, .val (.int .i64 (i : Nat))), (20, .val (.int .i64 (t.slots.length : Nat))), (19, .val (.slice a2 t.slots.length c2)), (3, .val (.map (some bm))), (1, .box 1 0)]) (fun _ => [(1, [.bool t.hashed, .slice a1 t.heads.length c1, .slice a2 t.slots.length c2, .int .i64 t.next, .int .i64 t.count])])
    (fun i h' => i ≤ t.slots.length ∧ OwM h' bm (liveK (t.slots.take i)) ∧ Ext h h' ∧ preK t i) (fun i => t.slots.length - i) 0 ⟨Nat.zero_le _, om, em, preK.zero t⟩ (by repeat (first | exact wkF_e | refine wkF_c rfl ?_)) (wkB_c rfl wkB_e) rfl ?_
  rintro i h2 ⟨hi, o2, e2, pre⟩
  have hi : i ≤ t.slots.length := hi
  have pre : preK t i := pre
  try simp only [go_sem, Nat.reduceBEq]
  refine Br.intro (fun hb => ?_) (fun hb => ?_) <;> (try simp only [hb, go_sem, Nat.reduceBEq])
  · have hb : i < t.slots.length := by simpa using hb
    obtain ⟨b2, off2, rfl, hat2'⟩ := hat2 (by omega)
    obtain ⟨e, he, hm⟩ := get_lt hb
    have wsu := wrap_succ (i := i) (by omega)
    simp only [ix_nat hb, go_sem, Nat.reduceBEq]
    refine hsem_slot tyS59 (hat2'.mono e2) (hr2.mono e2) he rfl fun s2 rd2 => ?_
    obtain ⟨a5, c5, _, rfl, _⟩ := rd2.rows (by decide) e.val.items.length (fm_len edt_len _)
    try simp only [go_sem, Nat.reduceBEq, Nat.reduceAdd, Nat.reduceLeDiff]
    refine (iIsKey e.key _ (hE.ext e2)).mono ?_
    rintro _ h7 ⟨rfl, e7⟩
    have e27 := e2.trans e7
    have om7 := o2.ext e7
    cases hko : keyOk e.key with
    | false =>
      try simp only [go_sem, Nat.reduceBEq]
      exact ⟨by rw [noTab fun w => by have := (w.keys i e he).1; rw [hko] at this; cases this], e27⟩
    | true =>
    cases kt : e.key.text with
    | true =>
      have hkx : e.key.text = true ∨ e.key.num < t.next := .inl kt
      have ev : e.key.val = .agg #[.bool true, .int .i64 e.key.num, .string e.key.str] := by unfold Ky.val; rw [kt]
      cases hlv : e.live with
      | true =>
        simp only [go_sem, Nat.reduceBEq, Nat.reduceAdd, Nat.reduceLeDiff]
        rw [← ev]
        refine hsem_map_has (by kernel_rfl) om7 e.key ?_
        by_cases hmm : e.key ∈ liveK (t.slots.take i)
        · simp only [decide_eq_true hmm, go_sem, Nat.reduceBEq]
          obtain ⟨j, u, hj, hu, lu, eu⟩ := mem_liveK.1 hmm
          exact ⟨by rw [noTab fun w => w.dist i j e u hj he hu hlv lu eu], e27⟩
        · simp only [decide_eq_false hmm, go_sem, Nat.reduceBEq, Nat.reduceAdd, Nat.reduceLeDiff]
          rw [← ev]
          refine hsem_map_add (by kernel_rfl) om7 e.key hmm fun h8 o8 b8 => ?_
          have e8 : Ext h h8 := b8.ext e27 (by simpa using hbn)
          simp only [wsu, go_sem, Nat.reduceBEq]
          refine Again.intro (i + 1) (by first | omega | (simp only; omega)) ⟨hb, by rw [liveK_snoc he, hlv]; exact o8, e8, pre.step he ⟨hko, hkx, .inl hlv⟩ fun _ => hmm⟩ (by repeat (first | exact wkF_e | refine wkF_c rfl ?_)) (wkB_c rfl wkB_e) rfl
      | false =>
        simp only [go_sem, Nat.reduceBEq, Nat.reduceAdd, Nat.reduceLeDiff]
        (refine (iZero e.val _ _ (rd2.mono e7)).mono ?_; rintro _ _ ⟨rfl, rfl⟩; simp only [go_sem, Nat.reduceBEq])
        cases hz : e.val.isZero with
        | false =>
          try simp only [go_sem, Nat.reduceBEq]
          exact ⟨by rw [noTab fun w => by have := (w.keys i e he).2.2; rw [hlv, hz] at this; simp at this], e27⟩
        | true =>
          simp only [wsu, go_sem, Nat.reduceBEq]
          refine Again.intro (i + 1) (by first | omega | (simp only; omega)) ⟨hb, by rw [liveK_snoc he, hlv]; exact om7, e27, pre.step he ⟨hko, hkx, .inr hz⟩ fun q => by rw [hlv] at q; cases q⟩ (by repeat (first | exact wkF_e | refine wkF_c rfl ?_)) (wkB_c rfl wkB_e) rfl
    | false =>
      by_cases hnn : t.next ≤ e.key.num
      · simp only [decide_eq_true hnn, go_sem, Nat.reduceBEq]
        exact ⟨by rw [noTab fun w => by have := (w.keys i e he).2.1; rw [kt] at this; simp at this; omega], e27⟩
      have hkx : e.key.text = true ∨ e.key.num < t.next := .inr (by omega)
      have ev : e.key.val = .agg #[.bool false, .int .i64 e.key.num, .string e.key.str] := by unfold Ky.val; rw [kt]
      cases hlv : e.live with
      | true =>
        simp only [decide_eq_false hnn, go_sem, Nat.reduceBEq, Nat.reduceAdd, Nat.reduceLeDiff]
        rw [← ev]
        refine hsem_map_has (by kernel_rfl) om7 e.key ?_
        by_cases hmm : e.key ∈ liveK (t.slots.take i)
        · simp only [decide_eq_true hmm, go_sem, Nat.reduceBEq]
          obtain ⟨j, u, hj, hu, lu, eu⟩ := mem_liveK.1 hmm
          exact ⟨by rw [noTab fun w => w.dist i j e u hj he hu hlv lu eu], e27⟩
        · simp only [decide_eq_false hmm, go_sem, Nat.reduceBEq, Nat.reduceAdd, Nat.reduceLeDiff]
          rw [← ev]
          refine hsem_map_add (by kernel_rfl) om7 e.key hmm fun h8 o8 b8 => ?_
          have e8 : Ext h h8 := b8.ext e27 (by simpa using hbn)
          simp only [wsu, go_sem, Nat.reduceBEq]
          refine Again.intro (i + 1) (by first | omega | (simp only; omega)) ⟨hb, by rw [liveK_snoc he, hlv]; exact o8, e8, pre.step he ⟨hko, hkx, .inl hlv⟩ fun _ => hmm⟩ (by repeat (first | exact wkF_e | refine wkF_c rfl ?_)) (wkB_c rfl wkB_e) rfl
      | false =>
        simp only [decide_eq_false hnn, go_sem, Nat.reduceBEq, Nat.reduceAdd, Nat.reduceLeDiff]
        (refine (iZero e.val _ _ (rd2.mono e7)).mono ?_; rintro _ _ ⟨rfl, rfl⟩; simp only [go_sem, Nat.reduceBEq])
        cases hz : e.val.isZero with
        | false =>
          try simp only [go_sem, Nat.reduceBEq]
          exact ⟨by rw [noTab fun w => by have := (w.keys i e he).2.2; rw [hlv, hz] at this; simp at this], e27⟩
        | true =>
          simp only [wsu, go_sem, Nat.reduceBEq]
          refine Again.intro (i + 1) (by first | omega | (simp only; omega)) ⟨hb, by rw [liveK_snoc he, hlv]; exact om7, e27, pre.step he ⟨hko, hkx, .inr hz⟩ fun q => by rw [hlv] at q; cases q⟩ (by repeat (first | exact wkF_e | refine wkF_c rfl ?_)) (wkB_c rfl wkB_e) rfl
  · have hb : i = t.slots.length := by simp at hb; omega
    subst hb
    rw [List.take_length] at o2
    try simp only [go_sem, Nat.reduceBEq, Nat.reduceAdd, Nat.reduceLeDiff, Nat.reduceEqDiff, Int.reduceEq, not_false_eq_true, Int.reduceToNat]
    refine hsem_map_len (by kernel_rfl) o2 ?_
    rw [liveK_len]
    by_cases hcn : t.count = ((liveN t.slots : Nat) : Int)
    case neg =>
      simp only [decide_eq_false hcn, Bool.not_false, go_sem, Nat.reduceBEq]
      exact ⟨by rw [noTab fun w => hcn w.cnt], e2⟩
    simp only [decide_eq_true hcn, Bool.not_true, go_sem, Nat.reduceBEq]
    by_cases ht : t.hashed = true
    · have hnt : ¬ t.hashed = false := by rw [ht]; simp
      simp only [ht, Bool.not_true, go_sem, Nat.reduceBEq]
      by_cases q1 : (t.heads.length : Int) < 8
      · simp only [decide_eq_true q1, go_sem, Nat.reduceBEq]
        exact ⟨by rw [noTab fun w => by have := (w.hash ht).1; omega], e2⟩
      by_cases q2 : (1024 : Int) < (t.heads.length : Int)
      · simp only [decide_eq_false q1, decide_eq_true q2, go_sem, Nat.reduceBEq]
        exact ⟨by rw [noTab fun w => by have := (w.hash ht).1; omega], e2⟩
      cases q3 : p2 t.heads.length with
      | false =>
        have q3' := q3
        unfold p2 at q3'
        simp only [decide_eq_false q1, decide_eq_false q2, q3', vbin_bandI, Bool.not_false, go_sem, Nat.reduceBEq]
        exact ⟨by rw [noTab fun w => by have := (w.hash ht).2.1; rw [q3] at this; cases this], e2⟩
      | true =>
      have q3' := q3
      unfold p2 at q3'
      by_cases q4 : (t.heads.length : Int) < (t.slots.length : Int)
      · simp only [decide_eq_false q1, decide_eq_false q2, q3', vbin_bandI, Bool.not_true, decide_eq_true q4, go_sem, Nat.reduceBEq]
        exact ⟨by rw [noTab fun w => by have := (w.hash ht).2.2.1; omega], e2⟩
      simp only [decide_eq_false q1, decide_eq_false q2, q3', vbin_bandI, Bool.not_true, decide_eq_false q4, go_sem, Nat.reduceBEq]
      refine (noHeads_c t.heads.length (by omega) _).mono ?_
      rintro _ h3 ⟨a3, c3, rfl, m3⟩
      obtain ⟨_, _, e5, _, _, hat3⟩ := m3.row_shape (by decide) t.heads.length (by rw [fm_len idt_len, List.length_replicate])
      cases e5
      obtain ⟨b3, rfl⟩ := hat3 (by omega)
      try simp only [go_sem, Nat.reduceBEq]
      refine aloop (ι := Nat) (fun i => [(138, .val (.int .i64 (i : Nat))), (137, .val (.int .i64 (t.slots.length : Nat))), (136, .val (.slice a2 t.slots.length c2)), (9, .val (.slice (some ⟨b3, 0, none⟩) t.heads.length c3)), (8, .val (.int .i64 (t.heads.length : Nat))), (1, .box 1 0)]) (fun _ => [(1, [.bool true, .slice a1 t.heads.length c1, .slice a2 t.slots.length c2, .int .i64 t.next, .int .i64 t.count])])
        (fun i h' => i ≤ t.slots.length ∧ My h2 h' [(.row 1 ((hdsN t.heads.length t.slots i).flatMap idt), .slice (some ⟨b3, 0, none⟩) t.heads.length c3)] ∧ preH t i) (fun i => t.slots.length - i) 0 ⟨Nat.zero_le _, m3, preH.zero t⟩ (by repeat (first | exact wkF_e | refine wkF_c rfl ?_)) (wkB_c rfl wkB_e) rfl ?_
      rintro i h4 ⟨hi, m4, prh⟩
      have hi : i ≤ t.slots.length := hi
      have m4 : My h2 h4 [(.row 1 ((hdsN t.heads.length t.slots i).flatMap idt), .slice (some ⟨b3, 0, none⟩) t.heads.length c3)] := m4
      have prh : preH t i := prh
      have hhl := hdsN_len t.heads.length t.slots i
      have e24 := e2.trans m4.ext
      try simp only [go_sem, Nat.reduceBEq]
      refine Br.intro (fun hb => ?_) (fun hb => ?_) <;> (try simp only [hb, go_sem, Nat.reduceBEq])
      · have hb : i < t.slots.length := by simpa using hb
        obtain ⟨b2, off2, rfl, hat2'⟩ := hat2 (by omega)
        obtain ⟨e, he, hm⟩ := get_lt hb
        have wsu := wrap_succ (i := i) (by omega)
        have hmm : e.key.hash % t.heads.length < t.heads.length := Nat.mod_lt _ (by omega)
        have hh := e.key.hash_lt
        have hsk := hks e hm
        have emm : ((e.key.hash : Nat) : Int) % ((t.heads.length : Nat) : Int) = ((e.key.hash % t.heads.length : Nat) : Int) := by omega
        simp only [ix_nat hb, go_sem, Nat.reduceBEq]
        refine hsem_slot tyS59 (hat2'.mono e24) (hr2.mono e24) he rfl fun s2 rd2 => ?_
        obtain ⟨a5, c5, _, rfl, _⟩ := rd2.rows (by decide) e.val.items.length (fm_len edt_len _)
        try simp only [go_sem, Nat.reduceBEq, Nat.reduceAdd, Nat.reduceLeDiff]
        (refine (iKeyHash e.key (by omega) _).mono ?_; rintro _ _ ⟨rfl, rfl⟩; simp only [go_sem, Nat.reduceBEq])
        (refine (iMod _ _ (by omega) (by omega) _).mono ?_; rintro _ _ ⟨rfl, rfl⟩; simp only [go_sem, Nat.reduceBEq])
        rw [emm]
        try simp only [go_sem, Nat.reduceBEq, Nat.reduceAdd, Nat.reduceLeDiff, Nat.reduceEqDiff, Int.reduceEq, not_false_eq_true, Int.reduceToNat]
        refine regionD_intro (lb := [149]) (by kernel_rfl) ?_
        obtain ⟨ys, hr4, hat4⟩ := m4.at_
        simp only [ix_nat hmm, go_sem, Nat.reduceBEq]
        have hgd : (hdsN t.heads.length t.slots i)[e.key.hash % t.heads.length]? = some ((hdsN t.heads.length t.slots i).getD (e.key.hash % t.heads.length) (-1)) := getD_at (by rw [hhl]; exact hmm)
        refine hsem_num tyS3 (hat4 (by omega)) hr4 hgd (by omega) ?_
        by_cases hlk : e.link = (hdsN t.heads.length t.slots i).getD (e.key.hash % t.heads.length) (-1)
        · simp only [decide_eq_true hlk, Bool.not_true, ix_nat hmm, go_sem, Nat.reduceBEq]
          obtain ⟨cn, hn, en⟩ := hold_num (es := hdsN t.heads.length t.slots i) (b := b3) (cap := c3) (i := e.key.hash % t.heads.length) (by rw [hhl]; exact hmm)
          rw [hhl] at hn
          obtain ⟨w, hw⟩ := hold_self (es := hdsN t.heads.length t.slots i) (i := e.key.hash % t.heads.length) (by rw [hhl]; exact hmm)
          refine hn.put1 (h0 := h2) (d := .raw (.int .i64 w)) tyS3 rfl rfl (by rw [en, hw]; exact m4) (by omega) fun h5 m5 => ?_
          rw [en, ← hdsN_succ he] at m5
          simp only [wsu, go_sem, Nat.reduceBEq]
          exact Again.intro (i + 1) (by first | omega | (simp only; omega)) ⟨hb, m5, prh.step he (by rw [hlk]; exact hgd)⟩ (by repeat (first | exact wkF_e | refine wkF_c rfl ?_)) (wkB_c rfl wkB_e) rfl
        · simp only [decide_eq_false hlk, Bool.not_false, go_sem, Nat.reduceBEq]
          have hno : t.isTab = false := noTab fun w => by
            have := (w.hash ht).2.2.2.1 i e he
            rw [hgd] at this
            exact hlk (Option.some.inj this).symm
          exact ⟨by rw [hno], e24⟩
      · have hb : i = t.slots.length := by simp at hb; omega
        subst hb
        try simp only [go_sem, Nat.reduceBEq, Nat.reduceAdd, Nat.reduceLeDiff, Nat.reduceEqDiff, Int.reduceEq, not_false_eq_true, Int.reduceToNat]
        refine (eqI_c (hdsN t.heads.length t.slots t.slots.length) t.heads (by rw [hhl]; omega) _ _ _ m4.rd (r1.mono e24)).mono ?_
        rintro _ _ ⟨rfl, rfl⟩
        try simp only [go_sem, Nat.reduceBEq]
        refine ⟨?_, e24⟩
        by_cases hq : hdsN t.heads.length t.slots t.slots.length = t.heads
        · rw [decide_eq_true hq, yesTab (wf_hashed ht hnx pre hcn (by omega) q3 (by omega) prh hq.symm)]
        · rw [decide_eq_false hq, noTab fun w => hq ((w.hash ht).2.2.2.2).symm]
    · have ht : t.hashed = false := by simpa using ht
      simp only [ht, Bool.not_false, go_sem]
      refine regionD_intro (lb := [79, 84, 87]) (by kernel_rfl) ?_
      by_cases q1 : t.heads.length = 0
      case neg =>
        simp only [decide_eq_true (show (0 : Int) < ((t.heads.length : Nat) : Int) by omega), go_sem, Nat.reduceBEq]
        exact ⟨by rw [noTab fun w => q1 (w.packed ht).1], e2⟩
      simp only [decide_eq_false (show ¬ (0 : Int) < ((t.heads.length : Nat) : Int) by omega), go_sem, Nat.reduceBEq]
      (refine (iMin _ _ _).mono ?_; rintro _ _ ⟨rfl, rfl⟩; simp only [go_sem, Nat.reduceBEq])
      by_cases q2 : min t.next 1024 < ((t.slots.length : Nat) : Int)
      · simp only [decide_eq_true q2, go_sem, Nat.reduceBEq]
        exact ⟨by rw [noTab fun w => by have := w.packed ht; omega], e2⟩
      simp only [decide_eq_false q2, go_sem, Nat.reduceBEq]
      refine aloop (ι := Nat) (fun i => [(94, .val (.int .i64 (i : Nat))), (93, .val (.int .i64 (t.slots.length : Nat))), (92, .val (.slice a2 t.slots.length c2))]) (fun _ => [])
        (fun i h' => i ≤ t.slots.length ∧ h2 = h' ∧ preP t i) (fun i => t.slots.length - i) 0 ⟨Nat.zero_le _, rfl, preP.zero t⟩ (by repeat (first | exact wkF_e | refine wkF_c rfl ?_)) wkB_e rfl ?_
      rintro i _ ⟨hi, rfl, prp⟩
      have hi : i ≤ t.slots.length := hi
      have prp : preP t i := prp
      try simp only [go_sem, Nat.reduceBEq]
      refine Br.intro (fun hb => ?_) (fun hb => ?_) <;> (try simp only [hb, go_sem, Nat.reduceBEq])
      · have hb : i < t.slots.length := by simpa using hb
        obtain ⟨b2, off2, rfl, hat2'⟩ := hat2 (by omega)
        obtain ⟨e, he, hm⟩ := get_lt hb
        have wsu := wrap_succ (i := i) (by omega)
        simp only [ix_nat hb, go_sem, Nat.reduceBEq]
        refine hsem_slot tyS59 (hat2'.mono e2) (hr2.mono e2) he rfl fun s2 rd2 => ?_
        obtain ⟨a5, c5, _, rfl, _⟩ := rd2.rows (by decide) e.val.items.length (fm_len edt_len _)
        try simp only [go_sem, Nat.reduceBEq, Nat.reduceAdd, Nat.reduceLeDiff]
        refine regionD_intro (lb := [100, 106]) (by kernel_rfl) ?_
        try simp only [go_sem, Nat.reduceBEq, Nat.reduceAdd, Nat.reduceLeDiff]
        (refine (iIntKey _ _).mono ?_; rintro _ _ ⟨rfl, rfl⟩; simp only [go_sem, Nat.reduceBEq])
        have kd : decide (e.key.text = false ∧ e.key.num = ((i : Nat) : Int) ∧ e.key.str = ⟨#[]⟩) = decide (e.key = ⟨false, (i : Nat), ⟨#[]⟩⟩) := key_dec e.key ⟨false, (i : Nat), ⟨#[]⟩⟩
        simp only [kd, go_sem]
        by_cases hq : e.key = ⟨false, (i : Nat), ⟨#[]⟩⟩
        case neg =>
          simp only [decide_eq_false hq, Bool.not_false, go_sem, Nat.reduceBEq]
          exact ⟨by rw [noTab fun w => hq ((w.packed ht).2.2.2 i e he).1], e2⟩
        simp only [decide_eq_true hq, Bool.not_true, go_sem, Nat.reduceBEq]
        by_cases hlk : e.link = -1
        case neg =>
          simp only [decide_eq_false hlk, Bool.not_false, go_sem, Nat.reduceBEq]
          exact ⟨by rw [noTab fun w => hlk ((w.packed ht).2.2.2 i e he).2], e2⟩
        simp only [decide_eq_true hlk, Bool.not_true, wsu, go_sem, Nat.reduceBEq]
        exact Again.intro (i + 1) (by first | omega | (simp only; omega)) ⟨hb, rfl, prp.step he ⟨hq, hlk⟩⟩ (by repeat (first | exact wkF_e | refine wkF_c rfl ?_)) wkB_e rfl
      · have hb : i = t.slots.length := by simp at hb; omega
        subst hb
        try simp only [go_sem, Nat.reduceBEq, Nat.reduceAdd, Nat.reduceLeDiff, Nat.reduceEqDiff, Int.reduceEq, not_false_eq_true, Int.reduceToNat]
        exact ⟨by rw [yesTab (wf_packed ht hnx pre hcn q1 (by omega) (by omega) prp)], e2⟩
set_option maxHeartbeats 3200000 in
theorem sIsTable (t : Tb) (hb : t.bulk ≤ 1099511627776) (s u : Value) (h : Hp) (r1 : RdI h t.heads s) (r2 : RdT h t.slots u) : ACalls Tryz.prog 31 #[.agg #[.bool t.hashed, s, u, .int .i64 t.next, .int .i64 t.count]] h (Is (.bool t.isTab) h) := by
  obtain ⟨a1, c1, xs1, rfl, hc1, hr1, hat1⟩ := r1.rows (by decide) t.heads.length (fm_len idt_len _)
  obtain ⟨a2, c2, xs2, rfl, hc2, hr2, hat2⟩ := r2.rows (by decide) t.slots.length (fm_len Sl.dt_len _)
  have hlh : t.heads.length ≤ 1099511627776 := by unfold Tb.bulk at hb; omega
  have hls : t.slots.length ≤ 1099511627776 := by have := szG_len (w := Sl.bulk) t.slots; unfold Tb.bulk at hb; omega
  have hks : ∀ e ∈ t.slots, e.key.str.size ≤ 1099511627776 := fun e he => by
    have h1 := szG_mem (w := Sl.bulk) he
    have e1 : Sl.bulk e = e.key.str.size + e.val.bulk := rfl
    unfold Tb.bulk at hb
    omega
  (refine enter Tryz.func31 rfl rfl (by kernel_rfl) [] ?_; simp only [go_sem, Nat.reduceBEq])
  (refine (l1In_c _ _ _ _).mono ?_; rintro _ _ ⟨rfl, rfl⟩; simp only [go_sem, Nat.reduceBEq])
  by_cases hnx : 0 ≤ t.next ∧ t.next ≤ 1000000001
  case neg =>
    simp only [decide_eq_false hnx, Bool.not_false, go_sem, Nat.reduceBEq]
    exact ⟨by rw [noTab fun w => hnx w.next], Ext.refl _⟩
  by_cases q0 : (1024 : Int) < ((t.slots.length : Nat) : Int)
  · simp only [decide_eq_true hnx, Bool.not_true, decide_eq_true q0, go_sem, Nat.reduceBEq]
    exact ⟨by rw [noTab fun w => by have := w.ch.len; omega], Ext.refl _⟩
  by_cases ht : t.hashed = true
  · simp only [decide_eq_true hnx, Bool.not_true, decide_eq_false q0, ht, go_sem, Nat.reduceBEq]
    (refine (l1In_c _ _ _ _).mono ?_; rintro _ _ ⟨rfl, rfl⟩; simp only [go_sem, Nat.reduceBEq])
    by_cases q1 : (8 : Int) ≤ ((t.heads.length : Nat) : Int) ∧ ((t.heads.length : Nat) : Int) ≤ 1024
    case neg =>
      simp only [decide_eq_false q1, Bool.not_false, go_sem, Nat.reduceBEq]
      exact ⟨by rw [noTab fun w => by have := (w.hash ht).1; omega], Ext.refl _⟩
    cases q3 : p2 t.heads.length with
    | false =>
      have q3' := q3
      unfold p2 at q3'
      simp only [decide_eq_true q1, Bool.not_true, q3', vbin_bandI, Bool.not_false, go_sem, Nat.reduceBEq]
      exact ⟨by rw [noTab fun w => by have := (w.hash ht).2.1; rw [q3] at this; cases this], Ext.refl _⟩
    | true =>
    have q3' := q3
    unfold p2 at q3'
    by_cases q4 : ((t.heads.length : Nat) : Int) < ((t.slots.length : Nat) : Int)
    · simp only [decide_eq_true q1, Bool.not_true, q3', vbin_bandI, decide_eq_true q4, go_sem, Nat.reduceBEq]
      exact ⟨by rw [noTab fun w => by have := (w.hash ht).2.2.1; omega], Ext.refl _⟩
    simp only [decide_eq_true q1, Bool.not_true, q3', vbin_bandI, decide_eq_false q4, go_sem, Nat.reduceBEq]
    refine hsem_my_make slT34 (by decide) rfl rfl (n := t.heads.length) (by omega) (by decide) (My.nil (Ext.refl h)) fun bo h1 m1 => ?_
    try simp only [go_sem, Nat.reduceBEq]
    generalize hzz : SlT.zero _ = zz at m1
    refine aloop (ι := Nat) (fun b => [(6, .val (.int .i64 (b : Nat))), (5, .val (.slice (some ⟨bo, 0, none⟩) t.heads.length t.heads.length)), (3, .val (.int .i64 (t.heads.length : Nat))), (4, .val (.int .i64 0)), (1, .box 1 0)]) (fun _ => [(1, [.bool true, .slice a1 t.heads.length c1, .slice a2 t.slots.length c2, .int .i64 t.next, .int .i64 t.count])])
      (fun b h' => b ≤ t.heads.length ∧ My h h' [(.row 1 ((List.replicate b (-1)).flatMap idt ++ zeros zz (t.heads.length - b)), .slice (some ⟨bo, 0, none⟩) t.heads.length t.heads.length)]) (fun b => t.heads.length - b) 0 ⟨Nat.zero_le _, m1⟩ (by repeat (first | exact wkF_e | refine wkF_c rfl ?_)) (wkB_c rfl wkB_e) rfl ?_
    rintro b h2 ⟨hi, m2⟩
    have hi : b ≤ t.heads.length := hi
    have m2 : My h h2 [(.row 1 ((List.replicate b (-1)).flatMap idt ++ zeros zz (t.heads.length - b)), .slice (some ⟨bo, 0, none⟩) t.heads.length t.heads.length)] := m2
    try simp only [go_sem, Nat.reduceBEq]
    refine Br.intro (fun hb => ?_) (fun hb => ?_) <;> (try simp only [hb, go_sem, Nat.reduceBEq])
    · have hb : b < t.heads.length := by simpa using hb
      have wsu := wrap_succ (i := b) (by omega)
      simp only [ix_nat hb, go_sem, Nat.reduceBEq]
      rw [zeros_sub zz hb] at m2
      have m3 : My h h2 ((.raw (.int .i64 (-1)), .int .i64 (-1)) :: [(.row 1 ((List.replicate b (-1)).flatMap idt ++ (zz.map .raw ++ zeros zz (t.heads.length - (b + 1)))), .slice (some ⟨bo, 0, none⟩) t.heads.length t.heads.length)]) := m2.raw rfl
      refine hsem_my_put (es := idt (-1)) tyS3 m3 (by omega) (by rw [List.length_map, ← hzz]; rfl) rfl rfl ?_ fun h4 m4 => ?_
      · rw [fm_len idt_len, List.length_replicate]
      simp only [wsu, go_sem, Nat.reduceBEq]
      refine Again.intro (b + 1) (by first | omega | (simp only; omega)) ⟨hb, ?_⟩ (by repeat (first | exact wkF_e | refine wkF_c rfl ?_)) (wkB_c rfl wkB_e) rfl
      rw [List.replicate_succ', List.flatMap_append, List.flatMap_cons, List.flatMap_nil, List.append_nil, List.append_assoc]
      exact m4
    have hb : b = t.heads.length := by simp at hb; omega
    subst hb
    rw [Nat.sub_self] at m2
    have m3 : My h h2 [(.row 1 ((hdsN t.heads.length t.slots 0).flatMap idt), .slice (some ⟨bo, 0, none⟩) t.heads.length t.heads.length)] := by simpa [zeros, hdsN] using m2
    try simp only [go_sem, Nat.reduceBEq, Nat.reduceAdd, Nat.reduceLeDiff, Nat.reduceEqDiff, Int.reduceEq, not_false_eq_true, Int.reduceToNat]
    refine aloop (ι := Nat) (fun i => [(7, .val (.int .i64 (i : Nat))), (5, .val (.slice (some ⟨bo, 0, none⟩) t.heads.length t.heads.length)), (3, .val (.int .i64 (t.heads.length : Nat))), (4, .val (.int .i64 (liveN (t.slots.take i) : Nat))), (1, .box 1 0)]) (fun _ => [(1, [.bool true, .slice a1 t.heads.length c1, .slice a2 t.slots.length c2, .int .i64 t.next, .int .i64 t.count])])
      (fun i h' => i ≤ t.slots.length ∧ My h h' [(.row 1 ((hdsN t.heads.length t.slots i).flatMap idt), .slice (some ⟨bo, 0, none⟩) t.heads.length t.heads.length)] ∧ preH t i ∧ preK t i) (fun i => t.slots.length - i) 0 ⟨Nat.zero_le _, m3, preH.zero t, preK.zero t⟩ (by repeat (first | exact wkF_e | refine wkF_c rfl ?_)) (wkB_c rfl wkB_e) rfl ?_
    rintro i h6 ⟨hi, m6, prh, pre⟩
    have hi : i ≤ t.slots.length := hi
    have m6 : My h h6 [(.row 1 ((hdsN t.heads.length t.slots i).flatMap idt), .slice (some ⟨bo, 0, none⟩) t.heads.length t.heads.length)] := m6
    have prh : preH t i := prh
    have pre : preK t i := pre
    have hhl := hdsN_len t.heads.length t.slots i
    try simp only [go_sem, Nat.reduceBEq]
    refine Br.intro (fun hb => ?_) (fun hb => ?_) <;> (try simp only [hb, go_sem, Nat.reduceBEq])
    · have hb : i < t.slots.length := by simpa using hb
      obtain ⟨b2, off2, rfl, hat2'⟩ := hat2 (by omega)
      obtain ⟨e, he, hm⟩ := get_lt hb
      have wsu := wrap_succ (i := i) (by omega)
      have hln := liveN_take t.slots i
      have hln2 := liveN_le t.slots
      have wnu := wrap_succ (i := liveN (t.slots.take i)) (by omega)
      have hmm : e.key.hash % t.heads.length < t.heads.length := Nat.mod_lt _ (by omega)
      have hh := e.key.hash_lt
      have hsk := hks e hm
      have emm : ((e.key.hash : Nat) : Int).tmod ((t.heads.length : Nat) : Int) = ((e.key.hash % t.heads.length : Nat) : Int) := by
        rw [Int.tmod_eq_emod_of_nonneg (by omega)]
        omega
      have hm0 : (((t.heads.length : Nat) : Int) = 0) = False := eq_false (by omega)
      simp only [ix_nat hb, go_sem, Nat.reduceBEq]
      refine hsem_slotB m6.ext tyS59 hat2' hr2 he rfl fun s2 rd2 => ?_
      obtain ⟨a5, c5, _, rfl, _⟩ := rd2.rows (by decide) e.val.items.length (fm_len edt_len _)
      try simp only [go_sem, Nat.reduceBEq, Nat.reduceAdd, Nat.reduceLeDiff]
      (refine (sKeyHash e.key (by omega) _).mono ?_; rintro _ _ ⟨rfl, rfl⟩; simp only [go_sem, Nat.reduceBEq])
      obtain ⟨ys, hr4, hat4⟩ := m6.at_
      simp only [hm0, emm, ix_nat hmm, go_sem, Nat.reduceBEq, not_false_eq_true]
      have hgd : (hdsN t.heads.length t.slots i)[e.key.hash % t.heads.length]? = some ((hdsN t.heads.length t.slots i).getD (e.key.hash % t.heads.length) (-1)) := getD_at (by rw [hhl]; exact hmm)
      refine hsem_num tyS3 (hat4 (by omega)) hr4 hgd (by omega) ?_
      simp only [ix_nat hmm, go_sem, Nat.reduceBEq]
      obtain ⟨cn, hn, en⟩ := hold_num (es := hdsN t.heads.length t.slots i) (b := bo) (cap := t.heads.length) (i := e.key.hash % t.heads.length) (by rw [hhl]; exact hmm)
      rw [hhl] at hn
      obtain ⟨w, hw⟩ := hold_self (es := hdsN t.heads.length t.slots i) (i := e.key.hash % t.heads.length) (by rw [hhl]; exact hmm)
      refine hn.put1 (h0 := h) (d := .raw (.int .i64 w)) tyS3 rfl rfl (by rw [en, hw]; exact m6) (by omega) fun h5 m5 => ?_
      rw [en, ← hdsN_succ he] at m5
      try simp only [go_sem, Nat.reduceBEq, Nat.reduceAdd, Nat.reduceLeDiff]
      refine (sIsKey e.key _ (by omega)).mono ?_
      rintro _ h7 ⟨rfl, e7⟩
      have m7 := m5.mono e7
      have e67 := m7.ext
      cases hko : keyOk e.key with
      | false =>
        try simp only [go_sem, Nat.reduceBEq]
        exact ⟨by rw [noTab fun w => by have := (w.keys i e he).1; rw [hko] at this; cases this], e67⟩
      | true =>
      by_cases hlk : e.link = (hdsN t.heads.length t.slots i).getD (e.key.hash % t.heads.length) (-1)
      case neg =>
        simp only [decide_eq_false hlk, Bool.not_false, go_sem, Nat.reduceBEq]
        have hno : t.isTab = false := noTab fun w => by
          have := (w.hash ht).2.2.2.1 i e he
          rw [hgd] at this
          exact hlk (Option.some.inj this).symm
        exact ⟨by rw [hno], e67⟩
      cases kt : e.key.text with
      | true =>
        have hkx : e.key.text = true ∨ e.key.num < t.next := .inl kt
        cases hlw : e.live with
        | true =>
          have hzo : e.live = true ∨ e.val.isZero = true := .inl hlw
          simp only [decide_eq_true hlk, Bool.not_true, go_sem, Nat.reduceBEq]
          refine aloop (ι := Nat) (fun j => (11, .val (.int .i64 (j : Nat))) :: (8, .box 8 0) :: [(7, .val (.int .i64 (i : Nat))), (5, .val (.slice (some ⟨bo, 0, none⟩) t.heads.length t.heads.length)), (3, .val (.int .i64 (t.heads.length : Nat))), (4, .val (.int .i64 (liveN (t.slots.take i) : Nat))), (1, .box 1 0)]) (fun _ => [(8, [.bool true, .int .i64 e.key.num, .string e.key.str, .int .i64 e.val.kind, .int .i64 e.val.num, .string e.val.str, .int .i64 e.val.next, .slice a5 e.val.items.length c5, .bool true, .int .i64 e.link]), (1, [.bool true, .slice a1 t.heads.length c1, .slice (some ⟨b2, off2, none⟩) t.slots.length c2, .int .i64 t.next, .int .i64 t.count])])
            (fun j h' => h7 = h' ∧ j ≤ i ∧ ∀ (q : Nat) (u : Sl), q < j → t.slots[q]? = some u → u.live = true → ¬ u.key = e.key) (fun j => i - j) 0 ⟨rfl, Nat.zero_le _, fun _ _ h => by omega⟩ (by repeat (first | exact wkF_e | refine wkF_c rfl ?_)) (wkB_c rfl (wkB_c rfl wkB_e)) rfl ?_
          rintro j _ ⟨rfl, hji, hall⟩
          have hji : j ≤ i := hji
          have hall : ∀ (q : Nat) (u : Sl), q < j → t.slots[q]? = some u → u.live = true → ¬ u.key = e.key := hall
          by_cases hj : j < i
          · have hjl : j < t.slots.length := by omega
            obtain ⟨u, hu, _⟩ := get_lt hjl
            have wsj := wrap_succ (i := j) (by omega)
            simp only [decide_eq_true (show ((j : Nat) : Int) < ((i : Nat) : Int) by omega), go_sem, Nat.reduceBEq]
            refine regionD_intro (lb := [157, 164, 170]) (by kernel_rfl) ?_
            simp only [ix_nat hjl, go_sem, Nat.reduceBEq, Nat.reduceAdd]
            refine hsem_slive tyS4 (hat2'.mono e67) (hr2.mono e67) hu rfl ?_
            cases hlu : u.live with
            | false =>
              simp only [wsj, go_sem, Nat.reduceBEq]
              exact Again.intro (j + 1) (by first | omega | (simp only; omega)) ⟨rfl, hj, fun q v hq hv lv => by
                by_cases hqj : q = j
                · subst hqj; rw [hu] at hv; cases hv; rw [hlu] at lv; cases lv
                · exact hall q v (by omega) hv lv⟩ (by repeat (first | exact wkF_e | refine wkF_c rfl ?_)) (wkB_c rfl (wkB_c rfl wkB_e)) rfl
            | true =>
              simp only [ix_nat hjl, go_sem, Nat.reduceBEq]
              refine hsem_skey tyS57 (hat2'.mono e67) (hr2.mono e67) hu rfl ?_
              have kd : decide (u.key.text = true ∧ u.key.num = e.key.num ∧ u.key.str = e.key.str) = decide (u.key = e.key) := by rw [← kt]; exact key_dec u.key e.key
              simp only [kd, keyT57, go_sem, Nat.reduceBEq, Nat.reduceAdd, Nat.reduceLeDiff]
              by_cases hk : u.key = e.key
              · simp only [decide_eq_true hk, go_sem, Nat.reduceBEq]
                exact ⟨by rw [noTab fun w => w.dist i j e u hj he hu hlw hlu hk], e67⟩
              · simp only [decide_eq_false hk, wsj, go_sem, Nat.reduceBEq]
                exact Again.intro (j + 1) (by first | omega | (simp only; omega)) ⟨rfl, hj, fun q v hq hv lv => by
                  by_cases hqj : q = j
                  · subst hqj; rw [hu] at hv; cases hv; exact hk
                  · exact hall q v (by omega) hv lv⟩ (by repeat (first | exact wkF_e | refine wkF_c rfl ?_)) (wkB_c rfl (wkB_c rfl wkB_e)) rfl
          · have hdd : e.live = true → e.key ∉ liveK (t.slots.take i) := fun _ hm => by
              obtain ⟨q, u, hq, hu, lu, eu⟩ := mem_liveK.1 hm
              exact hall q u (by omega) hu lu eu
            simp only [decide_eq_false (show ¬ ((j : Nat) : Int) < ((i : Nat) : Int) by omega), wnu, wsu, go_sem, Nat.reduceBEq, Nat.reduceEqDiff]
            have hln3 : liveN (t.slots.take (i + 1)) = liveN (t.slots.take i) + 1 := by rw [liveN_snoc he, hlw]; rfl
            refine Again.intro (i + 1) (by first | omega | (simp only; omega)) ⟨hb, m7, prh.step he (by rw [hlk]; exact hgd), pre.step he ⟨hko, hkx, hzo⟩ hdd⟩ (by simp only [hln3]; exact (by repeat (first | exact wkF_e | refine wkF_c rfl ?_))) (wkB_c rfl wkB_e) rfl
        | false =>
          simp only [decide_eq_true hlk, Bool.not_true, go_sem, Nat.reduceBEq, Nat.reduceAdd, Nat.reduceLeDiff]
          (refine (sZero e.val _ _ (rd2.mono e67)).mono ?_; rintro _ _ ⟨rfl, rfl⟩; simp only [go_sem, Nat.reduceBEq])
          cases hz : e.val.isZero with
          | false =>
            try simp only [go_sem, Nat.reduceBEq]
            exact ⟨by rw [noTab fun w => by have := (w.keys i e he).2.2; rw [hlw, hz] at this; simp at this], e67⟩
          | true =>
            have hzo : e.live = true ∨ e.val.isZero = true := .inr hz
            try simp only [go_sem]
            have hdd : e.live = true → e.key ∉ liveK (t.slots.take i) := fun q => by rw [hlw] at q; cases q
            refine aloop (ι := Unit) (fun _ => (11, .val (.int .i64 0)) :: (8, .box 8 0) :: [(7, .val (.int .i64 (i : Nat))), (5, .val (.slice (some ⟨bo, 0, none⟩) t.heads.length t.heads.length)), (3, .val (.int .i64 (t.heads.length : Nat))), (4, .val (.int .i64 (liveN (t.slots.take i) : Nat))), (1, .box 1 0)]) (fun _ => [(8, [.bool true, .int .i64 e.key.num, .string e.key.str, .int .i64 e.val.kind, .int .i64 e.val.num, .string e.val.str, .int .i64 e.val.next, .slice a5 e.val.items.length c5, .bool false, .int .i64 e.link]), (1, [.bool true, .slice a1 t.heads.length c1, .slice (some ⟨b2, off2, none⟩) t.slots.length c2, .int .i64 t.next, .int .i64 t.count])]) (fun _ h' => h7 = h') (fun _ => 0) () rfl (by repeat (first | exact wkF_e | refine wkF_c rfl ?_)) (wkB_c rfl (wkB_c rfl wkB_e)) rfl ?_
            rintro _ _ rfl
            simp only [wsu, go_sem, Nat.reduceBEq, Nat.reduceEqDiff]
            have hln3 : liveN (t.slots.take (i + 1)) = liveN (t.slots.take i) := by rw [liveN_snoc he, hlw]; rfl
            refine Again.intro (i + 1) (by first | omega | (simp only; omega)) ⟨hb, m7, prh.step he (by rw [hlk]; exact hgd), pre.step he ⟨hko, hkx, hzo⟩ hdd⟩ (by simp only [hln3]; exact (by repeat (first | exact wkF_e | refine wkF_c rfl ?_))) (wkB_c rfl wkB_e) rfl
      | false =>
        by_cases hnn : t.next ≤ e.key.num
        · simp only [decide_eq_true hlk, Bool.not_true, decide_eq_true hnn, go_sem, Nat.reduceBEq]
          exact ⟨by rw [noTab fun w => by have := (w.keys i e he).2.1; rw [kt] at this; simp at this; omega], e67⟩
        have hkx : e.key.text = true ∨ e.key.num < t.next := .inr (by omega)
        cases hlw : e.live with
        | true =>
          have hzo : e.live = true ∨ e.val.isZero = true := .inl hlw
          simp only [decide_eq_true hlk, Bool.not_true, decide_eq_false hnn, go_sem, Nat.reduceBEq]
          refine aloop (ι := Nat) (fun j => (11, .val (.int .i64 (j : Nat))) :: (8, .box 8 0) :: [(7, .val (.int .i64 (i : Nat))), (5, .val (.slice (some ⟨bo, 0, none⟩) t.heads.length t.heads.length)), (3, .val (.int .i64 (t.heads.length : Nat))), (4, .val (.int .i64 (liveN (t.slots.take i) : Nat))), (1, .box 1 0)]) (fun _ => [(8, [.bool false, .int .i64 e.key.num, .string e.key.str, .int .i64 e.val.kind, .int .i64 e.val.num, .string e.val.str, .int .i64 e.val.next, .slice a5 e.val.items.length c5, .bool true, .int .i64 e.link]), (1, [.bool true, .slice a1 t.heads.length c1, .slice (some ⟨b2, off2, none⟩) t.slots.length c2, .int .i64 t.next, .int .i64 t.count])])
            (fun j h' => h7 = h' ∧ j ≤ i ∧ ∀ (q : Nat) (u : Sl), q < j → t.slots[q]? = some u → u.live = true → ¬ u.key = e.key) (fun j => i - j) 0 ⟨rfl, Nat.zero_le _, fun _ _ h => by omega⟩ (by repeat (first | exact wkF_e | refine wkF_c rfl ?_)) (wkB_c rfl (wkB_c rfl wkB_e)) rfl ?_
          rintro j _ ⟨rfl, hji, hall⟩
          have hji : j ≤ i := hji
          have hall : ∀ (q : Nat) (u : Sl), q < j → t.slots[q]? = some u → u.live = true → ¬ u.key = e.key := hall
          by_cases hj : j < i
          · have hjl : j < t.slots.length := by omega
            obtain ⟨u, hu, _⟩ := get_lt hjl
            have wsj := wrap_succ (i := j) (by omega)
            simp only [decide_eq_true (show ((j : Nat) : Int) < ((i : Nat) : Int) by omega), go_sem, Nat.reduceBEq]
            refine regionD_intro (lb := [157, 164, 170]) (by kernel_rfl) ?_
            simp only [ix_nat hjl, go_sem, Nat.reduceBEq, Nat.reduceAdd]
            refine hsem_slive tyS4 (hat2'.mono e67) (hr2.mono e67) hu rfl ?_
            cases hlu : u.live with
            | false =>
              simp only [wsj, go_sem, Nat.reduceBEq]
              exact Again.intro (j + 1) (by first | omega | (simp only; omega)) ⟨rfl, hj, fun q v hq hv lv => by
                by_cases hqj : q = j
                · subst hqj; rw [hu] at hv; cases hv; rw [hlu] at lv; cases lv
                · exact hall q v (by omega) hv lv⟩ (by repeat (first | exact wkF_e | refine wkF_c rfl ?_)) (wkB_c rfl (wkB_c rfl wkB_e)) rfl
            | true =>
              simp only [ix_nat hjl, go_sem, Nat.reduceBEq]
              refine hsem_skey tyS57 (hat2'.mono e67) (hr2.mono e67) hu rfl ?_
              have kd : decide (u.key.text = false ∧ u.key.num = e.key.num ∧ u.key.str = e.key.str) = decide (u.key = e.key) := by rw [← kt]; exact key_dec u.key e.key
              simp only [kd, keyT57, go_sem, Nat.reduceBEq, Nat.reduceAdd, Nat.reduceLeDiff]
              by_cases hk : u.key = e.key
              · simp only [decide_eq_true hk, go_sem, Nat.reduceBEq]
                exact ⟨by rw [noTab fun w => w.dist i j e u hj he hu hlw hlu hk], e67⟩
              · simp only [decide_eq_false hk, wsj, go_sem, Nat.reduceBEq]
                exact Again.intro (j + 1) (by first | omega | (simp only; omega)) ⟨rfl, hj, fun q v hq hv lv => by
                  by_cases hqj : q = j
                  · subst hqj; rw [hu] at hv; cases hv; exact hk
                  · exact hall q v (by omega) hv lv⟩ (by repeat (first | exact wkF_e | refine wkF_c rfl ?_)) (wkB_c rfl (wkB_c rfl wkB_e)) rfl
          · have hdd : e.live = true → e.key ∉ liveK (t.slots.take i) := fun _ hm => by
              obtain ⟨q, u, hq, hu, lu, eu⟩ := mem_liveK.1 hm
              exact hall q u (by omega) hu lu eu
            simp only [decide_eq_false (show ¬ ((j : Nat) : Int) < ((i : Nat) : Int) by omega), wnu, wsu, go_sem, Nat.reduceBEq, Nat.reduceEqDiff]
            have hln3 : liveN (t.slots.take (i + 1)) = liveN (t.slots.take i) + 1 := by rw [liveN_snoc he, hlw]; rfl
            refine Again.intro (i + 1) (by first | omega | (simp only; omega)) ⟨hb, m7, prh.step he (by rw [hlk]; exact hgd), pre.step he ⟨hko, hkx, hzo⟩ hdd⟩ (by simp only [hln3]; exact (by repeat (first | exact wkF_e | refine wkF_c rfl ?_))) (wkB_c rfl wkB_e) rfl
        | false =>
          simp only [decide_eq_true hlk, Bool.not_true, decide_eq_false hnn, go_sem, Nat.reduceBEq, Nat.reduceAdd, Nat.reduceLeDiff]
          (refine (sZero e.val _ _ (rd2.mono e67)).mono ?_; rintro _ _ ⟨rfl, rfl⟩; simp only [go_sem, Nat.reduceBEq])
          cases hz : e.val.isZero with
          | false =>
            try simp only [go_sem, Nat.reduceBEq]
            exact ⟨by rw [noTab fun w => by have := (w.keys i e he).2.2; rw [hlw, hz] at this; simp at this], e67⟩
          | true =>
            have hzo : e.live = true ∨ e.val.isZero = true := .inr hz
            try simp only [go_sem]
            have hdd : e.live = true → e.key ∉ liveK (t.slots.take i) := fun q => by rw [hlw] at q; cases q
            refine aloop (ι := Unit) (fun _ => (11, .val (.int .i64 0)) :: (8, .box 8 0) :: [(7, .val (.int .i64 (i : Nat))), (5, .val (.slice (some ⟨bo, 0, none⟩) t.heads.length t.heads.length)), (3, .val (.int .i64 (t.heads.length : Nat))), (4, .val (.int .i64 (liveN (t.slots.take i) : Nat))), (1, .box 1 0)]) (fun _ => [(8, [.bool false, .int .i64 e.key.num, .string e.key.str, .int .i64 e.val.kind, .int .i64 e.val.num, .string e.val.str, .int .i64 e.val.next, .slice a5 e.val.items.length c5, .bool false, .int .i64 e.link]), (1, [.bool true, .slice a1 t.heads.length c1, .slice (some ⟨b2, off2, none⟩) t.slots.length c2, .int .i64 t.next, .int .i64 t.count])]) (fun _ h' => h7 = h') (fun _ => 0) () rfl (by repeat (first | exact wkF_e | refine wkF_c rfl ?_)) (wkB_c rfl (wkB_c rfl wkB_e)) rfl ?_
            rintro _ _ rfl
            simp only [wsu, go_sem, Nat.reduceBEq, Nat.reduceEqDiff]
            have hln3 : liveN (t.slots.take (i + 1)) = liveN (t.slots.take i) := by rw [liveN_snoc he, hlw]; rfl
            refine Again.intro (i + 1) (by first | omega | (simp only; omega)) ⟨hb, m7, prh.step he (by rw [hlk]; exact hgd), pre.step he ⟨hko, hkx, hzo⟩ hdd⟩ (by simp only [hln3]; exact (by repeat (first | exact wkF_e | refine wkF_c rfl ?_))) (wkB_c rfl wkB_e) rfl
    · have hb : i = t.slots.length := by simp at hb; omega
      subst hb
      try simp only [go_sem, Nat.reduceBEq, Nat.reduceAdd, Nat.reduceLeDiff, Nat.reduceEqDiff, Int.reduceEq, not_false_eq_true, Int.reduceToNat]
      rw [List.take_length]
      refine aloop (ι := Nat) (fun b => (12, .val (.int .i64 (b : Nat))) :: [(5, .val (.slice (some ⟨bo, 0, none⟩) t.heads.length t.heads.length)), (3, .val (.int .i64 (t.heads.length : Nat))), (4, .val (.int .i64 (liveN t.slots : Nat))), (1, .box 1 0)]) (fun _ => [(1, [.bool true, .slice a1 t.heads.length c1, .slice a2 t.slots.length c2, .int .i64 t.next, .int .i64 t.count])])
        (fun b h' => h6 = h' ∧ b ≤ t.heads.length ∧ t.heads.take b = (hdsN t.heads.length t.slots t.slots.length).take b) (fun b => t.heads.length - b) 0 ⟨rfl, Nat.zero_le _, rfl⟩ (by repeat (first | exact wkF_e | refine wkF_c rfl ?_)) (wkB_c rfl wkB_e) rfl ?_
      rintro b _ ⟨rfl, hi2, hq⟩
      have hi2 : b ≤ t.heads.length := hi2
      have hq : t.heads.take b = (hdsN t.heads.length t.slots t.slots.length).take b := hq
      try simp only [go_sem, Nat.reduceBEq]
      refine Br.intro (fun hb => ?_) (fun hb => ?_) <;> (try simp only [hb, go_sem, Nat.reduceBEq])
      · have hb : b < t.heads.length := by simpa using hb
        obtain ⟨b1, off1, rfl, hat1'⟩ := hat1 (by omega)
        obtain ⟨x, hx, _⟩ := get_lt hb
        obtain ⟨y, hy, _⟩ := get_lt (l := hdsN t.heads.length t.slots t.slots.length) (i := b) (by omega)
        have wsu := wrap_succ (i := b) (by omega)
        obtain ⟨ys, hr4, hat4⟩ := m6.at_
        refine regionD_intro (lb := [183]) (by kernel_rfl) ?_
        simp only [ix_nat hb, go_sem, Nat.reduceBEq]
        refine hsem_num tyS3 (hat1'.mono m6.ext) (hr1.mono m6.ext) hx rfl ?_
        simp only [ix_nat hb, go_sem, Nat.reduceBEq]
        refine hsem_num tyS3 (hat4 (by omega)) hr4 hy (by omega) ?_
        by_cases hxy : x = y
        · subst hxy
          simp only [decide_true, Bool.not_true, wsu, go_sem, Nat.reduceBEq]
          exact Again.intro (b + 1) (by first | omega | (simp only; omega)) ⟨rfl, hb, by rw [take_snoc hx, take_snoc hy, hq]⟩ (by repeat (first | exact wkF_e | refine wkF_c rfl ?_)) (wkB_c rfl wkB_e) rfl
        · simp only [decide_eq_false hxy, Bool.not_false, go_sem, Nat.reduceBEq]
          have hno : t.isTab = false := noTab fun w => by
            have := (w.hash ht).2.2.2.2
            rw [← this, hx] at hy
            exact hxy (Option.some.inj hy)
          exact ⟨by rw [hno], m6.ext⟩
      · have hb : b = t.heads.length := by simp at hb; omega
        subst hb
        rw [List.take_length, List.take_of_length_le (by omega)] at hq
        try simp only [go_sem, Nat.reduceBEq, Nat.reduceAdd, Nat.reduceLeDiff, Nat.reduceEqDiff, Int.reduceEq, not_false_eq_true, Int.reduceToNat]
        refine ⟨?_, m6.ext⟩
        by_cases hcn : ((liveN t.slots : Nat) : Int) = t.count
        · rw [decide_eq_true hcn, yesTab (wf_hashed ht hnx pre hcn.symm (by omega) q3 (by omega) prh hq)]
        · rw [decide_eq_false hcn, noTab fun w => hcn w.cnt.symm]
  · have ht : t.hashed = false := by simpa using ht
    simp only [decide_eq_true hnx, Bool.not_true, decide_eq_false q0, ht, Bool.not_false, go_sem, Nat.reduceBEq]
    by_cases q1 : t.heads.length = 0
    case neg =>
      simp only [decide_eq_true (show (0 : Int) < ((t.heads.length : Nat) : Int) by omega), go_sem, Nat.reduceBEq]
      exact ⟨by rw [noTab fun w => q1 (w.packed ht).1], Ext.refl _⟩
    by_cases q2 : t.next < ((t.slots.length : Nat) : Int)
    · simp only [decide_eq_false (show ¬ (0 : Int) < ((t.heads.length : Nat) : Int) by omega), decide_eq_true q2, go_sem, Nat.reduceBEq]
      exact ⟨by rw [noTab fun w => by have := (w.packed ht).2.1; omega], Ext.refl _⟩
    simp only [decide_eq_false (show ¬ (0 : Int) < ((t.heads.length : Nat) : Int) by omega), decide_eq_false q2, go_sem, Nat.reduceBEq]
    refine hsem_my_make slT34 (by decide) rfl rfl (n := t.heads.length) (by omega) (by decide) (My.nil (Ext.refl h)) fun bo h1 m1 => ?_
    have em1 := m1.ext
    clear m1
    try simp only [go_sem, Nat.reduceBEq]
    refine aloop (ι := Unit) (fun _ => [(6, .val (.int .i64 0)), (5, .val (.slice (some ⟨bo, 0, none⟩) t.heads.length t.heads.length)), (3, .val (.int .i64 (t.heads.length : Nat))), (4, .val (.int .i64 0)), (1, .box 1 0)]) (fun _ => [(1, [.bool false, .slice a1 t.heads.length c1, .slice a2 t.slots.length c2, .int .i64 t.next, .int .i64 t.count])])
      (fun _ h' => h1 = h') (fun _ => 0) () rfl (by repeat (first | exact wkF_e | refine wkF_c rfl ?_)) (wkB_c rfl wkB_e) rfl ?_
    rintro _ _ rfl
    simp only [decide_eq_false (show ¬ (0 : Int) < ((t.heads.length : Nat) : Int) by omega), go_sem, Nat.reduceBEq]
    refine aloop (ι := Nat) (fun i => [(7, .val (.int .i64 (i : Nat))), (5, .val (.slice (some ⟨bo, 0, none⟩) t.heads.length t.heads.length)), (3, .val (.int .i64 (t.heads.length : Nat))), (4, .val (.int .i64 (liveN (t.slots.take i) : Nat))), (1, .box 1 0)]) (fun _ => [(1, [.bool false, .slice a1 t.heads.length c1, .slice a2 t.slots.length c2, .int .i64 t.next, .int .i64 t.count])])
      (fun i h' => i ≤ t.slots.length ∧ Ext h h' ∧ preP t i ∧ preK t i) (fun i => t.slots.length - i) 0 ⟨Nat.zero_le _, em1, preP.zero t, preK.zero t⟩ (by repeat (first | exact wkF_e | refine wkF_c rfl ?_)) (wkB_c rfl wkB_e) rfl ?_
    rintro i h6 ⟨hi, e6, prp, pre⟩
    have hi : i ≤ t.slots.length := hi
    have e6 : Ext h h6 := e6
    have prp : preP t i := prp
    have pre : preK t i := pre
    try simp only [go_sem, Nat.reduceBEq]
    refine Br.intro (fun hb => ?_) (fun hb => ?_) <;> (try simp only [hb, go_sem, Nat.reduceBEq])
    · have hb : i < t.slots.length := by simpa using hb
      obtain ⟨b2, off2, rfl, hat2'⟩ := hat2 (by omega)
      obtain ⟨e, he, hm⟩ := get_lt hb
      have wsu := wrap_succ (i := i) (by omega)
      have hln := liveN_take t.slots i
      have hln2 := liveN_le t.slots
      have wnu := wrap_succ (i := liveN (t.slots.take i)) (by omega)
      have hsk := hks e hm
      simp only [ix_nat hb, go_sem, Nat.reduceBEq]
      refine hsem_slotB e6 tyS59 hat2' hr2 he rfl fun s2 rd2 => ?_
      obtain ⟨a5, c5, _, rfl, _⟩ := rd2.rows (by decide) e.val.items.length (fm_len edt_len _)
      have kd : decide (e.key.text = false ∧ e.key.num = ((i : Nat) : Int) ∧ e.key.str = ⟨#[]⟩) = decide (e.key = ⟨false, (i : Nat), ⟨#[]⟩⟩) := key_dec e.key ⟨false, (i : Nat), ⟨#[]⟩⟩
      simp only [kd, keyT57, go_sem, Nat.reduceBEq, Nat.reduceAdd, Nat.reduceLeDiff]
      by_cases hq : e.key = ⟨false, (i : Nat), ⟨#[]⟩⟩
      case neg =>
        simp only [decide_eq_false hq, Bool.not_false, go_sem, Nat.reduceBEq]
        exact ⟨by rw [noTab fun w => hq ((w.packed ht).2.2.2 i e he).1], e6⟩
      simp only [decide_eq_true hq, Bool.not_true, go_sem, Nat.reduceBEq, Nat.reduceAdd, Nat.reduceLeDiff]
      refine (sIsKey e.key _ (by omega)).mono ?_
      rintro _ h7 ⟨rfl, e7⟩
      have e67 := e6.trans e7
      cases hko : keyOk e.key with
      | false =>
        try simp only [go_sem, Nat.reduceBEq]
        exact ⟨by rw [noTab fun w => by have := (w.keys i e he).1; rw [hko] at this; cases this], e67⟩
      | true =>
      by_cases hlk : e.link = -1
      case neg =>
        simp only [decide_eq_false hlk, Bool.not_false, go_sem, Nat.reduceBEq]
        exact ⟨by rw [noTab fun w => hlk ((w.packed ht).2.2.2 i e he).2], e67⟩
      have kt : e.key.text = false := by rw [hq]
      by_cases hnn : t.next ≤ e.key.num
      · simp only [decide_eq_true hlk, Bool.not_true, kt, decide_eq_true hnn, go_sem, Nat.reduceBEq]
        exact ⟨by rw [noTab fun w => by have := (w.keys i e he).2.1; rw [kt] at this; simp at this; omega], e67⟩
      have hkx : e.key.text = true ∨ e.key.num < t.next := .inr (by omega)
      cases hlw : e.live with
      | true =>
        have hzo : e.live = true ∨ e.val.isZero = true := .inl hlw
        simp only [decide_eq_true hlk, Bool.not_true, kt, decide_eq_false hnn, go_sem, Nat.reduceBEq]
        have hdd : e.live = true → e.key ∉ liveK (t.slots.take i) := fun _ hm => by
          obtain ⟨j, u, hj, hu, _, eu⟩ := mem_liveK.1 hm
          rw [(prp j u hj hu).1, hq] at eu
          simp only [Ky.mk.injEq] at eu
          omega
        refine aloop (ι := Unit) (fun _ => (11, .val (.int .i64 0)) :: (8, .box 8 0) :: [(7, .val (.int .i64 (i : Nat))), (5, .val (.slice (some ⟨bo, 0, none⟩) t.heads.length t.heads.length)), (3, .val (.int .i64 (t.heads.length : Nat))), (4, .val (.int .i64 (liveN (t.slots.take i) : Nat))), (1, .box 1 0)]) (fun _ => [(8, [.bool false, .int .i64 e.key.num, .string e.key.str, .int .i64 e.val.kind, .int .i64 e.val.num, .string e.val.str, .int .i64 e.val.next, .slice a5 e.val.items.length c5, .bool true, .int .i64 e.link]), (1, [.bool false, .slice a1 t.heads.length c1, .slice (some ⟨b2, off2, none⟩) t.slots.length c2, .int .i64 t.next, .int .i64 t.count])]) (fun _ h' => h7 = h') (fun _ => 0) () rfl (by repeat (first | exact wkF_e | refine wkF_c rfl ?_)) (wkB_c rfl (wkB_c rfl wkB_e)) rfl ?_
        rintro _ _ rfl
        simp only [wnu, wsu, go_sem, Nat.reduceBEq, Nat.reduceEqDiff]
        have hln3 : liveN (t.slots.take (i + 1)) = liveN (t.slots.take i) + 1 := by rw [liveN_snoc he, hlw]; rfl
        refine Again.intro (i + 1) (by first | omega | (simp only; omega)) ⟨hb, e67, prp.step he ⟨hq, hlk⟩, pre.step he ⟨hko, hkx, hzo⟩ hdd⟩ (by simp only [hln3]; exact (by repeat (first | exact wkF_e | refine wkF_c rfl ?_))) (wkB_c rfl wkB_e) rfl
      | false =>
        simp only [decide_eq_true hlk, Bool.not_true, kt, decide_eq_false hnn, go_sem, Nat.reduceBEq, Nat.reduceAdd, Nat.reduceLeDiff]
        (refine (sZero e.val _ _ (rd2.mono e67)).mono ?_; rintro _ _ ⟨rfl, rfl⟩; simp only [go_sem, Nat.reduceBEq])
        cases hz : e.val.isZero with
        | false =>
          try simp only [go_sem, Nat.reduceBEq]
          exact ⟨by rw [noTab fun w => by have := (w.keys i e he).2.2; rw [hlw, hz] at this; simp at this], e67⟩
        | true =>
          have hzo : e.live = true ∨ e.val.isZero = true := .inr hz
          try simp only [go_sem]
          have hdd : e.live = true → e.key ∉ liveK (t.slots.take i) := fun _ hm => by
            obtain ⟨j, u, hj, hu, _, eu⟩ := mem_liveK.1 hm
            rw [(prp j u hj hu).1, hq] at eu
            simp only [Ky.mk.injEq] at eu
            omega
          refine aloop (ι := Unit) (fun _ => (11, .val (.int .i64 0)) :: (8, .box 8 0) :: [(7, .val (.int .i64 (i : Nat))), (5, .val (.slice (some ⟨bo, 0, none⟩) t.heads.length t.heads.length)), (3, .val (.int .i64 (t.heads.length : Nat))), (4, .val (.int .i64 (liveN (t.slots.take i) : Nat))), (1, .box 1 0)]) (fun _ => [(8, [.bool false, .int .i64 e.key.num, .string e.key.str, .int .i64 e.val.kind, .int .i64 e.val.num, .string e.val.str, .int .i64 e.val.next, .slice a5 e.val.items.length c5, .bool false, .int .i64 e.link]), (1, [.bool false, .slice a1 t.heads.length c1, .slice (some ⟨b2, off2, none⟩) t.slots.length c2, .int .i64 t.next, .int .i64 t.count])]) (fun _ h' => h7 = h') (fun _ => 0) () rfl (by repeat (first | exact wkF_e | refine wkF_c rfl ?_)) (wkB_c rfl (wkB_c rfl wkB_e)) rfl ?_
          rintro _ _ rfl
          simp only [wsu, go_sem, Nat.reduceBEq, Nat.reduceEqDiff]
          have hln3 : liveN (t.slots.take (i + 1)) = liveN (t.slots.take i) := by rw [liveN_snoc he, hlw]; rfl
          refine Again.intro (i + 1) (by first | omega | (simp only; omega)) ⟨hb, e67, prp.step he ⟨hq, hlk⟩, pre.step he ⟨hko, hkx, hzo⟩ hdd⟩ (by simp only [hln3]; exact (by repeat (first | exact wkF_e | refine wkF_c rfl ?_))) (wkB_c rfl wkB_e) rfl
    · have hb : i = t.slots.length := by simp at hb; omega
      subst hb
      rw [List.take_length]
      try simp only [go_sem, Nat.reduceBEq, Nat.reduceAdd, Nat.reduceLeDiff, Nat.reduceEqDiff, Int.reduceEq, not_false_eq_true, Int.reduceToNat]
      refine aloop (ι := Unit) (fun _ => [(12, .val (.int .i64 0)), (3, .val (.int .i64 (t.heads.length : Nat))), (4, .val (.int .i64 (liveN t.slots : Nat))), (1, .box 1 0)]) (fun _ => [(1, [.bool false, .slice a1 t.heads.length c1, .slice a2 t.slots.length c2, .int .i64 t.next, .int .i64 t.count])])
        (fun _ h' => h6 = h') (fun _ => 0) () rfl (by repeat (first | exact wkF_e | refine wkF_c rfl ?_)) (wkB_c rfl wkB_e) rfl ?_
      rintro _ _ rfl
      simp only [decide_eq_false (show ¬ (0 : Int) < ((t.heads.length : Nat) : Int) by omega), go_sem, Nat.reduceBEq]
      refine ⟨?_, e6⟩
      by_cases hcn : ((liveN t.slots : Nat) : Int) = t.count
      · rw [decide_eq_true hcn, yesTab (wf_packed ht hnx pre hcn.symm q1 (by omega) (by omega) prp)]
      · rw [decide_eq_false hcn, noTab fun w => hcn w.cnt.symm]
end Go.Proofs.YtccjkhnefiikaaaGreatDoor
namespace Go.Proofs.YtccjkhnefiikaaaGreatDoor
set_option maxRecDepth 8000
open Go Go.Sx
/-- what blockWeight does -/
def Weighed (l : List Bk) (bw cw : Nat) (h0 : Hp) (ws : List Int) (i : Nat) (u : Value) (h' : Hp) : Prop := ∃ (n : Nat) (us : List Int), u = .int .i64 (n : Nat) ∧ Est l i n ∧ us.length = ws.length ∧ wInv l us ∧ wGrow ws us ∧ My h0 h' [(.row 1 (us.flatMap idt), .slice (some ⟨bw, 0, none⟩) l.length cw)]
def WeighI (l : List Bk) (a : Option Addr) (c bw cw : Nat) (h0 : Hp) (z : Nat) : Prop := ∀ (ws : List Int) (i : Nat) (h : Hp), zer ws ≤ z → wInv l ws → wPath l ws i → i < l.length → My h0 h [(.row 1 (ws.flatMap idt), .slice (some ⟨bw, 0, none⟩) l.length cw)] →
  ACalls Tryz.prog 35 #[.agg #[.slice a l.length c], .int .i64 (i : Nat), .slice (some ⟨bw, 0, none⟩) l.length cw] h (Weighed l bw cw h0 ws i)
theorem iWeigh (l : List Bk) (hb : szG Bk.bulk l ≤ 1099511627776) (hin : inR l) (a : Option Addr) (c bw cw : Nat) (h0 : Hp) (r : RdB h0 l (.slice a l.length c)) : ∀ z, WeighI l a c bw cw h0 z := fun z => Nat.strongRecOn z fun z ih ws i h hz wi wp hil m => by
  have hlen := szG_len (w := Bk.bulk) l
  obtain ⟨a1, c1, xs1, e1, hc1, hr1, hat1⟩ := r.rows (by decide) l.length (fm_len Bk.dt_len _)
  cases e1
  obtain ⟨b1, o1, rfl, hat1'⟩ := hat1 (by omega)
  have hwl := wi.len
  obtain ⟨x, hx, _⟩ := get_lt (l := ws) (i := i) (by omega)
  have hlow := wi.low i x hx
  obtain ⟨ys, hry, haty⟩ := m.at_
  have hi1 : i < l.length := hil
  (refine enter Tryz.func35 rfl rfl (by kernel_rfl) [] ?_; simp only [go_sem, Nat.reduceBEq])
  simp only [ix_nat hi1, go_sem, Nat.reduceBEq]
  refine hsem_num tyS3 (haty (by omega)) hry hx (by omega) ?_
  by_cases h0x : x = 0
  case neg =>
    simp only [decide_eq_false h0x, Bool.not_false, ix_nat hi1, go_sem, Nat.reduceBEq]
    refine hsem_num tyS3 (haty (by omega)) hry hx (by omega) ?_
    by_cases hn : x < 0
    · have hx1 : x = -1 := by omega
      subst hx1
      simp only [go_sem, Nat.reduceBEq]
      exact ⟨201, ws, rfl, Est.loop wp hx, rfl, wi, wGrow.refl ws, m⟩
    · simp only [decide_eq_false hn, ix_nat hi1, go_sem, Nat.reduceBEq]
      refine hsem_num tyS3 (haty (by omega)) hry hx (by omega) ?_
      simp only [go_sem, Nat.reduceBEq]
      exact ⟨x.toNat, ws, by rw [show ((x.toNat : Nat) : Int) = x by omega], wi.est i x hx (by omega), rfl, wi, wGrow.refl ws, m⟩
  subst h0x
  have hzs := zer_set (x := -1) hx (by decide)
  simp only [Bool.not_true, ix_nat hi1, go_sem, Nat.reduceBEq]
  obtain ⟨cn, hn, en⟩ := hold_num (es := ws) (b := bw) (cap := cw) (i := i) (by omega)
  rw [hwl] at hn
  obtain ⟨w, hw⟩ := hold_self (es := ws) (i := i) (by omega)
  refine hn.put1 (h0 := h0) (d := .raw (.int .i64 w)) tyS3 rfl rfl (by rw [en, hw]; exact m) (by omega) fun h5 m5 => ?_
  rw [en] at m5
  have hbk := blk_at hil
  have hsb := slots_bulk hbk
  obtain ⟨hsl, hsv⟩ := tab_slots (blk l i).tab
  simp only [ix_nat hi1, go_sem, Nat.reduceBEq, Nat.reduceAdd]
  refine hpure_base m5.ext (hsem_bslots tyS36 hat1' hr1 hbk (by omega) fun u ru => ?_)
  obtain ⟨a2, c2, xs2, rfl, hc2, hr2, hat2⟩ := ru.rows (by decide) (blk l i).tab.slots.length (fm_len Sl.dt_len _)
  simp only [go_sem, Nat.reduceBEq]
  refine aloop (ι := Nat × Nat × List Int) (fun x => [(35, .val (.int .i64 (x.1 : Nat))), (34, .val (.int .i64 ((blk l i).tab.slots.length : Nat))), (33, .val (.slice a2 (blk l i).tab.slots.length c2)), (7, .val (.int .i64 (x.2.1 : Nat))), (2, .val (.slice (some ⟨bw, 0, none⟩) l.length cw)), (1, .val (.int .i64 (i : Nat))), (3, .box 3 0)])
    (fun _ => [(3, [.slice (some ⟨b1, o1, none⟩) l.length c])])
    (fun x h' => x.1 ≤ (blk l i).tab.slots.length ∧ EstS l ((blk l i).tab.slots.take x.1) x.2.1 ∧ x.2.2.length = ws.length ∧ wInv l x.2.2 ∧ wGrow (ws.set i (-1)) x.2.2 ∧ My h0 h' [(.row 1 (x.2.2.flatMap idt), .slice (some ⟨bw, 0, none⟩) l.length cw)]) (fun x => (blk l i).tab.slots.length - x.1) (0, 1, ws.set i (-1))
    ⟨Nat.zero_le _, EstS.nil l, List.length_set, wi.mark, wGrow.refl _, m5⟩ (by repeat (first | exact wkF_e | refine wkF_c rfl ?_)) (wkB_c rfl wkB_e) rfl ?_
  rintro ⟨k, n, us⟩ h6 ⟨hk, es, ul, ui, ug, m6⟩
  have hk : k ≤ (blk l i).tab.slots.length := hk
  have es : EstS l ((blk l i).tab.slots.take k) n := es
  have ul : us.length = ws.length := ul
  have ui : wInv l us := ui
  have ug : wGrow (ws.set i (-1)) us := ug
  have m6 : My h0 h6 [(.row 1 (us.flatMap idt), .slice (some ⟨bw, 0, none⟩) l.length cw)] := m6
  have hn1 := es.pos
  have hn2 := es.cap
  simp only [go_sem, Nat.reduceBEq]
  refine Br.intro (fun hb => ?_) (fun hb => ?_) <;> (try simp only [hb, go_sem, Nat.reduceBEq])
  · have hb : k < (blk l i).tab.slots.length := by simpa using hb
    obtain ⟨b2, o2, rfl, hat2'⟩ := hat2 (by omega)
    obtain ⟨e, he, hm⟩ := get_lt hb
    have wsu := wrap_succ (i := k) (by omega)
    simp only [ix_nat hb, go_sem, Nat.reduceBEq]
    refine hsem_slot tyS59 (hat2'.mono m6.ext) (hr2.mono m6.ext) he rfl fun s2 rd2 => ?_
    obtain ⟨a5, c5, _, rfl, _⟩ := rd2.rows (by decide) e.val.items.length (fm_len edt_len _)
    cases hv : e.live with
    | false =>
      simp only [wsu, Bool.not_false, go_sem, Nat.reduceBEq, Nat.reduceAdd, Nat.reduceLeDiff, Nat.reduceEqDiff]
      exact Again.intro (k + 1, n, us) (by first | omega | (simp only; omega)) ⟨hb, es.skip he hv, ul, ui, ug, m6⟩ (by repeat (first | exact wkF_e | refine wkF_c rfl ?_)) (wkB_c rfl wkB_e) rfl
    | true =>
    simp only [Bool.not_true, go_sem, Nat.reduceBEq, Nat.reduceAdd, Nat.reduceLeDiff]
    by_cases h5 : e.val.kind = 5
    · have hh := hin i _ hbk k e he hv
      obtain ⟨q1, q2, q3⟩ := held_num hh h5
      have hen : e.val.num = ((e.val.num.toNat : Nat) : Int) := by omega
      simp only [decide_eq_true h5, go_sem, Nat.reduceBEq, Nat.reduceAdd, Nat.reduceLeDiff]
      try simp only [go_sem, Nat.reduceBEq, Nat.reduceAdd, Nat.reduceLeDiff, Nat.reduceEqDiff, Int.reduceEq, not_false_eq_true, Int.reduceToNat]
      rw [hen]
      refine (ih (zer (ws.set i (-1))) (by omega) us e.val.num.toNat h6 (zer_grow (by rw [ul, List.length_set]) ug) ui (wp.kid (by omega) hx ug he hv h5 ul) q2 m6).mono ?_
      rintro _ h7 ⟨n2, vs, rfl, est, vl, vi, vg, m7⟩
      have p1 := est.pos
      have p2 := est.cap
      have hws : IntKind.i64.wrap ((n : Int) + (n2 : Int)) = ((n + n2 : Nat) : Int) := by rw [IntWalk.i64_in _ (by omega)]; omega
      simp only [hws, go_sem, Nat.reduceBEq]
      (refine (iMin _ _ _).mono ?_; rintro _ _ ⟨rfl, rfl⟩; simp only [go_sem, Nat.reduceBEq])
      rw [show min (((n + n2 : Nat) : Int)) 201 = ((min (n + n2) 201 : Nat) : Int) by omega]
      simp only [wsu, go_sem]
      exact Again.intro (k + 1, min (n + n2) 201, vs) (by first | omega | (simp only; omega)) ⟨hb, es.kid he hv h5 est, by rw [vl, ul], vi, ug.trans vg, m7⟩ (by repeat (first | exact wkF_e | refine wkF_c rfl ?_)) (wkB_c rfl wkB_e) rfl
    · simp only [decide_eq_false h5, go_sem, Nat.reduceBEq]
      try simp only [go_sem, Nat.reduceBEq, Nat.reduceAdd, Nat.reduceLeDiff, Nat.reduceEqDiff, Int.reduceEq, not_false_eq_true, Int.reduceToNat]
      have hws : IntKind.i64.wrap ((n : Int) + 1) = ((n + 1 : Nat) : Int) := by rw [IntWalk.i64_in _ (by omega)]; omega
      simp only [hws, go_sem]
      (refine (iMin _ _ _).mono ?_; rintro _ _ ⟨rfl, rfl⟩; simp only [go_sem, Nat.reduceBEq])
      rw [show min (((n + 1 : Nat) : Int)) 201 = ((min (n + 1) 201 : Nat) : Int) by omega]
      simp only [wsu, go_sem]
      exact Again.intro (k + 1, min (n + 1) 201, us) (by first | omega | (simp only; omega)) ⟨hb, es.one he hv h5, ul, ui, ug, m6⟩ (by repeat (first | exact wkF_e | refine wkF_c rfl ?_)) (wkB_c rfl wkB_e) rfl
  · have hb : k = (blk l i).tab.slots.length := by simp at hb; omega
    subst hb
    rw [List.take_length] at es
    have est := es.est
    obtain ⟨cn, hn, en⟩ := hold_num (es := us) (b := bw) (cap := cw) (i := i) (by omega)
    rw [show us.length = l.length by omega] at hn
    obtain ⟨w, hw⟩ := hold_self (es := us) (i := i) (by omega)
    simp only [ix_nat hi1, go_sem, Nat.reduceBEq]
    refine hn.put1 (h0 := h0) (d := .raw (.int .i64 w)) tyS3 rfl rfl (by rw [en, hw]; exact m6) (by omega) fun h8 m8 => ?_
    rw [en] at m8
    simp only [go_sem, Nat.reduceBEq]
    exact ⟨n, us.set i (n : Nat), rfl, est, by rw [List.length_set, ul], ui.done est, ug.done hx ul est.pos, m8⟩
theorem bk_neg {l : List Bk} {i : Nat} {b : Bk} (hb : l[i]? = some b) (h : bkOk l b = false) : heapB l = false := noHeap fun k => by
  have := k.blk i b hb
  rw [h] at this
  cases this
/-- the live slots' values are held, so far -/
def preS (l : List Bk) (ss : List Sl) (k : Nat) : Prop := ∀ (j : Nat) (s : Sl), j < k → ss[j]? = some s → s.live = true → isHeld l s.val = true
theorem preS.step {l : List Bk} {ss : List Sl} {k : Nat} {s : Sl} (p : preS l ss k) (hs : ss[k]? = some s) (h : s.live = true → isHeld l s.val = true) : preS l ss (k + 1) := fun j u hj hu hl => by
  by_cases he : j = k
  · subst he
    rw [hs] at hu
    cases hu
    exact h hl
  · exact p j u (by omega) hu hl
/-- the blocks are right, so far -/
def preB (l : List Bk) (i : Nat) : Prop := ∀ (j : Nat) (b : Bk), j < i → l[j]? = some b → bkOk l b = true
theorem preB.step {l : List Bk} {i : Nat} {b : Bk} (p : preB l i) (hb : l[i]? = some b) (h : bkOk l b = true) : preB l (i + 1) := fun j u hj hu => by
  by_cases he : j = i
  · subst he
    rw [hb] at hu
    cases hu
    exact h
  · exact p j u (by omega) hu
theorem preB.inR {l : List Bk} (p : preB l l.length) : inR l ∧ ∀ (i : Nat) (b : Bk), l[i]? = some b → 0 ≤ b.count := by
  refine ⟨fun i b hb k s hs hl => ?_, fun i b hb => ?_⟩
  · have := p i b (lt_of_get hb) hb
    by_cases hc : b.count = 0
    · rw [bkOk_free hc] at this
      rw [free_slots this] at hs
      simp at hs
    · exact ((bkOk_live hc).1 this).2.2 k s hs hl
  · have := p i b (lt_of_get hb) hb
    by_cases hc : b.count = 0
    · omega
    · have := ((bkOk_live hc).1 this).1
      omega
set_option maxHeartbeats 1600000 in
theorem iIsHeap (l : List Bk) (hb : szG Bk.bulk l ≤ 1048576) (s : Value) (h : Hp) (r : RdB h l s) (hE : Env h) : ACalls Tryz.prog 20 #[.agg #[s]] h (Is (.bool (heapB l)) h) := by
  have hlen := szG_len (w := Bk.bulk) l
  obtain ⟨a1, c1, xs1, rfl, hc1, hr1, hat1⟩ := r.rows (by decide) l.length (fm_len Bk.dt_len _)
  (refine enter Tryz.func20 rfl rfl (by kernel_rfl) [] ?_; simp only [go_sem, Nat.reduceBEq])
  refine aloop (ι := Nat) (fun i => [(13, .val (.int .i64 (i : Nat))), (12, .val (.int .i64 (l.length : Nat))), (11, .val (.slice a1 l.length c1)), (1, .box 1 0)]) (fun _ => [(1, [.slice a1 l.length c1])])
    (fun i h' => i ≤ l.length ∧ Ext h h' ∧ preB l i) (fun i => l.length - i) 0 ⟨Nat.zero_le _, Ext.refl _, fun j b hj => by omega⟩ (by repeat (first | exact wkF_e | refine wkF_c rfl ?_)) (wkB_c rfl wkB_e) rfl ?_
  rintro i h1 ⟨hi, e1, pb⟩
  have hi : i ≤ l.length := hi
  have pb : preB l i := pb
  try simp only [go_sem, Nat.reduceBEq]
  refine Br.intro (fun hq => ?_) (fun hq => ?_) <;> (try simp only [hq, go_sem, Nat.reduceBEq])
  · have hq : i < l.length := by simpa using hq
    obtain ⟨b1, o1, rfl, hat1'⟩ := hat1 (by omega)
    obtain ⟨b, hbk, hm⟩ := get_lt hq
    have hsb := slots_bulk hbk
    obtain ⟨hsl, hsv⟩ := tab_slots b.tab
    have wsu := wrap_succ (i := i) (by omega)
    simp only [ix_nat hq, go_sem, Nat.reduceBEq]
    refine hsem_blk tyS40 (hat1'.mono e1) (hr1.mono e1) hbk rfl fun s2 u2 rh ru => ?_
    obtain ⟨a3, c3, xs3, rfl, hc3, hr3, hat3⟩ := rh.rows (by decide) b.tab.heads.length (fm_len idt_len _)
    obtain ⟨a2, c2, xs2, rfl, hc2, hr2, hat2⟩ := ru.rows (by decide) b.tab.slots.length (fm_len Sl.dt_len _)
    by_cases h0 : b.count = 0
    · simp only [decide_eq_true h0, go_sem, Nat.reduceBEq, Nat.reduceAdd, Nat.reduceLeDiff]
      have hF : bkOk l b = b.free := bkOk_free h0
      cases hh : b.tab.hashed with
      | true =>
        simp only [go_sem, Nat.reduceBEq]
        exact ⟨by rw [bk_neg hbk (by rw [hF]; unfold Bk.free; rw [hh]; rfl)], e1⟩
      | false =>
      by_cases q1 : b.tab.heads.length = 0
      case neg =>
        simp only [decide_eq_true (show (0 : Int) < ((b.tab.heads.length : Nat) : Int) by omega), go_sem, Nat.reduceBEq, Nat.reduceAdd]
        exact ⟨by rw [bk_neg hbk (by rw [hF]; unfold Bk.free; rw [hh, decide_eq_false q1]; rfl)], e1⟩
      by_cases q2 : b.tab.slots.length = 0
      case neg =>
        simp only [decide_eq_false (show ¬ (0 : Int) < ((b.tab.heads.length : Nat) : Int) by omega), decide_eq_true (show (0 : Int) < ((b.tab.slots.length : Nat) : Int) by omega), go_sem, Nat.reduceBEq, Nat.reduceAdd]
        exact ⟨by rw [bk_neg hbk (by rw [hF]; unfold Bk.free; rw [hh, decide_eq_true q1, decide_eq_false q2]; rfl)], e1⟩
      by_cases q3 : b.tab.next = 0
      case neg =>
        simp only [decide_eq_false (show ¬ (0 : Int) < ((b.tab.heads.length : Nat) : Int) by omega), decide_eq_false (show ¬ (0 : Int) < ((b.tab.slots.length : Nat) : Int) by omega), decide_eq_false q3, Bool.not_false, go_sem, Nat.reduceBEq, Nat.reduceAdd]
        exact ⟨by rw [bk_neg hbk (by rw [hF]; unfold Bk.free; rw [hh, decide_eq_true q1, decide_eq_true q2, decide_eq_false q3]; rfl)], e1⟩
      by_cases q4 : b.tab.count = 0
      case neg =>
        simp only [decide_eq_false (show ¬ (0 : Int) < ((b.tab.heads.length : Nat) : Int) by omega), decide_eq_false (show ¬ (0 : Int) < ((b.tab.slots.length : Nat) : Int) by omega), decide_eq_true q3, decide_eq_false q4, Bool.not_true, Bool.not_false, go_sem, Nat.reduceBEq, Nat.reduceAdd]
        exact ⟨by rw [bk_neg hbk (by rw [hF]; unfold Bk.free; rw [hh, decide_eq_true q1, decide_eq_true q2, decide_eq_true q3, decide_eq_false q4]; rfl)], e1⟩
      simp only [decide_eq_false (show ¬ (0 : Int) < ((b.tab.heads.length : Nat) : Int) by omega), decide_eq_false (show ¬ (0 : Int) < ((b.tab.slots.length : Nat) : Int) by omega), decide_eq_true q3, decide_eq_true q4, Bool.not_true, wsu, go_sem, Nat.reduceBEq, Nat.reduceAdd, Nat.reduceEqDiff]
      exact Again.intro (i + 1) (by first | omega | (simp only; omega)) ⟨hq, e1, pb.step hbk (by rw [hF]; unfold Bk.free; rw [hh, decide_eq_true q1, decide_eq_true q2, decide_eq_true q3, decide_eq_true q4]; rfl)⟩ (by repeat (first | exact wkF_e | refine wkF_c rfl ?_)) (wkB_c rfl wkB_e) rfl
    have hL := bkOk_live (l := l) h0
    simp only [decide_eq_false h0, go_sem, Nat.reduceBEq, Nat.reduceAdd, Nat.reduceLeDiff]
    (refine (iInRange _ _ _ _).mono ?_; rintro _ _ ⟨rfl, rfl⟩; simp only [go_sem, Nat.reduceBEq])
    by_cases q0 : 1 ≤ b.count ∧ b.count ≤ 1000000000000
    case neg =>
      simp only [decide_eq_false q0, Bool.not_false, go_sem, Nat.reduceBEq]
      exact ⟨by rw [bk_neg hbk (Bool.eq_false_iff.2 fun k => q0 (hL.1 k).1)], e1⟩
    simp only [decide_eq_true q0, Bool.not_true, go_sem, Nat.reduceBEq, Nat.reduceAdd, Nat.reduceLeDiff]
    refine (iIsTable b.tab (by omega) _ _ _ rh ru (hE.ext e1)).mono ?_
    rintro _ h2 ⟨rfl, e12⟩
    have e2 := e1.trans e12
    cases hT : b.tab.isTab with
    | false =>
      try simp only [go_sem, Nat.reduceBEq]
      exact ⟨by rw [bk_neg hbk (Bool.eq_false_iff.2 fun k => by have := (hL.1 k).2.1; rw [hT] at this; cases this)], e2⟩
    | true =>
    try simp only [go_sem, Nat.reduceBEq, Nat.reduceAdd]
    refine aloop (ι := Nat) (fun k => [(63, .val (.int .i64 (k : Nat))), (62, .val (.int .i64 (b.tab.slots.length : Nat))), (61, .val (.slice a2 b.tab.slots.length c2)), (13, .val (.int .i64 (i : Nat))), (12, .val (.int .i64 (l.length : Nat))), (11, .val (.slice (some ⟨b1, o1, none⟩) l.length c1)), (1, .box 1 0)]) (fun _ => [(1, [.slice (some ⟨b1, o1, none⟩) l.length c1])])
      (fun k h' => k ≤ b.tab.slots.length ∧ Ext h1 h' ∧ preS l b.tab.slots k) (fun k => b.tab.slots.length - k) 0 ⟨Nat.zero_le _, e12, fun j b hj => by omega⟩ (by repeat (first | exact wkF_e | refine wkF_c rfl ?_)) (wkB_c rfl wkB_e) rfl ?_
    rintro k h3 ⟨hk, e13, ps⟩
    have hk : k ≤ b.tab.slots.length := hk
    have ps : preS l b.tab.slots k := ps
    have e3 := e1.trans e13
    try simp only [go_sem, Nat.reduceBEq]
    refine Br.intro (fun hkb => ?_) (fun hkb => ?_) <;> (try simp only [hkb, go_sem, Nat.reduceBEq, Nat.reduceEqDiff])
    · have hkb : k < b.tab.slots.length := by simpa using hkb
      obtain ⟨b2, o2, rfl, hat2'⟩ := hat2 (by omega)
      obtain ⟨e, he, hme⟩ := get_lt hkb
      have hve := hsv e hme
      have wsk := wrap_succ (i := k) (by omega)
      simp only [ix_nat hkb, go_sem, Nat.reduceBEq]
      refine hsem_slot tyS59 (hat2'.mono e13) (hr2.mono e13) he rfl fun s3 rd3 => ?_
      obtain ⟨a5, c5, _, rfl, _⟩ := rd3.rows (by decide) e.val.items.length (fm_len edt_len _)
      cases hv : e.live with
      | false =>
        simp only [wsk, go_sem, Nat.reduceBEq, Nat.reduceAdd, Nat.reduceLeDiff]
        exact Again.intro (k + 1) (by first | omega | (simp only; omega)) ⟨hkb, e13, ps.step he fun q => (by rw [hv] at q; cases q)⟩ (by repeat (first | exact wkF_e | refine wkF_c rfl ?_)) (wkB_c rfl wkB_e) rfl
      | true =>
        try simp only [go_sem, Nat.reduceBEq, Nat.reduceAdd, Nat.reduceLeDiff]
        refine (iIsHeld l e.val (by omega) (by omega) _ _ _ (r.mono e3) rd3 (hE.ext e3)).mono ?_
        rintro _ h4 ⟨rfl, e34⟩
        cases hhd : isHeld l e.val with
        | false =>
          try simp only [go_sem, Nat.reduceBEq]
          exact ⟨by rw [bk_neg hbk (Bool.eq_false_iff.2 fun q => by have := (hL.1 q).2.2 k e he hv; rw [hhd] at this; cases this)], e3.trans e34⟩
        | true =>
          simp only [wsk, go_sem, Nat.reduceBEq]
          exact Again.intro (k + 1) (by first | omega | (simp only; omega)) ⟨hkb, e13.trans e34, ps.step he fun _ => hhd⟩ (by repeat (first | exact wkF_e | refine wkF_c rfl ?_)) (wkB_c rfl wkB_e) rfl
    · have hkb : k = b.tab.slots.length := by simp at hkb; omega
      subst hkb
      simp only [wsu, go_sem]
      exact Again.intro (i + 1) (by first | omega | (simp only; omega)) ⟨hq, e3, pb.step hbk (hL.2 ⟨q0, hT, fun k s hs hl => ps k s (lt_of_get hs) hs hl⟩)⟩ (by repeat (first | exact wkF_e | refine wkF_c rfl ?_)) (wkB_c rfl wkB_e) rfl
  · have hq : i = l.length := by simp at hq; omega
    subst hq
    obtain ⟨hin, hcz⟩ := pb.inR
    try simp only [go_sem, Nat.reduceBEq, Nat.reduceAdd, Nat.reduceLeDiff, Nat.reduceEqDiff, Int.reduceEq, not_false_eq_true, Int.reduceToNat]
    refine hsem_my_make slT34 (by decide) rfl rfl (by omega) (by decide) (My.nil (Ext.refl h1)) fun bo h2 m2 => ?_
    have m2 : My h1 h2 [(.row 1 (zeros [.int .i64 0] l.length), .slice (some ⟨bo, 0, none⟩) l.length l.length)] := m2
    rw [zeros_int] at m2
    try simp only [go_sem, Nat.reduceBEq]
    refine aloop (ι := Nat × List Int) (fun x => [(85, .val (.int .i64 (x.1 : Nat))), (84, .val (.int .i64 (l.length : Nat))), (83, .val (.slice a1 l.length c1)), (7, .val (.slice (some ⟨bo, 0, none⟩) l.length l.length)), (1, .box 1 0)]) (fun _ => [(1, [.slice a1 l.length c1])])
      (fun x h' => x.1 ≤ l.length ∧ wInv l x.2 ∧ nNeg x.2 ∧ (∀ j : Nat, j < x.1 → 0 < (blk l j).count → ∃ n, n ≤ 200 ∧ Wt l j n) ∧ My h1 h' [(.row 1 (x.2.flatMap idt), .slice (some ⟨bo, 0, none⟩) l.length l.length)]) (fun x => l.length - x.1) (0, List.replicate l.length 0)
      ⟨Nat.zero_le _, (wInv.zero l).1, (wInv.zero l).2, fun j hj => by omega, m2⟩ (by repeat (first | exact wkF_e | refine wkF_c rfl ?_)) (wkB_c rfl wkB_e) rfl ?_
    rintro ⟨i, ws⟩ h3 ⟨hi, wi, wn, wl, m3⟩
    have hi : i ≤ l.length := hi
    have wi : wInv l ws := wi
    have wn : nNeg ws := wn
    have wl : ∀ j : Nat, j < i → 0 < (blk l j).count → ∃ n, n ≤ 200 ∧ Wt l j n := wl
    have m3 : My h1 h3 [(.row 1 (ws.flatMap idt), .slice (some ⟨bo, 0, none⟩) l.length l.length)] := m3
    have e3 := e1.trans m3.ext
    try simp only [go_sem, Nat.reduceBEq]
    refine Br.intro (fun hq => ?_) (fun hq => ?_) <;> (try simp only [hq, go_sem, Nat.reduceBEq])
    · have hq : i < l.length := by simpa using hq
      have wsu := wrap_succ (i := i) (by omega)
      obtain ⟨b1, o1, rfl, hat1'⟩ := hat1 (by omega)
      have hbk := blk_at hq
      simp only [ix_nat hq, go_sem, Nat.reduceBEq]
      refine hsem_blk tyS40 (hat1'.mono e3) (hr1.mono e3) hbk rfl fun s2 u2 rh ru => ?_
      obtain ⟨a3, c3, xs3, rfl, hc3, hr3, hat3⟩ := rh.rows (by decide) (blk l i).tab.heads.length (fm_len idt_len _)
      obtain ⟨a2, c2, xs2, rfl, hc2, hr2, hat2⟩ := ru.rows (by decide) (blk l i).tab.slots.length (fm_len Sl.dt_len _)
      by_cases hc : 0 < (blk l i).count
      · simp only [decide_eq_true hc, go_sem, Nat.reduceBEq, Nat.reduceAdd, Nat.reduceLeDiff]
        try simp only [go_sem, Nat.reduceBEq, Nat.reduceAdd, Nat.reduceLeDiff, Nat.reduceEqDiff, Int.reduceEq, not_false_eq_true, Int.reduceToNat]
        refine (iWeigh l (by omega) hin (some ⟨b1, o1, none⟩) c1 bo l.length h1 (r.mono e1) _ ws i h3 (Nat.le_refl _) wi (wn.path i) hq m3).mono ?_
        rintro _ h4 ⟨n, us, rfl, est, ul, ui, ug, m4⟩
        by_cases hbig : n ≤ 200
        · simp only [decide_eq_false (show ¬ (200 : Int) < ((n : Nat) : Int) by omega), wsu, go_sem, Nat.reduceBEq]
          refine Again.intro (i + 1, us) (by first | omega | (simp only; omega)) ⟨hq, ui, wn.grow ul ug, fun j hj hcj => ?_, m4⟩ (by repeat (first | exact wkF_e | refine wkF_c rfl ?_)) (wkB_c rfl wkB_e) rfl
          by_cases he : j = i
          · subst he
            exact ⟨n, hbig, est.is hbig⟩
          · exact wl j (by omega) hcj
        · simp only [decide_eq_true (show (200 : Int) < ((n : Nat) : Int) by omega), go_sem, Nat.reduceBEq]
          refine ⟨?_, e1.trans m4.ext⟩
          rw [noHeap fun k => ?_]
          obtain ⟨m, hm, hw⟩ := k.light i _ hbk hc
          have h1 := est.cap
          have := est.big (by omega) m hw
          omega
      · simp only [decide_eq_false hc, wsu, go_sem, Nat.reduceBEq, Nat.reduceAdd, Nat.reduceLeDiff]
        refine Again.intro (i + 1, ws) (by first | omega | (simp only; omega)) ⟨hq, wi, wn, fun j hj hcj => ?_, m3⟩ (by repeat (first | exact wkF_e | refine wkF_c rfl ?_)) (wkB_c rfl wkB_e) rfl
        by_cases he : j = i
        · subst he
          exact absurd hcj hc
        · exact wl j (by omega) hcj
    · have hq : i = l.length := by simp at hq; omega
      subst hq
      try simp only [go_sem, Nat.reduceBEq, Nat.reduceAdd, Nat.reduceLeDiff, Nat.reduceEqDiff, Int.reduceEq, not_false_eq_true, Int.reduceToNat]
      refine ⟨?_, e3⟩
      rw [heapB_iff.2 ⟨fun i b hb => pb i b (lt_of_get hb) hb, fun i b hb hc => wl i (lt_of_get hb) (by rw [blk_get hb]; exact hc)⟩]
theorem sFree (_ : List Bk) (b : Bk) (s u : Value) (h : Hp) (r1 : RdI h b.tab.heads s) (r2 : RdT h b.tab.slots u) (h0 : b.count = 0) : ACalls Tryz.prog 30 #[.agg #[.int .i64 b.count, .bool b.tab.hashed, s, u, .int .i64 b.tab.next, .int .i64 b.tab.count]] h (Pu (.bool b.free) h) := by
  obtain ⟨a1, c1, xs1, rfl, hc1, hr1, hat1⟩ := r1.rows (by decide) b.tab.heads.length (fm_len idt_len _)
  obtain ⟨a2, c2, xs2, rfl, hc2, hr2, hat2⟩ := r2.rows (by decide) b.tab.slots.length (fm_len Sl.dt_len _)
  (refine enter Tryz.func30 rfl rfl (by kernel_rfl) [] ?_; simp only [go_sem, Nat.reduceBEq, Nat.reduceAdd, Nat.reduceLeDiff])
  unfold Bk.free
  cases hh : b.tab.hashed with
  | true =>
    simp only [decide_eq_true h0, Bool.not_true, Bool.false_and, go_sem, Nat.reduceBEq]
    exact ⟨rfl, rfl⟩
  | false =>
  by_cases q1 : b.tab.heads.length = 0
  case neg =>
    simp only [decide_eq_true h0, Bool.not_false, Bool.true_and, Bool.false_and, decide_eq_false q1, decide_eq_false (show ¬ ((b.tab.heads.length : Nat) : Int) = 0 by omega), go_sem, Nat.reduceBEq]
    exact ⟨rfl, rfl⟩
  by_cases q2 : b.tab.slots.length = 0
  case neg =>
    simp only [decide_eq_true h0, Bool.not_false, Bool.true_and, Bool.false_and, decide_eq_true q1, decide_eq_true (show ((b.tab.heads.length : Nat) : Int) = 0 by omega), decide_eq_false q2, decide_eq_false (show ¬ ((b.tab.slots.length : Nat) : Int) = 0 by omega), go_sem, Nat.reduceBEq]
    exact ⟨rfl, rfl⟩
  by_cases q3 : b.tab.next = 0
  case neg =>
    simp only [decide_eq_true h0, Bool.not_false, Bool.true_and, Bool.false_and, decide_eq_true q1, decide_eq_true (show ((b.tab.heads.length : Nat) : Int) = 0 by omega), decide_eq_true q2, decide_eq_true (show ((b.tab.slots.length : Nat) : Int) = 0 by omega), decide_eq_false q3, go_sem, Nat.reduceBEq]
    exact ⟨rfl, rfl⟩
  simp only [decide_eq_true h0, Bool.not_false, Bool.true_and, decide_eq_true q1, decide_eq_true (show ((b.tab.heads.length : Nat) : Int) = 0 by omega), decide_eq_true q2, decide_eq_true (show ((b.tab.slots.length : Nat) : Int) = 0 by omega), decide_eq_true q3, go_sem, Nat.reduceBEq]
  exact ⟨rfl, rfl⟩
/-- what is known of a block whose slots are summed up -/
def preW (l : List Bk) (w : List Int) (ss : List Sl) (k n : Nat) : Prop := (1 ≤ n ∧ SumR l (ss.take k) (n - 1)) ∨ (n = 0 ∧ ∃ (j : Nat) (s : Sl), ss[j]? = some s ∧ s.live = true ∧ s.val.kind = 5 ∧ w.getD s.val.num.toNat 0 = 0)
set_option maxHeartbeats 1600000 in
theorem sLight (l : List Bk) (hb : szG Bk.bulk l ≤ 1048576) (hin : inR l) (hcz : ∀ (i : Nat) (b : Bk), l[i]? = some b → 0 ≤ b.count) (s : Value) (h : Hp) (r : RdB h l s) : ACalls Tryz.prog 32 #[.agg #[s]] h (Is (.bool (lightB l)) h) := by
  have hlen := szG_len (w := Bk.bulk) l
  obtain ⟨a1, c1, xs1, rfl, hc1, hr1, hat1⟩ := r.rows (by decide) l.length (fm_len Bk.dt_len _)
  (refine enter Tryz.func32 rfl rfl (by kernel_rfl) [] ?_; simp only [go_sem, Nat.reduceBEq])
  refine hsem_my_make slT34 (by decide) rfl rfl (by omega) (by decide) (My.nil (Ext.refl h)) fun bo h2 m2 => ?_
  have m2 : My h h2 [(.row 1 (zeros [.int .i64 0] l.length), .slice (some ⟨bo, 0, none⟩) l.length l.length)] := m2
  rw [zeros_int] at m2
  try simp only [go_sem, Nat.reduceBEq]
  refine aloop (ι := Nat) (fun i => [(5, .val (.int .i64 (i : Nat))), (4, .val (.int .i64 (leftN l (List.replicate l.length 0) i : Nat))), (3, .val (.slice (some ⟨bo, 0, none⟩) l.length l.length)), (1, .box 1 0)]) (fun _ => [(1, [.slice a1 l.length c1])])
    (fun i h' => i ≤ l.length ∧ h' = h2) (fun i => l.length - i) 0 ⟨Nat.zero_le _, rfl⟩ (by repeat (first | exact wkF_e | refine wkF_c rfl ?_)) (wkB_c rfl wkB_e) rfl ?_
  rintro i _ ⟨hi, rfl⟩
  have hi : i ≤ l.length := hi
  have hll := leftN_le l (List.replicate l.length 0) i
  try simp only [go_sem, Nat.reduceBEq]
  refine Br.intro (fun hq => ?_) (fun hq => ?_) <;> (try simp only [hq, go_sem, Nat.reduceBEq])
  · have hq : i < l.length := by simpa using hq
    obtain ⟨b1, o1, rfl, hat1'⟩ := hat1 (by omega)
    have hbk := blk_at hq
    have wsu := wrap_succ (i := i) (by omega)
    simp only [ix_nat hq, go_sem, Nat.reduceBEq]
    refine hsem_bcnt tyS3 (hat1'.mono m2.ext) (hr1.mono m2.ext) hbk rfl ?_
    have hw := wrap_succ (i := leftN l (List.replicate l.length 0) i) (by omega)
    by_cases hc : 0 < (blk l i).count
    · have el : leftN l (List.replicate l.length 0) (i + 1) = leftN l (List.replicate l.length 0) i + 1 := by rw [leftN, if_pos ⟨hc, repl_getD _ _⟩]
      simp only [decide_eq_true hc, hw, wsu, go_sem, Nat.reduceBEq]
      exact Again.intro (i + 1) (by first | omega | (simp only; omega)) ⟨hq, rfl⟩ (by rw [el]; exact (by repeat (first | exact wkF_e | refine wkF_c rfl ?_))) (wkB_c rfl wkB_e) rfl
    · have el : leftN l (List.replicate l.length 0) (i + 1) = leftN l (List.replicate l.length 0) i := by rw [leftN, if_neg fun q => hc q.1, Nat.add_zero]
      simp only [decide_eq_false hc, wsu, go_sem, Nat.reduceBEq]
      exact Again.intro (i + 1) (by first | omega | (simp only; omega)) ⟨hq, rfl⟩ (by rw [el]; exact (by repeat (first | exact wkF_e | refine wkF_c rfl ?_))) (wkB_c rfl wkB_e) rfl
  have hq : i = l.length := by simp at hq; omega
  subst hq
  try simp only [go_sem, Nat.reduceBEq, Nat.reduceAdd, Nat.reduceLeDiff, Nat.reduceEqDiff, Int.reduceEq, not_false_eq_true, Int.reduceToNat]
  refine aloop (ι := Nat × List Int) (fun x => [(6, .val (.int .i64 (x.1 : Nat))), (4, .val (.int .i64 (leftN l x.2 l.length : Nat))), (3, .val (.slice (some ⟨bo, 0, none⟩) l.length l.length)), (1, .box 1 0)]) (fun _ => [(1, [.slice a1 l.length c1])])
    (fun x h' => x.1 ≤ 201 ∧ rInv l x.2 x.1 0 ∧ My h h' [(.row 1 (x.2.flatMap idt), .slice (some ⟨bo, 0, none⟩) l.length l.length)]) (fun x => 201 - x.1) (0, List.replicate l.length 0)
    ⟨Nat.zero_le _, rInv.zero l, m2⟩ (by repeat (first | exact wkF_e | refine wkF_c rfl ?_)) (wkB_c rfl wkB_e) rfl ?_
  rintro ⟨rd, w⟩ h3 ⟨hrd, ri, m3⟩
  have hrd : rd ≤ 201 := hrd
  have ri : rInv l w rd 0 := ri
  have m3 : My h h3 [(.row 1 (w.flatMap idt), .slice (some ⟨bo, 0, none⟩) l.length l.length)] := m3
  have hlw := leftN_le l w l.length
  try simp only [go_sem, Nat.reduceBEq]
  by_cases hr : rd ≤ 200
  case neg =>
    have : rd = 201 := by omega
    subst this
    simp only [decide_eq_false (show ¬ (((201 : Nat) : Nat) : Int) ≤ 200 by omega), go_sem, Nat.reduceBEq]
    refine ⟨?_, m3.ext⟩
    by_cases hz : leftN l w l.length = 0
    · rw [lightB_iff.2 (ri.light hz), decide_eq_true (show ((leftN l w l.length : Nat) : Int) = 0 by omega)]
    · rw [decide_eq_false (show ¬ ((leftN l w l.length : Nat) : Int) = 0 by omega), Bool.eq_false_iff.2 fun k => ri.stop hz (lightB_iff.1 k)]
  by_cases hz : leftN l w l.length = 0
  · simp only [decide_eq_true (show ((rd : Nat) : Int) ≤ 200 by omega), decide_eq_false (show ¬ (0 : Int) < ((leftN l w l.length : Nat) : Int) by omega), go_sem, Nat.reduceBEq]
    refine ⟨?_, m3.ext⟩
    rw [lightB_iff.2 (ri.light hz), decide_eq_true (show ((leftN l w l.length : Nat) : Int) = 0 by omega)]
  simp only [decide_eq_true (show ((rd : Nat) : Int) ≤ 200 by omega), decide_eq_true (show (0 : Int) < ((leftN l w l.length : Nat) : Int) by omega), go_sem, Nat.reduceBEq]
  refine aloop (ι := Nat × List Int) (fun x => [(7, .val (.int .i64 (x.1 : Nat))), (6, .val (.int .i64 (rd : Nat))), (4, .val (.int .i64 (leftN l x.2 l.length : Nat))), (3, .val (.slice (some ⟨bo, 0, none⟩) l.length l.length)), (1, .box 1 0)]) (fun _ => [(1, [.slice a1 l.length c1])])
    (fun x h' => x.1 ≤ l.length ∧ rInv l x.2 rd x.1 ∧ My h h' [(.row 1 (x.2.flatMap idt), .slice (some ⟨bo, 0, none⟩) l.length l.length)]) (fun x => l.length - x.1) (0, w)
    ⟨Nat.zero_le _, ri, m3⟩ (by repeat (first | exact wkF_e | refine wkF_c rfl ?_)) (wkB_c rfl wkB_e) rfl ?_
  rintro ⟨i, w⟩ h3 ⟨hi, ri, m3⟩
  have hi : i ≤ l.length := hi
  have ri : rInv l w rd i := ri
  have m3 : My h h3 [(.row 1 (w.flatMap idt), .slice (some ⟨bo, 0, none⟩) l.length l.length)] := m3
  have hlw := leftN_le l w l.length
  have wlen := ri.len
  try simp only [go_sem, Nat.reduceBEq]
  refine Br.intro (fun hq => ?_) (fun hq => ?_) <;> (try simp only [hq, go_sem, Nat.reduceBEq, Nat.reduceEqDiff])
  · have hq : i < l.length := by simpa using hq
    obtain ⟨b1, o1, rfl, hat1'⟩ := hat1 (by omega)
    have hbk := blk_at hq
    have hcb := hcz i _ hbk
    have hsb := slots_bulk hbk
    obtain ⟨hsl, hsv⟩ := tab_slots (blk l i).tab
    have wsu := wrap_succ (i := i) (by omega)
    obtain ⟨ys, hry, haty⟩ := m3.at_
    have hwi : w[i]? = some (w.getD i 0) := getD_at (by omega)
    simp only [ix_nat hq, go_sem, Nat.reduceBEq]
    refine hsem_bcnt tyS3 (hat1'.mono m3.ext) (hr1.mono m3.ext) hbk rfl ?_
    by_cases hc : (blk l i).count = 0
    · simp only [decide_eq_true hc, wsu, go_sem, Nat.reduceBEq, Nat.reduceEqDiff]
      exact Again.intro (i + 1, w) (by first | omega | (simp only; omega)) ⟨hq, ri.skip (.inl (by omega)), m3⟩ (by repeat (first | exact wkF_e | refine wkF_c rfl ?_)) (wkB_c rfl wkB_e) rfl
    simp only [decide_eq_false hc, ix_nat hq, go_sem, Nat.reduceBEq]
    refine hsem_num tyS3 (haty (by omega)) hry hwi (by omega) ?_
    by_cases hw0 : 0 < w.getD i 0
    · simp only [decide_eq_true hw0, wsu, go_sem, Nat.reduceBEq, Nat.reduceEqDiff]
      exact Again.intro (i + 1, w) (by first | omega | (simp only; omega)) ⟨hq, ri.skip (.inr (by omega)), m3⟩ (by repeat (first | exact wkF_e | refine wkF_c rfl ?_)) (wkB_c rfl wkB_e) rfl
    have hwz : w.getD i 0 = 0 := by
      by_cases hx : w.getD i 0 = 0
      · exact hx
      · have := ri.wt i _ hwi hx
        omega
    simp only [decide_eq_false hw0, ix_nat hq, go_sem, Nat.reduceBEq, Nat.reduceAdd]
    refine hpure_base m3.ext (hsem_bslots tyS36 hat1' hr1 hbk (by omega) fun u ru => ?_)
    obtain ⟨a2, c2, xs2, rfl, hc2, hr2, hat2⟩ := ru.rows (by decide) (blk l i).tab.slots.length (fm_len Sl.dt_len _)
    simp only [go_sem, Nat.reduceBEq]
    refine aloop (ι := Nat × Nat) (fun x => [(10, .val (.int .i64 (x.1 : Nat))), (9, .val (.slice a2 (blk l i).tab.slots.length c2)), (8, .val (.int .i64 (x.2 : Nat))), (7, .val (.int .i64 (i : Nat))), (6, .val (.int .i64 (rd : Nat))), (4, .val (.int .i64 (leftN l w l.length : Nat))), (3, .val (.slice (some ⟨bo, 0, none⟩) l.length l.length)), (1, .box 1 0)]) (fun _ => [(1, [.slice (some ⟨b1, o1, none⟩) l.length c1])])
      (fun x h' => x.1 ≤ (blk l i).tab.slots.length ∧ x.2 ≤ 1 + 200 * x.1 ∧ preW l w (blk l i).tab.slots x.1 x.2 ∧ h3 = h') (fun x => (blk l i).tab.slots.length - x.1) (0, 1)
      ⟨Nat.zero_le _, by simp, .inl ⟨Nat.le_refl _, SumR.nil l⟩, rfl⟩ (by repeat (first | exact wkF_e | refine wkF_c rfl ?_)) (wkB_c rfl wkB_e) rfl ?_
    rintro ⟨k, n⟩ _ ⟨hk, hn, pw, rfl⟩
    have hk : k ≤ (blk l i).tab.slots.length := hk
    have hn : n ≤ 1 + 200 * k := hn
    have pw : preW l w (blk l i).tab.slots k n := pw
    try simp only [go_sem, Nat.reduceBEq]
    by_cases hkb : k < (blk l i).tab.slots.length ∧ 0 < n
    · obtain ⟨hkb, hn0⟩ := hkb
      obtain ⟨hn1, hsum⟩ : 1 ≤ n ∧ SumR l ((blk l i).tab.slots.take k) (n - 1) := by
        rcases pw with q | q
        · exact q
        · omega
      obtain ⟨b2, o2, rfl, hat2'⟩ := hat2 (by omega)
      obtain ⟨e, he, hme⟩ := get_lt hkb
      have wsk := wrap_succ (i := k) (by omega)
      simp only [decide_eq_true (show ((k : Nat) : Int) < (((blk l i).tab.slots.length : Nat) : Int) by omega), decide_eq_true (show (0 : Int) < ((n : Nat) : Int) by omega), ix_nat hkb, go_sem, Nat.reduceBEq, Nat.reduceAdd]
      refine hsem_slive tyS4 (hat2'.mono m3.ext) (hr2.mono m3.ext) he rfl ?_
      cases hv : e.live with
      | false =>
        simp only [wsk, go_sem, Nat.reduceBEq]
        refine Again.intro (k + 1, n) (by first | omega | (simp only; omega)) ⟨hkb, by show n ≤ 1 + 200 * (k + 1); omega, .inl ⟨hn1, ?_⟩, rfl⟩ (by repeat (first | exact wkF_e | refine wkF_c rfl ?_)) (wkB_c rfl wkB_e) rfl
        rw [take_snoc he]
        exact SumR.append.2 ⟨n - 1, 0, hsum, SumR.one.2 (.inl ⟨hv, rfl⟩), rfl⟩
      | true =>
      simp only [ix_nat hkb, go_sem, Nat.reduceBEq, Nat.reduceAdd]
      refine hsem_skind tyS3 (hat2'.mono m3.ext) (hr2.mono m3.ext) he (by omega) ?_
      by_cases h5 : e.val.kind = 5
      case neg =>
        have hw1 := wrap_succ (i := n) (by omega)
        simp only [decide_eq_false h5, Bool.not_false, hw1, wsk, go_sem, Nat.reduceBEq]
        refine Again.intro (k + 1, n + 1) (by first | omega | (simp only; omega)) ⟨hkb, by show n + 1 ≤ 1 + 200 * (k + 1); omega, .inl ⟨by omega, ?_⟩, rfl⟩ (by repeat (first | exact wkF_e | refine wkF_c rfl ?_)) (wkB_c rfl wkB_e) rfl
        rw [take_snoc he]
        exact SumR.append.2 ⟨n - 1, 1, hsum, SumR.one.2 (.inr (.inr ⟨hv, h5, rfl⟩)), by show n + 1 - 1 = _; omega⟩
      have hh := hin i _ hbk k e he hv
      obtain ⟨q1, q2, q3⟩ := held_num hh h5
      have hwk : w[e.val.num.toNat]? = some (w.getD e.val.num.toNat 0) := getD_at (by omega)
      simp only [decide_eq_true h5, Bool.not_true, ix_nat hkb, go_sem, Nat.reduceBEq, Nat.reduceAdd]
      refine hsem_snum tyS3 (hat2'.mono m3.ext) (hr2.mono m3.ext) he (by omega) ?_
      simp only [ix_int q1 q2, go_sem, Nat.reduceBEq]
      refine hsem_num tyS3 (haty (by omega)) hry hwk (by omega) ?_
      by_cases hkz : w.getD e.val.num.toNat 0 = 0
      · simp only [decide_eq_true hkz, wsk, go_sem, Nat.reduceBEq]
        exact Again.intro (k + 1, 0) (by first | omega | (simp only; omega)) ⟨hkb, Nat.zero_le _, .inr ⟨rfl, k, e, he, hv, h5, hkz⟩, rfl⟩ (by repeat (first | exact wkF_e | refine wkF_c rfl ?_)) (wkB_c rfl wkB_e) rfl
      · obtain ⟨m, hm, m1, m2', hwt⟩ := ri.kid hh h5 hkz
        rw [hwk] at hm
        have hm := Option.some.inj hm
        simp only [decide_eq_false hkz, ix_nat hkb, go_sem, Nat.reduceBEq, Nat.reduceAdd]
        refine hsem_snum tyS3 (hat2'.mono m3.ext) (hr2.mono m3.ext) he (by omega) ?_
        simp only [ix_int q1 q2, go_sem, Nat.reduceBEq]
        refine hsem_num tyS3 (haty (by omega)) hry hwk (by omega) ?_
        rw [hm]
        have hws : IntKind.i64.wrap ((n : Int) + (m : Int)) = ((n + m : Nat) : Int) := by rw [IntWalk.i64_in _ (by omega)]; omega
        simp only [hws, wsk, go_sem, Nat.reduceBEq]
        refine Again.intro (k + 1, n + m) (by first | omega | (simp only; omega)) ⟨hkb, by show n + m ≤ 1 + 200 * (k + 1); omega, .inl ⟨by omega, ?_⟩, rfl⟩ (by repeat (first | exact wkF_e | refine wkF_c rfl ?_)) (wkB_c rfl wkB_e) rfl
        rw [take_snoc he]
        exact SumR.append.2 ⟨n - 1, m, hsum, SumR.one.2 (.inr (.inl ⟨hv, h5, hwt⟩)), by show n + m - 1 = _; omega⟩
    · have fin : (1 ≤ n ∧ Wt l i n) ∨ (n = 0 ∧ rInv l w rd (i + 1)) := by
        rcases pw with q | q
        · have hkk : k = (blk l i).tab.slots.length := by omega
          subst hkk
          rw [List.take_length] at q
          exact .inl ⟨q.1, Wt.iff.2 ⟨n - 1, q.2, by omega⟩⟩
        · obtain ⟨h0, j, s, hs, hl, h5, hz⟩ := q
          exact .inr ⟨h0, ri.wait hs hl h5 (hin i _ hbk j s hs hl) hz⟩
      have go : ∀ (X : Prop), (∀ (b : Bool), (b = false) → X) → X := fun X f => f false rfl
      by_cases hkl : k < (blk l i).tab.slots.length
      · have hn0 : n = 0 := by omega
        subst hn0
        simp only [decide_eq_true (show ((k : Nat) : Int) < (((blk l i).tab.slots.length : Nat) : Int) by omega), decide_eq_false (show ¬ (0 : Int) < ((0 : Nat) : Int) by omega), decide_eq_false (show ¬ (200 : Int) < ((0 : Nat) : Int) by omega), wsu, go_sem, Nat.reduceBEq, Nat.reduceEqDiff]
        rcases fin with q | q
        · omega
        · exact Again.intro (i + 1, w) (by first | omega | (simp only; omega)) ⟨hq, q.2, m3⟩ (by repeat (first | exact wkF_e | refine wkF_c rfl ?_)) (wkB_c rfl wkB_e) rfl
      · simp only [decide_eq_false (show ¬ ((k : Nat) : Int) < (((blk l i).tab.slots.length : Nat) : Int) by omega), go_sem, Nat.reduceBEq, Nat.reduceEqDiff]
        by_cases hbig : 200 < n
        · simp only [decide_eq_true (show (200 : Int) < ((n : Nat) : Int) by omega), go_sem, Nat.reduceBEq]
          refine ⟨?_, m3.ext⟩
          rcases fin with q | q
          · have hno : lightB l = false := Bool.eq_false_iff.2 fun kk => by
              obtain ⟨m, hm, hw⟩ := lightB_iff.1 kk i _ hbk (by omega)
              have := hw.uniq q.2
              omega
            rw [hno]
          · omega
        simp only [decide_eq_false (show ¬ (200 : Int) < ((n : Nat) : Int) by omega), go_sem, Nat.reduceBEq]
        rcases fin with q | q
        · have hls := leftN_set (w := w) (i := i) (x := (n : Nat)) (l := l) (by omega) (by omega) hwz (by omega) l.length
          rw [if_pos hq] at hls
          have hwl : IntKind.i64.wrap (((leftN l w l.length : Nat) : Int) - 1) = ((leftN l (w.set i (n : Nat)) l.length : Nat) : Int) := by rw [IntWalk.i64_in _ (by omega)]; omega
          obtain ⟨cn, hn', en⟩ := hold_num (es := w) (b := bo) (cap := l.length) (i := i) (by omega)
          rw [wlen] at hn'
          obtain ⟨x, hx⟩ := hold_self (es := w) (i := i) (by omega)
          simp only [decide_eq_true (show (0 : Int) < ((n : Nat) : Int) by omega), ix_nat hq, go_sem, Nat.reduceBEq]
          refine hn'.put1 (h0 := h) (d := .raw (.int .i64 x)) tyS3 rfl rfl (by rw [en, hx]; exact m3) (by omega) fun h5 m5 => ?_
          rw [en] at m5
          simp only [hwl, wsu, go_sem, Nat.reduceBEq]
          exact Again.intro (i + 1, w.set i (n : Nat)) (by first | omega | (simp only; omega)) ⟨hq, ri.put hq (by omega) hwz q.2 q.1 (by omega), m5⟩ (by repeat (first | exact wkF_e | refine wkF_c rfl ?_)) (wkB_c rfl wkB_e) rfl
        · obtain ⟨hn0, q⟩ := q
          subst hn0
          simp only [decide_eq_false (show ¬ (0 : Int) < ((0 : Nat) : Int) by omega), wsu, go_sem, Nat.reduceBEq]
          exact Again.intro (i + 1, w) (by first | omega | (simp only; omega)) ⟨hq, q, m3⟩ (by repeat (first | exact wkF_e | refine wkF_c rfl ?_)) (wkB_c rfl wkB_e) rfl
  · have hq : i = l.length := by simp at hq; omega
    subst hq
    have wsr := wrap_succ (i := rd) (by omega)
    simp only [wsr, go_sem]
    exact Again.intro (rd + 1, w) (by first | omega | (simp only; omega)) ⟨by show rd + 1 ≤ 201; omega, ri.next, m3⟩ (by repeat (first | exact wkF_e | refine wkF_c rfl ?_)) (wkB_c rfl wkB_e) rfl
theorem bk_negS {l : List Bk} {i : Nat} {b : Bk} (hb : l[i]? = some b) (h : bkOk l b = false) : heapB l = false := noHeap fun k => by
  have := k.blk i b hb
  rw [h] at this
  cases this
set_option maxHeartbeats 1600000 in
theorem sIsHeap (l : List Bk) (hb : szG Bk.bulk l ≤ 1048576) (s : Value) (h : Hp) (r : RdB h l s) : ACalls Tryz.prog 16 #[.agg #[s]] h (Is (.bool (heapB l)) h) := by
  have hlen := szG_len (w := Bk.bulk) l
  obtain ⟨a1, c1, xs1, rfl, hc1, hr1, hat1⟩ := r.rows (by decide) l.length (fm_len Bk.dt_len _)
  (refine enter Tryz.func16 rfl rfl (by kernel_rfl) [] ?_; simp only [go_sem, Nat.reduceBEq])
  refine aloop (ι := Nat) (fun i => [(3, .val (.int .i64 (i : Nat))), (1, .box 1 0)]) (fun _ => [(1, [.slice a1 l.length c1])])
    (fun i h' => i ≤ l.length ∧ Ext h h' ∧ preB l i) (fun i => l.length - i) 0 ⟨Nat.zero_le _, Ext.refl _, fun j b hj => by omega⟩ (by repeat (first | exact wkF_e | refine wkF_c rfl ?_)) (wkB_c rfl wkB_e) rfl ?_
  rintro i h1 ⟨hi, e1, pb⟩
  have hi : i ≤ l.length := hi
  have pb : preB l i := pb
  try simp only [go_sem, Nat.reduceBEq]
  refine Br.intro (fun hq => ?_) (fun hq => ?_) <;> (try simp only [hq, go_sem, Nat.reduceBEq, Nat.reduceLeDiff])
  · have hq : i < l.length := by simpa using hq
    obtain ⟨b1, o1, rfl, hat1'⟩ := hat1 (by omega)
    obtain ⟨b, hbk, hm⟩ := get_lt hq
    have hsb := slots_bulk hbk
    obtain ⟨hsl, hsv⟩ := tab_slots b.tab
    have wsu := wrap_succ (i := i) (by omega)
    simp only [ix_nat hq, go_sem, Nat.reduceBEq]
    refine hsem_blk tyS40 (hat1'.mono e1) (hr1.mono e1) hbk rfl fun s2 u2 rh ru => ?_
    obtain ⟨a3, c3, xs3, rfl, hc3, hr3, hat3⟩ := rh.rows (by decide) b.tab.heads.length (fm_len idt_len _)
    obtain ⟨a2, c2, xs2, rfl, hc2, hr2, hat2⟩ := ru.rows (by decide) b.tab.slots.length (fm_len Sl.dt_len _)
    by_cases h0 : b.count = 0
    · simp only [decide_eq_true h0, go_sem, Nat.reduceBEq, Nat.reduceAdd, Nat.reduceLeDiff]
      have hF : bkOk l b = b.free := bkOk_free h0
      (refine (sFree l b _ _ _ rh ru h0).mono ?_; rintro _ _ ⟨rfl, rfl⟩; simp only [go_sem, Nat.reduceBEq])
      cases hfr : b.free with
      | false =>
        simp only [Bool.not_false, go_sem, Nat.reduceBEq]
        exact ⟨by rw [bk_negS hbk (by rw [hF, hfr])], e1⟩
      | true =>
        have hs0 := free_slots hfr
        simp only [decide_eq_true h0, Bool.not_true, go_sem, Nat.reduceBEq]
        refine aloop (ι := Nat) (fun _ => [(5, .val (.int .i64 0)), (3, .val (.int .i64 (i : Nat))), (1, .box 1 0), (4, .box 4 0)]) (fun _ => [(1, [.slice (some ⟨b1, o1, none⟩) l.length c1]), (4, [.int .i64 b.count, .bool b.tab.hashed, .slice a3 b.tab.heads.length c3, .slice a2 b.tab.slots.length c2, .int .i64 b.tab.next, .int .i64 b.tab.count])])
          (fun k h' => h1 = h') (fun _ => 0) 0 rfl (by repeat (first | exact wkF_e | refine wkF_c rfl ?_)) (wkB_c rfl (wkB_c rfl wkB_e)) rfl ?_
        rintro k _ rfl
        simp only [hs0, List.length_nil, go_sem, Nat.reduceBEq, Nat.reduceAdd]
        simp only [decide_eq_false (show ¬ (0 : Int) < ((0 : Nat) : Int) by decide), wsu, go_sem, Nat.reduceBEq, Nat.reduceLeDiff, Nat.reduceEqDiff]
        exact Again.intro (i + 1) (by first | omega | (simp only; omega)) ⟨hq, e1, pb.step hbk (by rw [hF, hfr])⟩ (by repeat (first | exact wkF_e | refine wkF_c rfl ?_)) (wkB_c rfl wkB_e) rfl
    have hL := bkOk_live (l := l) h0
    simp only [decide_eq_false h0, Bool.not_false, go_sem, Nat.reduceBEq, Nat.reduceAdd, Nat.reduceLeDiff]
    (refine (l1In_c _ _ _ _).mono ?_; rintro _ _ ⟨rfl, rfl⟩; simp only [go_sem, Nat.reduceBEq])
    by_cases q0 : 1 ≤ b.count ∧ b.count ≤ 1000000000000
    case neg =>
      simp only [decide_eq_false q0, Bool.not_false, go_sem, Nat.reduceBEq]
      exact ⟨by rw [bk_negS hbk (Bool.eq_false_iff.2 fun k => q0 (hL.1 k).1)], e1⟩
    simp only [decide_eq_true q0, Bool.not_true, go_sem, Nat.reduceBEq, Nat.reduceAdd, Nat.reduceLeDiff]
    refine (sIsTable b.tab (by omega) _ _ _ rh ru).mono ?_
    rintro _ h2 ⟨rfl, e12⟩
    have e2 := e1.trans e12
    cases hT : b.tab.isTab with
    | false =>
      simp only [Bool.not_false, go_sem, Nat.reduceBEq]
      exact ⟨by rw [bk_negS hbk (Bool.eq_false_iff.2 fun k => by have := (hL.1 k).2.1; rw [hT] at this; cases this)], e2⟩
    | true =>
    simp only [Bool.not_true, go_sem, Nat.reduceBEq]
    refine aloop (ι := Nat) (fun k => [(5, .val (.int .i64 (k : Nat))), (3, .val (.int .i64 (i : Nat))), (1, .box 1 0), (4, .box 4 0)]) (fun _ => [(1, [.slice (some ⟨b1, o1, none⟩) l.length c1]), (4, [.int .i64 b.count, .bool b.tab.hashed, .slice a3 b.tab.heads.length c3, .slice a2 b.tab.slots.length c2, .int .i64 b.tab.next, .int .i64 b.tab.count])])
      (fun k h' => k ≤ b.tab.slots.length ∧ Ext h1 h' ∧ preS l b.tab.slots k) (fun k => b.tab.slots.length - k) 0 ⟨Nat.zero_le _, e12, fun j b hj => by omega⟩ (by repeat (first | exact wkF_e | refine wkF_c rfl ?_)) (wkB_c rfl (wkB_c rfl wkB_e)) rfl ?_
    rintro k h3 ⟨hk, e13, ps⟩
    have hk : k ≤ b.tab.slots.length := hk
    have ps : preS l b.tab.slots k := ps
    have e3 := e1.trans e13
    try simp only [go_sem, Nat.reduceBEq, Nat.reduceAdd]
    refine Br.intro (fun hkb => ?_) (fun hkb => ?_) <;> (try simp only [hkb, go_sem, Nat.reduceBEq, Nat.reduceLeDiff, Nat.reduceEqDiff])
    · have hkb : k < b.tab.slots.length := by simpa using hkb
      obtain ⟨b2, o2, rfl, hat2'⟩ := hat2 (by omega)
      obtain ⟨e, he, hme⟩ := get_lt hkb
      have hve := hsv e hme
      have wsk := wrap_succ (i := k) (by omega)
      refine regionD_intro (lb := [53, 59, 62]) (by kernel_rfl) ?_
      simp only [ix_nat hkb, go_sem, Nat.reduceBEq, Nat.reduceAdd]
      refine hsem_slive tyS4 (hat2'.mono e13) (hr2.mono e13) he rfl ?_
      cases hv : e.live with
      | false =>
        simp only [wsk, go_sem, Nat.reduceBEq]
        exact Again.intro (k + 1) (by first | omega | (simp only; omega)) ⟨hkb, e13, ps.step he fun q => by rw [hv] at q; cases q⟩ (by repeat (first | exact wkF_e | refine wkF_c rfl ?_)) (wkB_c rfl (wkB_c rfl wkB_e)) rfl
      | true =>
        simp only [ix_nat hkb, go_sem, Nat.reduceBEq, Nat.reduceAdd, Nat.reduceLeDiff]
        refine hsem_sval tyS49 (hat2'.mono e13) (hr2.mono e13) he (by omega) fun s3 rd3 => ?_
        try simp only [go_sem, Nat.reduceBEq]
        refine (sIsHeld l e.val (by omega) (by omega) _ _ _ (r.mono e3) rd3).mono ?_
        rintro _ h4 ⟨rfl, e34⟩
        cases hhd : isHeld l e.val with
        | false =>
          simp only [Bool.not_false, go_sem, Nat.reduceBEq]
          exact ⟨by rw [bk_negS hbk (Bool.eq_false_iff.2 fun q => by have := (hL.1 q).2.2 k e he hv; rw [hhd] at this; cases this)], e3.trans e34⟩
        | true =>
          simp only [Bool.not_true, wsk, go_sem, Nat.reduceBEq]
          exact Again.intro (k + 1) (by first | omega | (simp only; omega)) ⟨hkb, e13.trans e34, ps.step he fun _ => hhd⟩ (by repeat (first | exact wkF_e | refine wkF_c rfl ?_)) (wkB_c rfl (wkB_c rfl wkB_e)) rfl
    · have hkb : k = b.tab.slots.length := by simp at hkb; omega
      subst hkb
      simp only [wsu, go_sem]
      exact Again.intro (i + 1) (by first | omega | (simp only; omega)) ⟨hq, e3, pb.step hbk (hL.2 ⟨q0, hT, fun k s hs hl => ps k s (lt_of_get hs) hs hl⟩)⟩ (by repeat (first | exact wkF_e | refine wkF_c rfl ?_)) (wkB_c rfl wkB_e) rfl
  · have hq : i = l.length := by simp at hq; omega
    subst hq
    obtain ⟨hin, hcz⟩ := pb.inR
    try simp only [go_sem, Nat.reduceBEq, Nat.reduceAdd, Nat.reduceLeDiff, Nat.reduceEqDiff, Int.reduceEq, not_false_eq_true, Int.reduceToNat]
    refine (sLight l hb hin hcz _ _ (r.mono e1)).mono ?_
    rintro _ h2 ⟨rfl, e12⟩
    simp only [go_sem, Nat.reduceBEq]
    refine ⟨?_, e1.trans e12⟩
    have : heapB l = lightB l := by
      unfold heapB
      rw [allAt_iff.2 fun i b hb => pb i b (lt_of_get hb) hb, Bool.true_and]
    rw [this]
end Go.Proofs.YtccjkhnefiikaaaGreatDoor
namespace Go.Proofs.YtccjkhnefiikaaaGreatDoor
set_option maxRecDepth 8000
open Go Go.Sx
/-- a heap made anew -/
def MadeH (h : Hp) (l : List Bk) (u : Value) (h' : Hp) : Prop := ∃ a c, u = .agg #[.slice a l.length c] ∧ My h h' [(.row 6 (l.flatMap Bk.dt), .slice a l.length c)]
set_option maxHeartbeats 800000 in
theorem iCopyHeap (l : List Bk) (hb : szG Bk.bulk l ≤ 1099511627776) (s : Value) (h : Hp) (r1 : RdB h l s) : ACalls Tryz.prog 17 #[.agg #[s]] h (MadeH h l) := by
  have hlen := szG_len (w := Bk.bulk) l
  obtain ⟨a1, c1, xs1, rfl, hc1, hr1, hat1⟩ := r1.rows (by decide) l.length (fm_len Bk.dt_len _)
  (refine enter Tryz.func17 rfl rfl (by kernel_rfl) [] ?_; simp only [go_sem, Nat.reduceBEq, Nat.reduceLeDiff])
  refine aloop (ι := Nat × Value) (fun x => [(10, .val (.int .i64 (x.1 : Nat))), (9, .val (.int .i64 (l.length : Nat))), (8, .val (.slice a1 l.length c1)), (3, .box 3 0), (2, .box 2 0)])
    (fun x => [(3, [x.2]), (2, [.slice none 0 0])])
    (fun x h' => x.1 ≤ l.length ∧ My h h' [(.row 6 ((l.take x.1).flatMap Bk.dt), x.2)]) (fun x => l.length - x.1) (0, .slice none 0 0)
    ⟨Nat.zero_le _, (My.nil (Ext.refl h)).nilrow⟩ (by repeat (first | exact wkF_e | refine wkF_c rfl ?_)) (wkB_c rfl (wkB_c rfl wkB_e)) rfl ?_
  rintro ⟨i, o⟩ h1 ⟨hi, m1⟩
  have hi : i ≤ l.length := hi
  have m1 : My h h1 [(.row 6 ((l.take i).flatMap Bk.dt), o)] := m1
  have htl : ((l.take i).flatMap Bk.dt).length = i * 6 := by rw [fm_len Bk.dt_len, List.length_take, Nat.min_eq_left hi]
  obtain ⟨ao, co, rfl, _⟩ := m1.row_shape (by decide) i htl
  try simp only [go_sem, Nat.reduceBEq]
  refine Br.intro (fun hq => ?_) (fun hq => ?_) <;> (try simp only [hq, go_sem, Nat.reduceBEq, Nat.reduceLeDiff])
  · have hq : i < l.length := by simpa using hq
    obtain ⟨b1, o1, rfl, hat1'⟩ := hat1 (by omega)
    obtain ⟨b, hbk, hm⟩ := get_lt hq
    have hsb := slots_bulk hbk
    have wsu := wrap_succ (i := i) (by omega)
    simp only [ix_nat hq, go_sem, Nat.reduceBEq]
    refine hsem_blk tyS40 (hat1'.mono m1.ext) (hr1.mono m1.ext) hbk rfl fun s2 u2 rh ru => ?_
    obtain ⟨a3, c3, xs3, rfl, hc3, hr3, hat3⟩ := rh.rows (by decide) b.tab.heads.length (fm_len idt_len _)
    obtain ⟨a2, c2, xs2, rfl, hc2, hr2, hat2⟩ := ru.rows (by decide) b.tab.slots.length (fm_len Sl.dt_len _)
    try simp only [go_sem, Nat.reduceBEq, Nat.reduceAdd, Nat.reduceLeDiff]
    refine regionD_intro (lb := [15, 17, 19]) (by kernel_rfl) ?_
    simp only [go_sem, Nat.reduceBEq, Nat.reduceAdd, Nat.reduceLeDiff]
    refine (copyTable_c b.tab (by omega) _ _ _ rh ru).mono ?_
    rintro _ h2 ⟨a4, c4, a5, c5, rfl, m2⟩
    simp only [go_sem, Nat.reduceBEq, Nat.reduceAdd, Nat.reduceLeDiff]
    have m3 := m1.add m2
    refine hsem_my_lit (h0 := h) (es := Bk.dt b) (parts := [(0, .agg #[.int .i64 b.count, .bool b.tab.hashed, .slice a4 b.tab.heads.length c4, .slice a5 b.tab.slots.length c5, .int .i64 b.tab.next, .int .i64 b.tab.count])]) slT24 (by decide) (by decide) (by decide) rfl rfl (by simp [Value.cells]) (bag := [(.row 6 ((l.take i).flatMap Bk.dt), .slice ao i co)]) ?_ rfl (Bk.dt_len b) fun l4 h4 m4 => ?_
    · simp only [flat, List.flatMap_cons, List.flatMap_nil, List.append_nil, cells_agg]
      exact bk_zip b m3
    simp only [go_sem, Nat.reduceBEq]
    refine hsem_my_append slT24 (by decide) rfl i 1 m4.swap htl (Bk.dt_len b) (by show (i + 1) * 80 ≤ _; omega) (by omega) fun l5 h5 m5 => ?_
    have m5 : My h h5 [(.row 6 ((l.take i).flatMap Bk.dt ++ Bk.dt b), l5)] := m5
    have e5 : (l.take i).flatMap Bk.dt ++ Bk.dt b = (l.take (i + 1)).flatMap Bk.dt := by rw [take_snoc hbk, List.flatMap_append, List.flatMap_cons, List.flatMap_nil, List.append_nil]
    rw [e5] at m5
    obtain ⟨a6, c6, rfl, _⟩ := m5.row_shape (by decide) (i + 1) (by rw [fm_len Bk.dt_len, List.length_take, Nat.min_eq_left hq])
    simp only [wsu, go_sem, Nat.reduceBEq, Nat.reduceLeDiff]
    exact Again.intro (i + 1, .slice a6 (i + 1) c6) (by first | omega | (simp only; omega)) ⟨hq, m5⟩ (by repeat (first | exact wkF_e | refine wkF_c rfl ?_)) (wkB_c rfl (wkB_c rfl wkB_e)) rfl
  · have hq : i = l.length := by simp at hq; omega
    subst hq
    rw [List.take_length] at m1
    try simp only [go_sem, Nat.reduceBEq, Nat.reduceAdd, Nat.reduceLeDiff, Nat.reduceEqDiff, Int.reduceEq, not_false_eq_true, Int.reduceToNat]
    exact ⟨_, _, rfl, m1⟩
end Go.Proofs.YtccjkhnefiikaaaGreatDoor
namespace Go.Proofs.YtccjkhnefiikaaaGreatDoor
set_option maxRecDepth 8000
open Go Go.Sx
/-- a heap and a Bool, made anew -/
def MadeH2 (h : Hp) (l : List Bk) (ok : Bool) (u : Value) (h' : Hp) : Prop := ∃ a c, u = .tuple #[.agg #[.slice a l.length c], .bool ok] ∧ My h h' [(.row 6 (l.flatMap Bk.dt), .slice a l.length c)]
/-- no result; a heap in a variable -/
def HpW (h0 : Hp) (l : List Bk) (a : Option Addr) (n bp : Nat) (R : Bag) (u : Value) (h' : Hp) : Prop := u = .tuple #[] ∧ My h0 h' (HpB l a n bp R)
/-- a value; a heap in a variable -/
def HpV (h0 : Hp) (w : Value) (l : List Bk) (a : Option Addr) (n bp : Nat) (R : Bag) (u : Value) (h' : Hp) : Prop := u = w ∧ My h0 h' (HpB l a n bp R)
theorem sShare (l : List Bk) (v : V) (hr : refIn l.length v) (hc : v.kind = 5 → 0 ≤ (blk l v.num.toNat).count ∧ (blk l v.num.toNat).count ≤ 4611686018427387904) (av : Option Addr) (nv cv : Nat) (a : Option Addr) (n bp : Nat) (R : Bag) (h0 h : Hp) (my : My h0 h (HpB l a n bp R)) : ACalls Tryz.prog 43 #[.pointer (some ⟨bp, 0, none⟩), .agg #[.int .i64 v.kind, .int .i64 v.num, .string v.str, .int .i64 v.next, .slice av nv cv]] h (HpV h0 (.agg #[.int .i64 v.kind, .int .i64 v.num, .string v.str, .int .i64 v.next, .slice av nv cv]) (shareH l v) a n bp R) := by
  (refine enter Tryz.func43 rfl rfl (by kernel_rfl) [] ?_; simp only [go_sem, Nat.reduceBEq])
  by_cases h5 : v.kind = 5
  case neg =>
    simp only [decide_eq_false h5, go_sem, Nat.reduceBEq, Nat.reduceAdd, Nat.reduceLeDiff]
    exact ⟨rfl, by rw [shareH_other h5]; exact my⟩
  obtain ⟨q1, q2⟩ := hr h5
  obtain ⟨w1, w2⟩ := hc h5
  have hw : IntKind.i64.wrap ((blk l v.num.toNat).count + 1) = (blk l v.num.toNat).count + 1 := IntWalk.i64_in _ (by omega)
  have my : My h0 h ((.row 6 (l.flatMap Bk.dt), .slice a l.length n) :: (.ptr [] [.raw (.slice a l.length n)] [], .pointer (some ⟨bp, 0, none⟩)) :: R) := my
  obtain ⟨_, _, es, _, _, hat⟩ := my.row_shape (by decide) l.length (fm_len Bk.dt_len _)
  cases es
  obtain ⟨b, rfl⟩ := hat (by omega)
  simp only [decide_eq_true h5, go_sem]
  refine regionD_intro (lb := [13, 19]) (by kernel_rfl) ?_
  simp only [go_sem, Nat.reduceBEq]
  refine Hold.ld1 (i := 0) Hold.ptr tyS24 my.swap rfl rfl ?_
  simp only [go_sem, Nat.reduceBEq]
  refine Hold.ld1 (i := 0) Hold.ptr tyS24 my.swap rfl rfl ?_
  simp only [ix_int q1 q2, go_sem, Nat.reduceBEq]
  refine bcnt_ld q2 tyS3 my (by omega) ?_
  simp only [ix_int q1 q2, hw, go_sem, Nat.reduceBEq]
  refine bcnt_st _ q2 tyS3 my (by omega) fun h2 m2 => ?_
  try simp only [go_sem, Nat.reduceBEq, Nat.reduceAdd, Nat.reduceLeDiff]
  refine ⟨rfl, ?_⟩
  unfold HpB
  rw [shareH_len, shareH_this h5]
  exact m2
end Go.Proofs.YtccjkhnefiikaaaGreatDoor
namespace Go.Proofs.YtccjkhnefiikaaaGreatDoor
set_option maxRecDepth 8000
open Go Go.Sx
/-- a table of the walk's own -/
def OwnT (h0 : Hp) (t : Tb) (R : Bag) (u : Value) (h' : Hp) : Prop := ∃ a c a' c', u = .agg #[.bool t.hashed, .slice a t.heads.length c, .slice a' t.slots.length c', .int .i64 t.next, .int .i64 t.count] ∧ My h0 h' ((.row 1 (t.heads.flatMap idt), .slice a t.heads.length c) :: (.row 10 (t.slots.flatMap Sl.dt), .slice a' t.slots.length c') :: R)
theorem fm_push (t : Tb) (k : Ky) (x : V) : t.slots.flatMap Sl.dt ++ Sl.dt ⟨k, x, true, t.link k⟩ = (t.push k x).slots.flatMap Sl.dt := by
  show _ = (t.slots ++ [_]).flatMap Sl.dt
  rw [List.flatMap_append, List.flatMap_cons, List.flatMap_nil, List.append_nil]
theorem push_wrap {t : Tb} (c : t.ch) : IntKind.i64.wrap (t.count + 1) = t.count + 1 := by
  have h1 := c.cnt
  have h2 := c.len
  have h3 := liveN_le t.slots
  exact IntWalk.i64_in _ (by omega)
theorem link_hashed {t : Tb} {k : Ky} (h : t.hashed = true) : t.link k = t.heads.getD (k.hash % t.heads.length) (-1) := by unfold Tb.link; rw [h]; rfl
theorem link_packed {t : Tb} {k : Ky} (h : t.hashed = false) : t.link k = -1 := by unfold Tb.link; rw [h]; rfl
theorem push_heads {t : Tb} {k : Ky} {x : V} (h : t.hashed = true) : (t.push k x).heads = t.heads.set (k.hash % t.heads.length) (t.slots.length : Nat) := by unfold Tb.push; rw [h]; rfl
theorem push_heads0 {t : Tb} {k : Ky} {x : V} (h : t.hashed = false) : (t.push k x).heads = t.heads := by unfold Tb.push; rw [h]; rfl
theorem push_hl (t : Tb) (k : Ky) (x : V) : (t.push k x).heads.length = t.heads.length := (t.push_slots k x).2
end Go.Proofs.YtccjkhnefiikaaaGreatDoor
namespace Go.Proofs.YtccjkhnefiikaaaGreatDoor
set_option maxRecDepth 8000
open Go Go.Sx
theorem ownT_bump {h0 h' : Hp} {t : Tb} {k : Ky} {x : V} {R : Bag} {a1 a6 : Option Addr} {c1 c6 : Nat} {n : Int} {bh : Bool} (hh : bh = t.hashed) (hn : n = ((t.push k x).bump k).next) (m : My h0 h' ((.row 1 ((t.push k x).heads.flatMap idt), .slice a1 t.heads.length c1) :: (.row 10 ((t.push k x).slots.flatMap Sl.dt), .slice a6 (t.push k x).slots.length c6) :: R)) :
    OwnT h0 ((t.push k x).bump k) R (.agg #[.bool bh, .slice a1 t.heads.length c1, .slice a6 (t.push k x).slots.length c6, .int .i64 n, .int .i64 (t.count + 1)]) h' := by
  have e : ((t.push k x).bump k).heads.length = t.heads.length := push_hl t k x
  subst hn
  subst hh
  refine ⟨a1, c1, a6, c6, ?_, ?_⟩
  · rw [e]
    rfl
  · rw [e]
    exact m
theorem sPush (t : Tb) (ch : t.ch) (k : Ky) (hk : k.str.size ≤ 1152921504606846976) (ko : keyOk k = true) (x : V) (ax a1 a2 : Option Addr) (cx c1 c2 : Nat) (h0 h : Hp) (R : Bag) (m : My h0 h ((.row 8 (x.items.flatMap edt), .slice ax x.items.length cx) :: (.row 1 (t.heads.flatMap idt), .slice a1 t.heads.length c1) :: (.row 10 (t.slots.flatMap Sl.dt), .slice a2 t.slots.length c2) :: R)) :
    ACalls Tryz.prog 82 #[.agg #[.bool t.hashed, .slice a1 t.heads.length c1, .slice a2 t.slots.length c2, .int .i64 t.next, .int .i64 t.count], .agg #[.bool k.text, .int .i64 k.num, .string k.str], .agg #[.int .i64 x.kind, .int .i64 x.num, .string x.str, .int .i64 x.next, .slice ax x.items.length cx]] h (OwnT h0 ((t.push k x).bump k) R) := by
  have hls := ch.len
  have m1 := m.swap
  (refine enter Tryz.func82 rfl rfl (by kernel_rfl) [] ?_; simp only [go_sem, Nat.reduceBEq, Nat.reduceAdd, Nat.reduceLeDiff])
  cases ht : t.hashed with
  | true =>
  have hsz := ch.size ht
  have hm : k.hash % t.heads.length < t.heads.length := Nat.mod_lt _ (by omega)
  have hh := k.hash_lt
  have em : ((k.hash : Nat) : Int).tmod ((t.heads.length : Nat) : Int) = ((k.hash % t.heads.length : Nat) : Int) := by
    rw [Int.tmod_eq_emod_of_nonneg (by omega)]
    omega
  have hm0 : (((t.heads.length : Nat) : Int) = 0) = False := eq_false (by omega)
  obtain ⟨_, _, e1, _, _, hat1⟩ := m1.row_shape (by decide) t.heads.length (fm_len idt_len _)
  cases e1
  obtain ⟨b1, rfl⟩ := hat1 (by omega)
  simp only [go_sem]
  refine regionD_intro (lb := [14, 17]) (by kernel_rfl) ?_
  simp only [go_sem, Nat.reduceBEq, Nat.reduceAdd, Nat.reduceLeDiff]
  (refine (sKeyHash k hk _).mono ?_; rintro _ _ ⟨rfl, rfl⟩; simp only [go_sem, Nat.reduceBEq])
  obtain ⟨xs, hr, hat⟩ := m1.at_
  simp only [hm0, em, ix_nat hm, go_sem, Nat.reduceBEq, not_false_eq_true]
  refine hsem_num tyS3 (hat (by omega)) hr (getD_at (d := -1) hm) (by omega) ?_
  rw [← link_hashed ht]
  simp only [ix_nat hm, go_sem, Nat.reduceBEq, Nat.reduceAdd, Nat.reduceLeDiff]
  obtain ⟨cn, hn, en⟩ := hold_num (b := b1) (cap := c1) hm
  obtain ⟨w, hw⟩ := hold_self hm
  refine hn.put1 (h0 := h0) (d := .raw (.int .i64 w)) tyS3 rfl rfl (by rw [en, hw]; exact m1) (by omega) fun h2 m2 => ?_
  rw [en, ← push_heads (x := x) ht] at m2
  have mz : My h0 h2 ((.row 8 (x.items.flatMap edt), .slice ax x.items.length cx) :: (.row 10 (t.slots.flatMap Sl.dt), .slice a2 t.slots.length c2) :: (.row 1 ((t.push k x).heads.flatMap idt), .slice (some ⟨b1, 0, none⟩) t.heads.length c1) :: R) := m2.third.third
  simp only [go_sem, Nat.reduceBEq, Nat.reduceAdd, Nat.reduceLeDiff]
  refine hsem_my_lit (h0 := h0) (es := Sl.dt ⟨k, x, true, t.link k⟩) (parts := [(0, .agg #[.bool k.text, .int .i64 k.num, .string k.str, .int .i64 x.kind, .int .i64 x.num, .string x.str, .int .i64 x.next, .slice ax x.items.length cx, .bool true, .int .i64 (t.link k)])]) slT36 (by decide) (by decide) (by decide) rfl rfl (by simp [Value.cells])
    (bag := (.row 10 (t.slots.flatMap Sl.dt), .slice a2 t.slots.length c2) :: (.row 1 ((t.push k x).heads.flatMap idt), .slice (some ⟨b1, 0, none⟩) t.heads.length c1) :: R) ?_ rfl (Sl.dt_len _) fun l4 h4 m4 => ?_
  · simp only [flat, List.flatMap_cons, List.flatMap_nil, List.append_nil, cells_agg]
    exact slot_zip ⟨k, x, true, t.link k⟩ mz
  simp only [go_sem, Nat.reduceBEq]
  refine hsem_my_append slT36 (by decide) rfl t.slots.length 1 m4.swap (fm_len Sl.dt_len _) (Sl.dt_len _) (by show (t.slots.length + 1) * 112 ≤ _; omega) (by omega) fun l5 h5 m5 => ?_
  rw [fm_push] at m5
  obtain ⟨a6, c6, rfl, _⟩ := m5.row_shape (by decide) (t.push k x).slots.length (fm_len Sl.dt_len _)
  have m6 := m5.swap
  by_cases kt : k.text = true
  · simp only [push_wrap ch, kt, go_sem, Nat.reduceBEq, Nat.reduceAdd, Nat.reduceLeDiff]
    exact ownT_bump (n := t.next) ht.symm (by rw [Tb.bump_next, kt]; rfl) m6
  · have kt : k.text = false := by simpa using kt
    have wk : IntKind.i64.wrap (k.num + 1) = k.num + 1 := by
      have := keyOk_num ko
      rw [kt] at this
      simp at this
      exact IntWalk.i64_in _ (by omega)
    simp only [push_wrap ch, wk, kt, go_sem, Nat.reduceBEq, Nat.reduceAdd, Nat.reduceLeDiff]
    (refine (sMax _ _ _).mono ?_; rintro _ _ ⟨rfl, rfl⟩; simp only [go_sem, Nat.reduceBEq, Nat.reduceAdd, Nat.reduceLeDiff])
    exact ownT_bump (n := max t.next (k.num + 1)) ht.symm (by rw [Tb.bump_next, kt]; rfl) m6
  | false =>
  have e0 := link_packed (k := k) ht
  have m2 : My h0 h ((.row 1 ((t.push k x).heads.flatMap idt), .slice a1 t.heads.length c1) :: (.row 8 (x.items.flatMap edt), .slice ax x.items.length cx) :: (.row 10 (t.slots.flatMap Sl.dt), .slice a2 t.slots.length c2) :: R) := by rw [push_heads0 ht]; exact m1
  have mz : My h0 h ((.row 8 (x.items.flatMap edt), .slice ax x.items.length cx) :: (.row 10 (t.slots.flatMap Sl.dt), .slice a2 t.slots.length c2) :: (.row 1 ((t.push k x).heads.flatMap idt), .slice a1 t.heads.length c1) :: R) := m2.third.third
  simp only [go_sem, Nat.reduceBEq, Nat.reduceAdd, Nat.reduceLeDiff]
  rw [← e0]
  refine hsem_my_lit (h0 := h0) (es := Sl.dt ⟨k, x, true, t.link k⟩) (parts := [(0, .agg #[.bool k.text, .int .i64 k.num, .string k.str, .int .i64 x.kind, .int .i64 x.num, .string x.str, .int .i64 x.next, .slice ax x.items.length cx, .bool true, .int .i64 (t.link k)])]) slT36 (by decide) (by decide) (by decide) rfl rfl (by simp [Value.cells])
    (bag := (.row 10 (t.slots.flatMap Sl.dt), .slice a2 t.slots.length c2) :: (.row 1 ((t.push k x).heads.flatMap idt), .slice a1 t.heads.length c1) :: R) ?_ rfl (Sl.dt_len _) fun l4 h4 m4 => ?_
  · simp only [flat, List.flatMap_cons, List.flatMap_nil, List.append_nil, cells_agg]
    exact slot_zip ⟨k, x, true, t.link k⟩ mz
  simp only [go_sem, Nat.reduceBEq]
  refine hsem_my_append slT36 (by decide) rfl t.slots.length 1 m4.swap (fm_len Sl.dt_len _) (Sl.dt_len _) (by show (t.slots.length + 1) * 112 ≤ _; omega) (by omega) fun l5 h5 m5 => ?_
  rw [fm_push] at m5
  obtain ⟨a6, c6, rfl, _⟩ := m5.row_shape (by decide) (t.push k x).slots.length (fm_len Sl.dt_len _)
  have m6 := m5.swap
  by_cases kt : k.text = true
  · simp only [push_wrap ch, kt, go_sem, Nat.reduceBEq, Nat.reduceAdd, Nat.reduceLeDiff]
    exact ownT_bump (n := t.next) ht.symm (by rw [Tb.bump_next, kt]; rfl) m6
  · have kt : k.text = false := by simpa using kt
    have wk : IntKind.i64.wrap (k.num + 1) = k.num + 1 := by
      have := keyOk_num ko
      rw [kt] at this
      simp at this
      exact IntWalk.i64_in _ (by omega)
    simp only [push_wrap ch, wk, kt, go_sem, Nat.reduceBEq, Nat.reduceAdd, Nat.reduceLeDiff]
    (refine (sMax _ _ _).mono ?_; rintro _ _ ⟨rfl, rfl⟩; simp only [go_sem, Nat.reduceBEq, Nat.reduceAdd, Nat.reduceLeDiff])
    exact ownT_bump (n := max t.next (k.num + 1)) ht.symm (by rw [Tb.bump_next, kt]; rfl) m6
theorem sRoom (t : Tb) (ch : t.ch) (hl : liveN t.slots < 1024) (s u : Value) (h : Hp) : ACalls Tryz.prog 81 #[.agg #[.bool t.hashed, s, u, .int .i64 t.next, .int .i64 t.count]] h (Pu (.int .i64 (roomN (liveN t.slots) : Nat)) h) := by
  have hc := ch.cnt
  rw [hc]
  generalize liveN t.slots = n at *
  (refine enter Tryz.func81 rfl rfl (by kernel_rfl) [] ?_; simp only [go_sem, Nat.reduceBEq])
  refine aloop (ι := Nat × Nat) (fun x => [(3, .val (.int .i64 (x.1 : Nat))), (1, .box 1 0)]) (fun _ => [(1, [.bool t.hashed, s, u, .int .i64 t.next, .int .i64 (n : Nat)])])
    (fun x h' => x.1 * 2 ^ x.2 = 32768 ∧ dbl n x.2 x.1 = roomN n ∧ h = h') (fun x => x.2) (8, 12) ⟨by decide, rfl, rfl⟩ (by repeat (first | exact wkF_e | refine wkF_c rfl ?_)) (wkB_c rfl wkB_e) rfl ?_
  rintro ⟨z, f⟩ _ ⟨hz, hd, rfl⟩
  have hz : z * 2 ^ f = 32768 := hz
  have hd : dbl n f z = roomN n := hd
  simp only [go_sem, Nat.reduceBEq]
  refine Br.intro (fun hb => ?_) (fun hb => ?_) <;> (try simp only [hb, go_sem, Nat.reduceBEq])
  · have hb : z ≤ n := by simpa using hb
    obtain ⟨g, rfl, e1, e2⟩ := dbl_step hb hz hl
    have w : IntKind.i64.wrap (2 * ((z : Nat) : Int)) = ((z * 2 : Nat) : Int) := by rw [IntWalk.i64_in _ (by omega)]; omega
    simp only [w, go_sem]
    exact Again.intro (z * 2, g) (by first | omega | (simp only; omega)) ⟨e1, by rw [← e2]; exact hd, rfl⟩ (by repeat (first | exact wkF_e | refine wkF_c rfl ?_)) (wkB_c rfl wkB_e) rfl
  · have hb : ¬ z ≤ n := by simpa using hb
    rw [dbl_end hb] at hd
    exact ⟨by rw [hd], rfl⟩
end Go.Proofs.YtccjkhnefiikaaaGreatDoor
namespace Go.Proofs.YtccjkhnefiikaaaGreatDoor
set_option maxRecDepth 8000
open Go Go.Sx
set_option maxHeartbeats 800000 in
theorem sBuild (t : Tb) (ch : t.ch) (hl : liveN t.slots < 1024) (hks : ∀ e ∈ t.slots, e.key.str.size ≤ 1152921504606846976) (a1 a2 : Option Addr) (c1 c2 : Nat) (h0 h : Hp) (R : Bag) (m : My h0 h ((.row 1 (t.heads.flatMap idt), .slice a1 t.heads.length c1) :: (.row 10 (t.slots.flatMap Sl.dt), .slice a2 t.slots.length c2) :: R)) : ACalls Tryz.prog 80 #[.agg #[.bool t.hashed, .slice a1 t.heads.length c1, .slice a2 t.slots.length c2, .int .i64 t.next, .int .i64 t.count], .int .i64 (roomN (liveN t.slots) : Nat)] h (OwnT h0 t.build R) := by
  have hls := ch.len
  have hc := ch.cnt
  have hr := roomN_spec hl
  (refine enter Tryz.func80 rfl rfl (by kernel_rfl) [] ?_; simp only [go_sem, Nat.reduceBEq, Nat.reduceAdd, Nat.reduceLeDiff])
  refine aloop (ι := Nat × Value) (fun x => [(6, .val (.int .i64 (x.1 : Nat))), (1, .val (.int .i64 (roomN (liveN t.slots) : Nat))), (2, .box 2 0), (5, .box 5 0), (4, .box 4 0)])
    (fun x => [(2, [.bool t.hashed, .slice a1 t.heads.length c1, .slice a2 t.slots.length c2, .int .i64 t.next, .int .i64 t.count]), (5, [.bool true, x.2, .slice none 0 0, .int .i64 t.next, .int .i64 0]), (4, [.bool false, .slice none 0 0, .slice none 0 0, .int .i64 0, .int .i64 0])])
    (fun x h' => x.1 ≤ roomN (liveN t.slots) ∧ My h0 h' ((.row 1 ((List.replicate x.1 (-1)).flatMap idt), x.2) :: (.row 1 (t.heads.flatMap idt), .slice a1 t.heads.length c1) :: (.row 10 (t.slots.flatMap Sl.dt), .slice a2 t.slots.length c2) :: R)) (fun x => roomN (liveN t.slots) - x.1) (0, .slice none 0 0)
    ⟨Nat.zero_le _, m.nilrow⟩ (by repeat (first | exact wkF_e | refine wkF_c rfl ?_)) (wkB_c rfl (wkB_c rfl (wkB_c rfl wkB_e))) rfl ?_
  rintro ⟨n, sh⟩ h1 ⟨hn, m1⟩
  have hn : n ≤ roomN (liveN t.slots) := hn
  have m1 : My h0 h1 ((.row 1 ((List.replicate n (-1)).flatMap idt), sh) :: (.row 1 (t.heads.flatMap idt), .slice a1 t.heads.length c1) :: (.row 10 (t.slots.flatMap Sl.dt), .slice a2 t.slots.length c2) :: R) := m1
  have hrl : ((List.replicate n (-1 : Int)).flatMap idt).length = n * 1 := by rw [fm_len idt_len, List.length_replicate]
  obtain ⟨a3, c3, rfl, _⟩ := m1.row_shape (by decide) n hrl
  simp only [go_sem, Nat.reduceBEq]
  refine Br.intro (fun hb => ?_) (fun hb => ?_) <;> (try simp only [hb, go_sem, Nat.reduceBEq])
  · have hb : n < roomN (liveN t.slots) := by simpa using hb
    have wsu := wrap_succ (i := n) (by omega)
    refine hsem_my_lit (h0 := h0) (es := idt (-1)) (parts := [(0, .int .i64 (-1))]) slT34 (by decide) (by decide) (by decide) rfl rfl (by simp [Value.cells]) (bag := (.row 1 ((List.replicate n (-1)).flatMap idt), .slice a3 n c3) :: (.row 1 (t.heads.flatMap idt), .slice a1 t.heads.length c1) :: (.row 10 (t.slots.flatMap Sl.dt), .slice a2 t.slots.length c2) :: R) (m1.raw (u := .int .i64 (-1)) rfl) rfl rfl fun l4 h4 m4 => ?_
    simp only [go_sem, Nat.reduceBEq]
    refine hsem_my_append slT34 (by decide) rfl n 1 m4.swap hrl rfl (by show (n + 1) * 8 ≤ _; omega) (by omega) fun l5 h5 m5 => ?_
    have e5 : (List.replicate n (-1 : Int)).flatMap idt ++ idt (-1) = (List.replicate (n + 1) (-1 : Int)).flatMap idt := by rw [List.replicate_succ', List.flatMap_append, List.flatMap_cons, List.flatMap_nil, List.append_nil]
    rw [e5] at m5
    obtain ⟨a6, c6, rfl, _⟩ := m5.row_shape (by decide) (n + 1) (by rw [fm_len idt_len, List.length_replicate])
    simp only [wsu, go_sem, Nat.reduceBEq, Nat.reduceAdd, Nat.reduceLeDiff]
    exact Again.intro (n + 1, .slice a6 (n + 1) c6) (by first | omega | (simp only; omega)) ⟨hb, m5⟩ (by repeat (first | exact wkF_e | refine wkF_c rfl ?_)) (wkB_c rfl (wkB_c rfl (wkB_c rfl wkB_e))) rfl
  have hb : n = roomN (liveN t.slots) := by simp at hb; omega
  subst hb
  have ef : t.fresh.heads.length = roomN (liveN t.slots) := by
    show (List.replicate (roomN (liveN t.slots)) (-1 : Int)).length = _
    rw [List.length_replicate]
  refine aloop (ι := Nat × List Dt × (Option Addr × Nat) × (Option Addr × Nat)) (fun x => [(7, .val (.int .i64 (x.1 : Nat))), (2, .box 2 0), (5, .box 5 0), (4, .box 4 0)])
    (fun x => [(2, [.bool t.hashed, .slice a1 t.heads.length c1, .slice a2 t.slots.length c2, .int .i64 t.next, .int .i64 t.count]), (5, [.bool (t.fresh.pushAll (t.slots.take x.1)).hashed, .slice x.2.2.1.1 (t.fresh.pushAll (t.slots.take x.1)).heads.length x.2.2.1.2, .slice x.2.2.2.1 (t.fresh.pushAll (t.slots.take x.1)).slots.length x.2.2.2.2, .int .i64 (t.fresh.pushAll (t.slots.take x.1)).next, .int .i64 (t.fresh.pushAll (t.slots.take x.1)).count]), (4, [.bool false, .slice none 0 0, .slice none 0 0, .int .i64 0, .int .i64 0])])
    (fun x h' => x.1 ≤ t.slots.length ∧ x.2.1.length = x.1 * 10 ∧ My h0 h' ((.row 1 ((t.fresh.pushAll (t.slots.take x.1)).heads.flatMap idt), .slice x.2.2.1.1 (t.fresh.pushAll (t.slots.take x.1)).heads.length x.2.2.1.2) :: (.row 10 ((t.fresh.pushAll (t.slots.take x.1)).slots.flatMap Sl.dt), .slice x.2.2.2.1 (t.fresh.pushAll (t.slots.take x.1)).slots.length x.2.2.2.2) :: (.row 10 (x.2.1 ++ (t.slots.drop x.1).flatMap Sl.dt), .slice a2 t.slots.length c2) :: (.row 1 (t.heads.flatMap idt), .slice a1 t.heads.length c1) :: R)) (fun x => t.slots.length - x.1) (0, [], (a3, c3), (none, 0))
    ⟨Nat.zero_le _, rfl, by
      show My h0 h1 ((.row 1 (t.fresh.heads.flatMap idt), .slice a3 t.fresh.heads.length c3) :: _)
      rw [ef]
      exact ((m1.nilrow (a := none)).swap.perm ((List.Perm.swap _ _ _).cons _ |>.cons _))⟩ (by repeat (first | exact wkF_e | refine wkF_c rfl ?_)) (by
      show wkB _ [(2, _), (5, [.bool true, .slice a3 t.fresh.heads.length c3, .slice none 0 0, .int .i64 t.next, .int .i64 0]), (4, _)]
      rw [ef]
      exact wkB_c rfl (wkB_c rfl (wkB_c rfl wkB_e))) rfl ?_
  rintro ⟨i, A, ⟨a5, c5⟩, ⟨a6, c6⟩⟩ h6 ⟨hi, hA, m6⟩
  have hi : i ≤ t.slots.length := hi
  have hA : A.length = i * 10 := hA
  have m6 : My h0 h6 ((.row 1 ((t.fresh.pushAll (t.slots.take i)).heads.flatMap idt), .slice a5 (t.fresh.pushAll (t.slots.take i)).heads.length c5) :: (.row 10 ((t.fresh.pushAll (t.slots.take i)).slots.flatMap Sl.dt), .slice a6 (t.fresh.pushAll (t.slots.take i)).slots.length c6) :: (.row 10 (A ++ (t.slots.drop i).flatMap Sl.dt), .slice a2 t.slots.length c2) :: (.row 1 (t.heads.flatMap idt), .slice a1 t.heads.length c1) :: R) := m6
  have way := Tb.onWay.all ch hl i hi
  simp only [go_sem, Nat.reduceBEq]
  refine Br.intro (fun hb => ?_) (fun hb => ?_) <;> (try simp only [hb, go_sem, Nat.reduceBEq, Nat.reduceAdd, Nat.reduceLeDiff])
  · have hb : i < t.slots.length := by simpa using hb
    obtain ⟨e, he, _⟩ := get_lt hb
    have wsu := wrap_succ (i := i) (by omega)
    have hke := ch.keys i e he
    have hpa := Tb.pushAll_snoc (o := t.fresh) he
    rw [drop_cons he, List.flatMap_cons] at m6
    obtain ⟨ae, ne, m7⟩ := slot_open m6.third
    obtain ⟨_, _, es, _, _, hat⟩ := m7.swap.row_shape (by decide) t.slots.length (by rw [List.length_append, List.length_append, srw_len, hA, fm_len Sl.dt_len, List.length_drop]; omega)
    cases es
    obtain ⟨b2, rfl⟩ := hat (by omega)
    simp only [ix_nat hb, go_sem, Nat.reduceBEq, Nat.reduceAdd]
    refine hsem_srwL tyS4 m7.swap (by omega) (by omega) ?_
    cases hv : e.live with
    | true =>
      rw [hv, if_pos rfl] at hpa
      have hbs : (((t.fresh.pushAll (t.slots.take i)).push e.key e.val).bump e.key) = t.fresh.pushAll (t.slots.take (i + 1)) := by
        rw [Tb.bump_same (by show e.key.text = true ∨ e.key.num < (t.fresh.pushAll (t.slots.take i)).next; rw [way.next]; exact hke.2), ← hpa]
      simp only [go_sem, Nat.reduceBEq]
      refine regionD_intro (lb := [34, 36, 42]) (by kernel_rfl) ?_
      simp only [ix_nat hb, go_sem, Nat.reduceBEq, Nat.reduceAdd, Nat.reduceLeDiff]
      refine hsem_srwK tyS57 m7.swap (by omega) (by omega) ?_
      simp only [ix_nat hb, go_sem, Nat.reduceBEq, Nat.reduceAdd]
      refine hsem_srwV tyS49 m7.swap (by omega) (by omega) ?_
      simp only [go_sem, Nat.reduceBEq]
      refine (sPush (t.fresh.pushAll (t.slots.take i)) way.ch e.key (by have := hks e (List.mem_of_getElem? he); omega) hke.1 e.val _ _ _ _ _ _ h0 _ _ m7.fourth.fourth.third).mono ?_
      rintro _ h8 ⟨a7, c7, a8, c8, rfl, m8⟩
      rw [hbs] at m8 ⊢
      simp only [wsu, go_sem, Nat.reduceBEq, Nat.reduceAdd, Nat.reduceLeDiff]
      refine Again.intro (i + 1, A ++ srw e (.slice ae e.val.items.length ne), (a7, c7), (a8, c8)) (by first | omega | (simp only; omega)) ⟨hb, ?_, ?_⟩ (by repeat (first | exact wkF_e | refine wkF_c rfl ?_)) (wkB_c rfl (wkB_c rfl (wkB_c rfl wkB_e))) rfl
      · simp only [List.length_append, srw_len, hA]
        omega
      · simp only [List.append_assoc]
        exact m8
    | false =>
      rw [hv, if_neg (by simp)] at hpa
      simp only [wsu, go_sem, Nat.reduceBEq]
      refine Again.intro (i + 1, A ++ srw e (.slice ae e.val.items.length ne), (a5, c5), (a6, c6)) (by first | omega | (simp only; omega)) ⟨hb, ?_, ?_⟩ (by repeat (first | exact wkF_e | refine wkF_c rfl ?_)) (by simp only [hpa]; exact wkB_c rfl (wkB_c rfl (wkB_c rfl wkB_e))) rfl
      · simp only [List.length_append, srw_len, hA]
        omega
      · simp only [List.append_assoc]
        rw [hpa]
        exact m7.drop.third.third
  · have hb : i = t.slots.length := by simp at hb; omega
    subst hb
    rw [List.take_length] at m6
    simp only [List.take_length, go_sem]
    try simp only [go_sem, Nat.reduceBEq, Nat.reduceAdd, Nat.reduceLeDiff, Nat.reduceEqDiff, Int.reduceEq, not_false_eq_true, Int.reduceToNat]
    exact ⟨a5, c5, a6, c6, rfl, m6.third.drop.third.drop⟩
theorem keyOk_size {k : Ky} (h : keyOk k = true) : k.str.size ≤ 400 := by
  unfold keyOk at h
  cases ht : k.text with
  | true => rw [ht] at h; simp at h; omega
  | false => rw [ht] at h; simp at h; rw [h.1]; exact Nat.zero_le _
theorem ch_ks {t : Tb} (ch : t.ch) : ∀ e ∈ t.slots, e.key.str.size ≤ 1152921504606846976 := fun e he => by
  obtain ⟨i, hi, rfl⟩ := List.mem_iff_getElem.1 he
  have := keyOk_size (ch.keys i _ (List.getElem?_eq_getElem hi)).1
  omega
theorem ownT_set {h0 h' : Hp} {t : Tb} {i : Nat} {s : Sl} {x : V} {R : Bag} {a1 a2 : Option Addr} {c1 c2 : Nat} (hs : t.slots[i]? = some s) (m : My h0 h' ((.row 1 (t.heads.flatMap idt), .slice a1 t.heads.length c1) :: (.row 10 ((t.slots.take i ++ ⟨s.key, x, s.live, s.link⟩ :: t.slots.drop (i + 1)).flatMap Sl.dt), .slice a2 t.slots.length c2) :: R)) :
    OwnT h0 (t.setVal i x) R (.agg #[.bool t.hashed, .slice a1 t.heads.length c1, .slice a2 t.slots.length c2, .int .i64 t.next, .int .i64 t.count]) h' := by
  rw [Tb.setVal_eq hs]
  refine ⟨a1, c1, a2, c2, ?_, ?_⟩
  · show _ = Value.agg #[.bool t.hashed, .slice a1 t.heads.length c1, .slice a2 (t.slots.take i ++ ⟨s.key, x, s.live, s.link⟩ :: t.slots.drop (i + 1)).length c2, .int .i64 t.next, .int .i64 t.count]
    rw [set_len hs]
  · show My h0 h' ((.row 1 (t.heads.flatMap idt), .slice a1 t.heads.length c1) :: (.row 10 _, .slice a2 (t.slots.take i ++ ⟨s.key, x, s.live, s.link⟩ :: t.slots.drop (i + 1)).length c2) :: R)
    rw [set_len hs]
    exact m
theorem put_some {t : Tb} {k : Ky} {x : V} {i : Nat} (h : t.find k = some i) : t.put k x = t.setVal i x := by unfold Tb.put; rw [h]
theorem put_none {t : Tb} {k : Ky} {x : V} (h : t.find k = none) : t.put k x = (((t.hashIf k).growIf).push k x).bump k := by unfold Tb.put; rw [h]
theorem hashIf_yes {t : Tb} {k : Ky} (h : t.hashed = false) (h2 : ¬ k = ⟨false, (t.slots.length : Nat), ⟨#[]⟩⟩ ∨ t.slots.length = 1024) : t.hashIf k = t.build := if_pos ⟨h, h2⟩
theorem hashIf_no {t : Tb} {k : Ky} (h : t.hashed = true ∨ (k = ⟨false, (t.slots.length : Nat), ⟨#[]⟩⟩ ∧ ¬ t.slots.length = 1024)) : t.hashIf k = t := by
  refine if_neg fun q => ?_
  rcases h with h | h
  · rw [h] at q; exact absurd q.1 (by simp)
  · exact q.2.elim (fun n => n h.1) h.2
theorem growIf_yes {t : Tb} (h : t.hashed = true) (h2 : t.slots.length = t.heads.length) : t.growIf = t.build := if_pos ⟨h, h2⟩
theorem growIf_no {t : Tb} (h : ¬ (t.hashed = true ∧ t.slots.length = t.heads.length)) : t.growIf = t := if_neg h
theorem build_grow {t : Tb} (ch : t.ch) (hl : liveN t.slots < 1024) : t.build.growIf = t.build := by
  have w := ch.build hl
  have hr := roomN_spec hl
  have h2 := w.len
  rw [List.take_length] at h2
  have h3 := w.size
  exact growIf_no fun q => by omega
theorem build_hashed {t : Tb} (ch : t.ch) (hl : liveN t.slots < 1024) : t.build.hashed = true := (ch.build hl).hashed
theorem build_ne {t : Tb} (ch : t.ch) (hl : liveN t.slots < 1024) : ¬ t.build.slots.length = t.build.heads.length := by
  have w := ch.build hl
  have hr := roomN_spec hl
  have h2 := w.len
  rw [List.take_length] at h2
  have h3 := w.size
  omega
theorem dec_len {a b : Nat} : decide (((a : Nat) : Int) = ((b : Nat) : Int)) = decide (a = b) := decide_eq_decide.2 (by omega)
/-- a table of the walk's own, and a Bool -/
def OwnT2 (h0 : Hp) (t : Tb) (ok : Bool) (R : Bag) (u : Value) (h' : Hp) : Prop := ∃ w, u = .tuple #[w, .bool ok] ∧ OwnT h0 t R w h'
set_option maxHeartbeats 1600000 in
theorem sSet (t : Tb) (ch : t.ch) (k : Ky) (ko : keyOk k = true) (x : V) (ax a1 a2 : Option Addr) (cx c1 c2 : Nat) (h0 h : Hp) (R : Bag) (m : My h0 h ((.row 8 (x.items.flatMap edt), .slice ax x.items.length cx) :: (.row 1 (t.heads.flatMap idt), .slice a1 t.heads.length c1) :: (.row 10 (t.slots.flatMap Sl.dt), .slice a2 t.slots.length c2) :: R)) :
    ACalls Tryz.prog 64 #[.agg #[.bool t.hashed, .slice a1 t.heads.length c1, .slice a2 t.slots.length c2, .int .i64 t.next, .int .i64 t.count], .agg #[.bool k.text, .int .i64 k.num, .string k.str], .agg #[.int .i64 x.kind, .int .i64 x.num, .string x.str, .int .i64 x.next, .slice ax x.items.length cx]] h (OwnT2 h0 (t.set k x) (t.roomy k) R) := by
  have hls := ch.len
  have hk : k.str.size ≤ 1152921504606846976 := by have := keyOk_size ko; omega
  (refine enter Tryz.func64 rfl rfl (by kernel_rfl) [] ?_; simp only [go_sem, Nat.reduceBEq, Nat.reduceAdd, Nat.reduceLeDiff])
  (refine (sFind7 t k ch hk _ _ _ m.swap.rd m.third.rd).mono ?_; rintro _ _ ⟨rfl, rfl⟩; simp only [go_sem, Nat.reduceBEq])
  cases hf : t.find k with
  | some i =>
    obtain ⟨s, hs, _⟩ := Tb.find_live hf
    have hlt := (List.getElem?_eq_some_iff.1 hs).1
    rw [set_yes (roomy_some hf), roomy_some hf, put_some hf]
    simp only [ixI_some, go_sem]
    refine Br.intro (fun hz => ?_) (fun hz => ?_) <;> (try simp only [hz, go_sem, Nat.reduceBEq, Nat.reduceAdd, Nat.reduceLeDiff])
    case refine_2 => exact absurd (of_decide_eq_false hz) (by omega)
    obtain ⟨_, _, e5, _, _, hat⟩ := m.third.row_shape (by decide) t.slots.length (fm_len Sl.dt_len _)
    cases e5
    obtain ⟨b2, rfl⟩ := hat (by omega)
    simp only [ix_nat hlt, go_sem, Nat.reduceBEq, Nat.reduceAdd]
    obtain ⟨c6, hd6, hc6⟩ := hold_sval (b := b2) (cap := c2) hs
    have m3 : My h0 h ((.row 8 (x.items.flatMap edt), .slice ax x.items.length cx) :: (c6 s.val.dt, .slice (some ⟨b2, 0, none⟩) t.slots.length c2) :: (.row 1 (t.heads.flatMap idt), .slice a1 t.heads.length c1) :: R) := by
      rw [hc6, slot_self hs]
      exact m.third.swap
    refine var_store hd6 (w := x) (V.dt_len _) m3 (by omega) fun h3 m4 => ?_
    rw [hc6] at m4
    simp only [go_sem, Nat.reduceBEq, Nat.reduceAdd, Nat.reduceLeDiff]
    exact ⟨_, rfl, ownT_set hs m4.swap⟩
  | none =>
  have hcn := ch.cnt
  simp only [ixI_none, go_sem]
  refine Br.intro (fun hz => ?_) (fun hz => ?_) <;> (try simp only [hz, go_sem, Nat.reduceBEq, Nat.reduceAdd, Nat.reduceLeDiff])
  case refine_1 => exact absurd (of_decide_eq_true hz) (by decide)
  by_cases hlv : liveN t.slots < 1024
  case neg =>
    have hr : t.roomy k = false := by rw [roomy_none hf]; exact decide_eq_false hlv
    rw [set_no hr, hr]
    simp only [decide_eq_true (show (1024 : Int) ≤ t.count by omega), go_sem, Nat.reduceBEq, Nat.reduceAdd, Nat.reduceLeDiff]
    exact ⟨_, rfl, _, _, _, _, rfl, m.drop⟩
  have hr : t.roomy k = true := by rw [roomy_none hf]; exact decide_eq_true hlv
  have hb := ch.build hlv
  rw [set_yes hr, hr, put_none hf]
  simp only [decide_eq_false (show ¬ (1024 : Int) ≤ t.count by omega), go_sem, Nat.reduceBEq]
  by_cases ht : t.hashed = true
  · rw [hashIf_no (.inl ht)]
    have SR := sRoom t ch hlv
    simp only [ht] at SR
    have SB := sBuild t ch hlv (ch_ks ch)
    simp only [ht] at SB
    have SP := sPush t ch k hk ko x
    simp only [ht] at SP
    simp only [ht, dec_len, go_sem, Nat.reduceBEq]
    by_cases hg : t.slots.length = t.heads.length
    · rw [growIf_yes ht hg]
      simp only [decide_eq_true hg, go_sem]
      try simp only [go_sem, Nat.reduceBEq, Nat.reduceAdd, Nat.reduceLeDiff, Nat.reduceEqDiff, Int.reduceEq, not_false_eq_true, Int.reduceToNat]
      refine regionD_intro (lb := [57, 58]) (by kernel_rfl) ?_
      simp only [go_sem, Nat.reduceBEq, Nat.reduceAdd, Nat.reduceLeDiff]
      (refine (SR _ _ _).mono ?_; rintro _ _ ⟨rfl, rfl⟩; simp only [go_sem, Nat.reduceBEq])
      refine (SB _ _ _ _ h0 _ _ m.third.third).mono ?_
      rintro _ h5 ⟨a5, c5, a6, c6, rfl, m5⟩
      have m7 := m5.third
      simp only [go_sem, Nat.reduceBEq, Nat.reduceAdd, Nat.reduceLeDiff]
      try simp only [go_sem, Nat.reduceBEq, Nat.reduceAdd, Nat.reduceLeDiff, Nat.reduceEqDiff, Int.reduceEq, not_false_eq_true, Int.reduceToNat]
      refine ((sPush t.build hb.ch k hk ko x) _ _ _ _ _ _ h0 _ _ m7).mono ?_
      rintro _ h8 ⟨a7, c7, a8, c8, rfl, m8⟩
      simp only [go_sem, Nat.reduceBEq, Nat.reduceAdd, Nat.reduceLeDiff]
      exact ⟨_, rfl, a7, c7, a8, c8, rfl, m8⟩
    · rw [growIf_no fun q => hg q.2]
      simp only [decide_eq_false hg, go_sem, Nat.reduceBEq, Nat.reduceAdd, Nat.reduceLeDiff]
      try simp only [go_sem, Nat.reduceBEq, Nat.reduceAdd, Nat.reduceLeDiff, Nat.reduceEqDiff, Int.reduceEq, not_false_eq_true, Int.reduceToNat]
      refine (SP _ _ _ _ _ _ h0 _ _ m).mono ?_
      rintro _ h8 ⟨a7, c7, a8, c8, rfl, m8⟩
      simp only [go_sem, Nat.reduceBEq, Nat.reduceAdd, Nat.reduceLeDiff]
      exact ⟨_, rfl, a7, c7, a8, c8, rfl, m8⟩
  · have ht : t.hashed = false := by simpa using ht
    have SR := sRoom t ch hlv
    simp only [ht] at SR
    have SB := sBuild t ch hlv (ch_ks ch)
    simp only [ht] at SB
    have SP := sPush t ch k hk ko x
    simp only [ht] at SP
    have SPB := sPush t.build hb.ch k hk ko x
    simp only [build_hashed ch hlv] at SPB
    have kd : decide (k.text = false ∧ k.num = ((t.slots.length : Nat) : Int) ∧ k.str = ⟨#[]⟩) = decide (k = ⟨false, (t.slots.length : Nat), ⟨#[]⟩⟩) := key_dec k ⟨false, (t.slots.length : Nat), ⟨#[]⟩⟩
    simp only [ht, kd, keyT57, go_sem, Nat.reduceBEq, Nat.reduceAdd, Nat.reduceLeDiff]
    by_cases hq : k = ⟨false, (t.slots.length : Nat), ⟨#[]⟩⟩
    · simp only [decide_eq_true hq, Bool.not_true, go_sem, Nat.reduceBEq]
      by_cases hn : t.slots.length = 1024
      · rw [hashIf_yes ht (.inr hn), build_grow ch hlv]
        simp only [decide_eq_true (show ((t.slots.length : Nat) : Int) = 1024 by omega), go_sem]
        try simp only [go_sem, Nat.reduceBEq, Nat.reduceAdd, Nat.reduceLeDiff, Nat.reduceEqDiff, Int.reduceEq, not_false_eq_true, Int.reduceToNat]
        refine regionD_intro (lb := [42, 43]) (by kernel_rfl) ?_
        simp only [go_sem, Nat.reduceBEq, Nat.reduceAdd, Nat.reduceLeDiff]
        (refine (SR _ _ _).mono ?_; rintro _ _ ⟨rfl, rfl⟩; simp only [go_sem, Nat.reduceBEq])
        refine (SB _ _ _ _ h0 _ _ m.third.third).mono ?_
        rintro _ h5 ⟨a5, c5, a6, c6, rfl, m5⟩
        have m7 := m5.third
        simp only [go_sem, Nat.reduceBEq, Nat.reduceAdd, Nat.reduceLeDiff]
        simp only [build_hashed ch hlv, dec_len, decide_eq_false (build_ne ch hlv), go_sem, Nat.reduceBEq, Nat.reduceAdd, Nat.reduceLeDiff]
        try simp only [go_sem, Nat.reduceBEq, Nat.reduceAdd, Nat.reduceLeDiff, Nat.reduceEqDiff, Int.reduceEq, not_false_eq_true, Int.reduceToNat]
        refine (SPB _ _ _ _ _ _ h0 _ _ m7).mono ?_
        rintro _ h8 ⟨a7, c7, a8, c8, rfl, m8⟩
        simp only [go_sem, Nat.reduceBEq, Nat.reduceAdd, Nat.reduceLeDiff]
        exact ⟨_, rfl, a7, c7, a8, c8, rfl, m8⟩
      · rw [hashIf_no (.inr ⟨hq, hn⟩), growIf_no fun q => by rw [ht] at q; exact absurd q.1 (by simp)]
        simp only [decide_eq_false (show ¬ ((t.slots.length : Nat) : Int) = 1024 by omega), go_sem, Nat.reduceBEq, Nat.reduceAdd, Nat.reduceLeDiff]
        try simp only [go_sem, Nat.reduceBEq, Nat.reduceAdd, Nat.reduceLeDiff, Nat.reduceEqDiff, Int.reduceEq, not_false_eq_true, Int.reduceToNat]
        refine (SP _ _ _ _ _ _ h0 _ _ m).mono ?_
        rintro _ h8 ⟨a7, c7, a8, c8, rfl, m8⟩
        simp only [go_sem, Nat.reduceBEq, Nat.reduceAdd, Nat.reduceLeDiff]
        exact ⟨_, rfl, a7, c7, a8, c8, rfl, m8⟩
    · rw [hashIf_yes ht (.inl hq), build_grow ch hlv]
      simp only [decide_eq_false hq, Bool.not_false, go_sem, Nat.reduceBEq]
      try simp only [go_sem, Nat.reduceBEq, Nat.reduceAdd, Nat.reduceLeDiff, Nat.reduceEqDiff, Int.reduceEq, not_false_eq_true, Int.reduceToNat]
      refine regionD_intro (lb := [42, 43]) (by kernel_rfl) ?_
      simp only [go_sem, Nat.reduceBEq, Nat.reduceAdd, Nat.reduceLeDiff]
      (refine (SR _ _ _).mono ?_; rintro _ _ ⟨rfl, rfl⟩; simp only [go_sem, Nat.reduceBEq])
      refine (SB _ _ _ _ h0 _ _ m.third.third).mono ?_
      rintro _ h5 ⟨a5, c5, a6, c6, rfl, m5⟩
      have m7 := m5.third
      simp only [go_sem, Nat.reduceBEq, Nat.reduceAdd, Nat.reduceLeDiff]
      simp only [build_hashed ch hlv, dec_len, decide_eq_false (build_ne ch hlv), go_sem, Nat.reduceBEq, Nat.reduceAdd, Nat.reduceLeDiff]
      try simp only [go_sem, Nat.reduceBEq, Nat.reduceAdd, Nat.reduceLeDiff, Nat.reduceEqDiff, Int.reduceEq, not_false_eq_true, Int.reduceToNat]
      refine (SPB _ _ _ _ _ _ h0 _ _ m7).mono ?_
      rintro _ h8 ⟨a7, c7, a8, c8, rfl, m8⟩
      simp only [go_sem, Nat.reduceBEq, Nat.reduceAdd, Nat.reduceLeDiff]
      exact ⟨_, rfl, a7, c7, a8, c8, rfl, m8⟩
theorem kill_at {ss : List Sl} {i : Nat} {s : Sl} (u : Sl) (hs : ss[i]? = some s) : (ss.take i ++ u :: ss.drop (i + 1))[i]? = some u ∧ (ss.take i ++ u :: ss.drop (i + 1)).take i = ss.take i ∧ (ss.take i ++ u :: ss.drop (i + 1)).drop (i + 1) = ss.drop (i + 1) := by
  have hi := (List.getElem?_eq_some_iff.1 hs).1
  have hl : (ss.take i).length = i := by rw [List.length_take]; omega
  refine ⟨?_, ?_, ?_⟩
  · rw [List.getElem?_append_right (by omega), hl, Nat.sub_self]
    rfl
  · exact List.take_left' hl
  · rw [show i + 1 = i + 1 from rfl, ← List.drop_drop, List.drop_left' hl]
    rfl
theorem ownT_kill {h0 h' : Hp} {t : Tb} {i : Nat} {s : Sl} {R : Bag} {a1 a2 : Option Addr} {c1 c2 : Nat} (hs : t.slots[i]? = some s) (m : My h0 h' ((.row 1 (t.heads.flatMap idt), .slice a1 t.heads.length c1) :: (.row 10 ((t.slots.take i ++ ⟨s.key, V.zero, false, s.link⟩ :: t.slots.drop (i + 1)).flatMap Sl.dt), .slice a2 t.slots.length c2) :: R)) :
    OwnT h0 (t.kill i) R (.agg #[.bool t.hashed, .slice a1 t.heads.length c1, .slice a2 t.slots.length c2, .int .i64 t.next, .int .i64 (t.count - 1)]) h' := by
  rw [Tb.kill_eq hs]
  refine ⟨a1, c1, a2, c2, ?_, ?_⟩
  · show _ = Value.agg #[.bool t.hashed, .slice a1 t.heads.length c1, .slice a2 (t.slots.take i ++ ⟨s.key, V.zero, false, s.link⟩ :: t.slots.drop (i + 1)).length c2, .int .i64 t.next, .int .i64 (t.count - 1)]
    rw [set_len hs]
  · show My h0 h' ((.row 1 (t.heads.flatMap idt), .slice a1 t.heads.length c1) :: (.row 10 _, .slice a2 (t.slots.take i ++ ⟨s.key, V.zero, false, s.link⟩ :: t.slots.drop (i + 1)).length c2) :: R)
    rw [set_len hs]
    exact m
theorem pop_wrap {t : Tb} (c : t.ch) : IntKind.i64.wrap (t.count - 1) = t.count - 1 := by
  have h1 := c.cnt
  have h2 := c.len
  have h3 := liveN_le t.slots
  exact IntWalk.i64_in _ (by omega)
theorem drop_some {t : Tb} {k : Ky} {i : Nat} (h : t.find k = some i) : t.drop k = t.kill i := by unfold Tb.drop; rw [h]
theorem drop_none {t : Tb} {k : Ky} (h : t.find k = none) : t.drop k = t := by unfold Tb.drop; rw [h]
theorem sTabDrop (t : Tb) (ch : t.ch) (k : Ky) (hk : k.str.size ≤ 1152921504606846976) (a1 a2 : Option Addr) (c1 c2 : Nat) (h0 h : Hp) (R : Bag) (m : My h0 h ((.row 1 (t.heads.flatMap idt), .slice a1 t.heads.length c1) :: (.row 10 (t.slots.flatMap Sl.dt), .slice a2 t.slots.length c2) :: R)) :
    ACalls Tryz.prog 73 #[.agg #[.bool t.hashed, .slice a1 t.heads.length c1, .slice a2 t.slots.length c2, .int .i64 t.next, .int .i64 t.count], .agg #[.bool k.text, .int .i64 k.num, .string k.str]] h (OwnT h0 (t.drop k) R) := by
  (refine enter Tryz.func73 rfl rfl (by kernel_rfl) [] ?_; simp only [go_sem, Nat.reduceBEq, Nat.reduceAdd, Nat.reduceLeDiff])
  (refine (sFind7 t k ch hk _ _ _ m.rd m.swap.rd).mono ?_; rintro _ _ ⟨rfl, rfl⟩; simp only [go_sem, Nat.reduceBEq])
  cases hf : t.find k with
  | some i =>
    obtain ⟨s, hs, _⟩ := Tb.find_live hf
    have hlt := (List.getElem?_eq_some_iff.1 hs).1
    rw [drop_some hf]
    simp only [ixI_some, go_sem]
    refine Br.intro (fun hz => ?_) (fun hz => ?_) <;> (try simp only [hz, go_sem, Nat.reduceBEq, Nat.reduceAdd, Nat.reduceLeDiff])
    case refine_2 => exact absurd (of_decide_eq_false hz) (by omega)
    obtain ⟨_, _, e5, _, _, hat⟩ := m.swap.row_shape (by decide) t.slots.length (fm_len Sl.dt_len _)
    cases e5
    obtain ⟨b2, rfl⟩ := hat (by omega)
    simp only [ix_nat hlt, go_sem, Nat.reduceBEq, Nat.reduceAdd]
    obtain ⟨c5, hd5, hc5⟩ := hold_slive (b := b2) (cap := c2) hs
    refine hd5.put1 (h0 := h0) (d := .raw (.bool s.live)) tyS4 rfl rfl (by rw [hc5, slot_self hs]; exact m.swap) (by omega) fun h3 m3 => ?_
    rw [hc5] at m3
    obtain ⟨q1, q2, q3⟩ := kill_at (⟨s.key, s.val, false, s.link⟩ : Sl) hs
    have q4 := set_len (u := (⟨s.key, s.val, false, s.link⟩ : Sl)) hs
    generalize hg : t.slots.take i ++ (⟨s.key, s.val, false, s.link⟩ : Sl) :: t.slots.drop (i + 1) = ss at *
    simp only [ix_nat hlt, go_sem, Nat.reduceBEq, Nat.reduceAdd]
    obtain ⟨c6, hd6, hc6⟩ := hold_sval (b := b2) (cap := c2) q1
    rw [q4] at hd6
    have m4 : My h0 h3 ((.row 8 (V.zero.items.flatMap edt), .slice none 0 0) :: (c6 s.val.dt, .slice (some ⟨b2, 0, none⟩) t.slots.length c2) :: (.row 1 (t.heads.flatMap idt), .slice a1 t.heads.length c1) :: R) := by
      rw [hc6, slot_self (e := ⟨s.key, s.val, false, s.link⟩) q1]
      exact m3.nilrow
    refine var_store hd6 (w := V.zero) (V.dt_len _) m4 (by omega) fun h5 m5 => ?_
    rw [hc6, q2, q3] at m5
    simp only [pop_wrap ch, go_sem, Nat.reduceBEq, Nat.reduceAdd, Nat.reduceLeDiff]
    exact ownT_kill hs m5.swap
  | none =>
    rw [drop_none hf]
    simp only [ixI_none, go_sem]
    refine Br.intro (fun hz => ?_) (fun hz => ?_) <;> (try simp only [hz, go_sem, Nat.reduceBEq, Nat.reduceAdd, Nat.reduceLeDiff])
    case refine_1 => exact absurd (of_decide_eq_true hz) (by decide)
    exact ⟨_, _, _, _, rfl, m⟩
end Go.Proofs.YtccjkhnefiikaaaGreatDoor
namespace Go.Proofs.YtccjkhnefiikaaaGreatDoor
set_option maxRecDepth 8000
open Go Go.Sx
theorem roomy_of {t : Tb} {k : Ky} (hl : t.find k = none → liveN t.slots < 1024) : t.roomy k = true := by
  cases hf : t.find k with
  | some i => exact roomy_some hf
  | none => rw [roomy_none hf]; exact decide_eq_true (hl hf)
end Go.Proofs.YtccjkhnefiikaaaGreatDoor
namespace Go.Proofs.YtccjkhnefiikaaaGreatDoor
set_option maxRecDepth 8000
open Go Go.Sx
end Go.Proofs.YtccjkhnefiikaaaGreatDoor
namespace Go.Proofs.YtccjkhnefiikaaaGreatDoor
set_option maxRecDepth 8000
open Go Go.Sx
set_option maxHeartbeats 1600000 in
theorem sAlloc (l : List Bk) (t : Tb) (hl : l.length ≤ 1099511627776) (hc : ∀ b ∈ l, 0 ≤ b.count) (a1 a2 a : Option Addr) (n1 n2 n bp : Nat) (R : Bag) (h0 h : Hp) (m : My h0 h ((.row 1 (t.heads.flatMap idt), .slice a1 t.heads.length n1) :: (.row 10 (t.slots.flatMap Sl.dt), .slice a2 t.slots.length n2) :: HpB l a n bp R)) : ACalls Tryz.prog 65 #[.pointer (some ⟨bp, 0, none⟩), .agg #[.bool t.hashed, .slice a1 t.heads.length n1, .slice a2 t.slots.length n2, .int .i64 t.next, .int .i64 t.count]] h (HpR h0 (hnd (freeN l)) (allocH l t) bp R) := by
  have m : My h0 h ((.row 1 (t.heads.flatMap idt), .slice a1 t.heads.length n1) :: (.row 10 (t.slots.flatMap Sl.dt), .slice a2 t.slots.length n2) :: (.row 6 (l.flatMap Bk.dt), .slice a l.length n) :: (.ptr [] [.raw (.slice a l.length n)] [], .pointer (some ⟨bp, 0, none⟩)) :: R) := m
  obtain ⟨_, _, es, _, _, hat⟩ := m.third.row_shape (by decide) l.length (fm_len Bk.dt_len _)
  cases es
  (refine enter Tryz.func65 rfl rfl (by kernel_rfl) [] ?_; simp only [go_sem, Nat.reduceBEq])
  refine aloop (ι := Nat) (fun i => [(5, .val (.int .i64 (i : Nat))), (4, .box 4 0), (3, .box 3 0), (0, .val (.pointer (some ⟨bp, 0, none⟩)))])
    (fun _ => [(4, [.int .i64 0, .int .i64 0, .string ⟨#[]⟩, .int .i64 0, .slice none 0 0]), (3, [.bool t.hashed, .slice a1 t.heads.length n1, .slice a2 t.slots.length n2, .int .i64 t.next, .int .i64 t.count])])
    (fun i h' => i ≤ l.length ∧ h' = h ∧ ∀ (j : Nat) (b : Bk), j < i → l[j]? = some b → 0 < b.count) (fun i => l.length - i) 0
    ⟨Nat.zero_le _, rfl, fun j b hj => by omega⟩ (by repeat (first | exact wkF_e | refine wkF_c rfl ?_)) (wkB_c rfl (wkB_c rfl wkB_e)) rfl ?_
  rintro i hx ⟨hi, rfl, pr⟩
  have hi : i ≤ l.length := hi
  have pr : ∀ (j : Nat) (b : Bk), j < i → l[j]? = some b → 0 < b.count := pr
  try simp only [go_sem, Nat.reduceBEq]
  refine Hold.ld1 (i := 0) Hold.ptr tyS24 m.fourth rfl rfl ?_
  by_cases hq : i < l.length
  · have dq : decide (((i : Nat) : Int) < ((l.length : Nat) : Int)) = true := decide_eq_true (by omega)
    have dn : decide (((i : Nat) : Int) = ((l.length : Nat) : Int)) = false := decide_eq_false (by omega)
    obtain ⟨b, rfl⟩ := hat (by omega)
    obtain ⟨e, he, hm⟩ := get_lt hq
    have ebk : blk l i = e := by
      have := blk_at hq
      rw [he] at this
      exact (Option.some.inj this).symm
    have wsu := wrap_succ (i := i) (by omega)
    have hce := hc e hm
    simp only [dq, go_sem, Nat.reduceBEq]
    refine Hold.ld1 (i := 0) Hold.ptr tyS24 m.fourth rfl rfl ?_
    simp only [ix_nat hq, go_sem, Nat.reduceBEq]
    refine bcnt_ld hq tyS3 m.third (by omega) ?_
    rw [ebk]
    try simp only [go_sem, Nat.reduceBEq]
    refine Br.intro (fun hp => ?_) (fun hp => ?_) <;> (try simp only [hp, go_sem, Nat.reduceBEq])
    · have hp : 0 < e.count := by simpa using hp
      try simp only [wsu, go_sem]
      refine Again.intro (i + 1) (by first | omega | (simp only; omega)) ⟨hq, rfl, fun j b hj hb => ?_⟩ (by repeat (first | exact wkF_e | refine wkF_c rfl ?_)) (wkB_c rfl (wkB_c rfl wkB_e)) rfl
      by_cases hji : j = i
      · subst hji
        rw [he] at hb
        cases hb
        exact hp
      · exact pr j b (by omega) hb
    · have hp : ¬ 0 < e.count := by simpa using hp
      have hfr : freeN l = i := freeN_is pr hi fun b hb => by
        rw [he] at hb
        cases hb
        exact hp
      try simp only [go_sem, Nat.reduceBEq, Nat.reduceAdd, Nat.reduceLeDiff, Nat.reduceEqDiff, Int.reduceEq, not_false_eq_true, Int.reduceToNat]
      refine Hold.ld1 (i := 0) Hold.ptr tyS24 m.fourth rfl rfl ?_
      simp only [dn, go_sem, Nat.reduceBEq]
      have hqq := hq
      refine regionD_intro (lb := [48]) (by kernel_rfl) ?_
      simp only [go_sem, Nat.reduceBEq]
      refine Hold.ld1 (i := 0) Hold.ptr tyS24 m.fourth rfl rfl ?_
      obtain ⟨c, hd, hcu⟩ := hold_bk (l := l) (b := b) (cap := n) hqq
      have m2 : My h0 hx ((.row 1 (t.heads.flatMap idt), .slice a1 t.heads.length n1) :: (.row 10 (t.slots.flatMap Sl.dt), .slice a2 t.slots.length n2) :: (c (blk l i).dt, .slice (some ⟨b, 0, none⟩) (l).length n) :: (.ptr [] [.raw (.slice (some ⟨b, 0, none⟩) (l).length n)] [], .pointer (some ⟨bp, 0, none⟩)) :: R) := by
        rw [hcu, set_blk hqq]
        exact m
      try simp only [go_sem, Nat.reduceBEq, Nat.reduceAdd, Nat.reduceLeDiff]
      simp only [ix_nat hqq, go_sem, Nat.reduceBEq]
      refine bk_store hd (u := ⟨1, t⟩) tyS40 (Bk.dt_len _) m2 (by omega) fun h4 m4 => ?_
      rw [hcu] at m4
      try simp only [go_sem, Nat.reduceBEq, Nat.reduceAdd, Nat.reduceLeDiff]
      refine ⟨none, 0, some ⟨b, 0, none⟩, n, by rw [hfr]; rfl, ?_⟩
      rw [allocH_in (by rw [hfr]; exact hq), hfr]
      unfold HpB
      rw [List.length_set]
      exact m4.nilrow
  · have hq : i = l.length := by omega
    subst hq
    have hfr : freeN l = l.length := freeN_is pr hi fun b hb => by simp at hb
    have dq : decide (((l.length : Nat) : Int) < ((l.length : Nat) : Int)) = false := decide_eq_false (by omega)
    simp only [dq, go_sem, Nat.reduceBEq]
    refine Hold.ld1 (i := 0) Hold.ptr tyS24 m.fourth rfl rfl ?_
    have dn : decide (((l.length : Nat) : Int) = ((l.length : Nat) : Int)) = true := decide_eq_true rfl
    simp only [go_sem, Nat.reduceBEq]
    refine Hold.ld1 (i := 0) Hold.ptr tyS24 m.fourth rfl rfl ?_
    try simp only [go_sem, Nat.reduceBEq]
    refine hsem_my_lit (h0 := h0) (es := Bk.dt bk0) (parts := [(0, .agg #[.int .i64 0, .bool false, .slice none 0 0, .slice none 0 0, .int .i64 0, .int .i64 0])]) slT24 (by decide) (by decide) (by decide) rfl rfl (by simp [Value.cells]) (bag := (.row 1 (t.heads.flatMap idt), .slice a1 t.heads.length n1) :: (.row 10 (t.slots.flatMap Sl.dt), .slice a2 t.slots.length n2) :: HpB l a n bp R) ?_ rfl (Bk.dt_len _) fun l4 h4 m4 => ?_
    · simp only [flat, List.flatMap_cons, List.flatMap_nil, List.append_nil, cells_agg]
      exact bk_zip bk0 ((m.nilrow (z := 10)).nilrow (z := 1))
    have m4 : My h0 h4 ((.row 6 (Bk.dt bk0), l4) :: (.row 1 (t.heads.flatMap idt), .slice a1 t.heads.length n1) :: (.row 10 (t.slots.flatMap Sl.dt), .slice a2 t.slots.length n2) :: (.row 6 (l.flatMap Bk.dt), .slice a l.length n) :: (.ptr [] [.raw (.slice a l.length n)] [], .pointer (some ⟨bp, 0, none⟩)) :: R) := m4
    try simp only [go_sem, Nat.reduceBEq]
    refine hsem_my_append slT24 (by decide) rfl l.length 1 m4.fourth (fm_len Bk.dt_len _) (Bk.dt_len _) (by show (l.length + 1) * 80 ≤ _; omega) (by omega) fun l5 h5 m5 => ?_
    have m5 : My h0 h5 ((.row 6 (l.flatMap Bk.dt ++ Bk.dt bk0), l5) :: (.row 1 (t.heads.flatMap idt), .slice a1 t.heads.length n1) :: (.row 10 (t.slots.flatMap Sl.dt), .slice a2 t.slots.length n2) :: (.ptr [] [.raw (.slice a l.length n)] [], .pointer (some ⟨bp, 0, none⟩)) :: R) := m5
    rw [show l.flatMap Bk.dt ++ Bk.dt bk0 = (l ++ [bk0]).flatMap Bk.dt by rw [List.flatMap_append, List.flatMap_cons, List.flatMap_nil, List.append_nil]] at m5
    obtain ⟨a6, c6, rfl, _, _, hat6⟩ := m5.row_shape (by decide) (l ++ [bk0]).length (fm_len Bk.dt_len _)
    have hlb : (l ++ [bk0]).length = l.length + 1 := by rw [List.length_append, List.length_singleton]
    obtain ⟨b, rfl⟩ := hat6 (by omega)
    have hqq : l.length < (l ++ [bk0]).length := by omega
    try simp only [go_sem, Nat.reduceBEq]
    refine Hold.put1 Hold.ptr (d := .raw (.slice a l.length n)) tyS24 rfl rfl m5.fourth rfl fun h6 m6 => ?_
    have m6 := m6.swap.fourth.fourth
    try simp only [go_sem]
    refine regionD_intro (lb := [48]) (by kernel_rfl) ?_
    simp only [go_sem, Nat.reduceBEq]
    refine Hold.ld1 (i := 0) Hold.ptr tyS24 m6.fourth rfl rfl ?_
    obtain ⟨c, hd, hcu⟩ := hold_bk (l := (l ++ [bk0])) (b := b) (cap := c6) hqq
    have m2 : My h0 h6 ((.row 1 (t.heads.flatMap idt), .slice a1 t.heads.length n1) :: (.row 10 (t.slots.flatMap Sl.dt), .slice a2 t.slots.length n2) :: (c (blk (l ++ [bk0]) l.length).dt, .slice (some ⟨b, 0, none⟩) ((l ++ [bk0])).length c6) :: (.ptr [] [.raw (.slice (some ⟨b, 0, none⟩) ((l ++ [bk0])).length c6)] [], .pointer (some ⟨bp, 0, none⟩)) :: R) := by
      rw [hcu, set_blk hqq]
      exact m6
    try simp only [go_sem, Nat.reduceBEq, Nat.reduceAdd, Nat.reduceLeDiff]
    simp only [ix_nat hqq, go_sem, Nat.reduceBEq]
    refine bk_store hd (u := ⟨1, t⟩) tyS40 (Bk.dt_len _) m2 (by omega) fun h4 m4 => ?_
    rw [hcu] at m4
    try simp only [go_sem, Nat.reduceBEq, Nat.reduceAdd, Nat.reduceLeDiff]
    refine ⟨none, 0, some ⟨b, 0, none⟩, c6, by rw [hfr]; rfl, ?_⟩
    rw [app_set, hlb] at m4
    rw [allocH_out hfr]
    unfold HpB
    rw [List.length_append, List.length_singleton]
    exact m4.nilrow
def StoreS (v : V) : Prop := v.valid = true → v.bulk ≤ 1048576 → ∀ (l : List Bk), l.length + 2 * v.bulk ≤ 1099511627775 → (∀ b ∈ l, 0 ≤ b.count) → ∀ (av : Option Addr) (cv : Nat) (a : Option Addr) (n bp : Nat) (R : Bag) (h0 h : Hp), My h0 h ((.row 8 (v.items.flatMap edt), .slice av v.items.length cv) :: HpB l a n bp R) → ACalls Tryz.prog 37 #[.pointer (some ⟨bp, 0, none⟩), .agg #[.int .i64 v.kind, .int .i64 v.num, .string v.str, .int .i64 v.next, .slice av v.items.length cv]] h (HpR h0 (sto v l).2 (sto v l).1 bp R)
set_option maxHeartbeats 1600000 in
theorem sStore_s (v : V) (ih : ∀ e ∈ v.items, StoreS e.2) : StoreS v := by
  intro hv hbv l hl hc av cv a n bp R h0 h m
  have hvb := V.bulk_eq v
  have hlb := V.bulks_len v.items
  (refine enter Tryz.func37 rfl rfl (by kernel_rfl) [] ?_; simp only [go_sem, Nat.reduceBEq])
  by_cases h4 : v.kind = 4
  case neg =>
    rw [sto_other h4]
    simp only [decide_eq_false h4, Bool.not_false, go_sem, Nat.reduceBEq, Nat.reduceAdd, Nat.reduceLeDiff]
    exact ⟨_, _, a, n, rfl, m⟩
  obtain ⟨hlen, hits⟩ := valid_mem hv h4
  rw [sto_arr h4]
  simp only [decide_eq_true h4, Bool.not_true, go_sem, Nat.reduceBEq, Nat.reduceAdd, Nat.reduceLeDiff]
  try simp only [go_sem, Nat.reduceBEq, Nat.reduceAdd, Nat.reduceLeDiff, Nat.reduceEqDiff, Int.reduceEq, not_false_eq_true, Int.reduceToNat]
  refine aloop (ι := Nat × (Option Addr × Nat) × (Option Addr × Nat) × (Option Addr × Nat) × List Dt) (fun x => [(6, .val (.int .i64 (x.1 : Nat))), (5, .box 5 0), (4, .box 4 0), (3, .box 3 0), (0, .val (.pointer (some ⟨bp, 0, none⟩)))])
    (fun x => [(5, [.bool (stoE (v.items.take x.1) l tb0).2.hashed, .slice x.2.1.1 (stoE (v.items.take x.1) l tb0).2.heads.length x.2.1.2, .slice x.2.2.1.1 (stoE (v.items.take x.1) l tb0).2.slots.length x.2.2.1.2, .int .i64 (stoE (v.items.take x.1) l tb0).2.next, .int .i64 (stoE (v.items.take x.1) l tb0).2.count]), (4, [.int .i64 0, .int .i64 0, .string ⟨#[]⟩, .int .i64 0, .slice none 0 0]), (3, [.int .i64 v.kind, .int .i64 v.num, .string v.str, .int .i64 v.next, .slice av v.items.length cv])])
    (fun x h' => x.1 ≤ v.items.length ∧ x.2.2.2.2.length = x.1 * 8 ∧ My h0 h' ((.row 8 (x.2.2.2.2 ++ (v.items.drop x.1).flatMap edt), .slice av v.items.length cv) :: (.row 1 ((stoE (v.items.take x.1) l tb0).2.heads.flatMap idt), .slice x.2.1.1 (stoE (v.items.take x.1) l tb0).2.heads.length x.2.1.2) :: (.row 10 ((stoE (v.items.take x.1) l tb0).2.slots.flatMap Sl.dt), .slice x.2.2.1.1 (stoE (v.items.take x.1) l tb0).2.slots.length x.2.2.1.2) :: HpB (stoE (v.items.take x.1) l tb0).1 x.2.2.2.1.1 x.2.2.2.1.2 bp R)) (fun x => v.items.length - x.1) (0, (none, 0), (none, 0), (a, n), [])
    ⟨Nat.zero_le _, rfl, by simp only [List.take_zero, stoE_nil]; exact ((m.nilrow (z := 10)).nilrow (z := 1)).third⟩ (by repeat (first | exact wkF_e | refine wkF_c rfl ?_)) (by simp only [List.take_zero, stoE_nil]; exact (wkB_c rfl (wkB_c rfl (wkB_c rfl wkB_e)))) rfl ?_
  rintro ⟨i, ⟨a1, n1⟩, ⟨a2, n2⟩, ⟨a0, n0⟩, A⟩ h1 ⟨hi, hA, m1⟩
  have hi : i ≤ v.items.length := hi
  have hA : A.length = i * 8 := hA
  have m1 : My h0 h1 ((.row 8 (A ++ (v.items.drop i).flatMap edt), .slice av v.items.length cv) :: (.row 1 ((stoE (v.items.take i) l tb0).2.heads.flatMap idt), .slice a1 (stoE (v.items.take i) l tb0).2.heads.length n1) :: (.row 10 ((stoE (v.items.take i) l tb0).2.slots.flatMap Sl.dt), .slice a2 (stoE (v.items.take i) l tb0).2.slots.length n2) :: HpB (stoE (v.items.take i) l tb0).1 a0 n0 bp R) := m1
  obtain ⟨ch, hroom⟩ := stoE_at l (fun e he => (hits e he).1) hlen i
  have hbl := (stoE_bulk (v.items.take i) l tb0).2
  have hcl := stoE_cnt (v.items.take i) l tb0 hc
  try simp only [go_sem, Nat.reduceBEq]
  refine Br.intro (fun hq => ?_) (fun hq => ?_) <;> (try simp only [hq, go_sem, Nat.reduceBEq, Nat.reduceAdd, Nat.reduceLeDiff])
  · have hq : i < v.items.length := by simpa using hq
    obtain ⟨e, he, hm⟩ := get_lt hq
    have wsu := wrap_succ (i := i) (by omega)
    have hsn := stoE_snoc he l tb0
    have hbm := bulks_at he
    obtain ⟨hk1, hv1⟩ := hits e hm
    rw [drop_cons he, List.flatMap_cons] at m1
    obtain ⟨ae, ne, m2⟩ := entry_open m1
    have m2 := m2.swap
    obtain ⟨_, _, es, _, _, hat⟩ := m2.row_shape (by decide) v.items.length (by rw [List.length_append, List.length_append, erw_len, hA, fm_len edt_len, List.length_drop]; omega)
    cases es
    obtain ⟨b2, rfl⟩ := hat (by omega)
    obtain ⟨hx, mA, mB⟩ := m2.part
    refine regionD_still (lb := [20, 22, 29]) (pl := [26]) hx mB.ext (by kernel_rfl) ?_
    simp only [ix_nat hq, go_sem, Nat.reduceBEq, Nat.reduceAdd, Nat.reduceLeDiff]
    refine hsem_erwK tyS57 mA (by omega) (by omega) ?_
    simp only [ix_nat hq, go_sem, Nat.reduceBEq, Nat.reduceAdd]
    refine hsem_erwV tyS49 m2 (by omega) (by omega) ?_
    try simp only [go_sem, Nat.reduceBEq]
    refine (ih e hm hv1 (by omega) _ (by omega) hcl ae ne a0 n0 bp _ hx _ mB.fifth.fifth.third).mono ?_
    rintro _ h2 ⟨a6, c6, a7, n7, rfl, m3⟩
    try simp only [go_sem, Nat.reduceBEq]
    refine ⟨m3.ext, ?_⟩
    refine (sSet _ ch e.1 hk1 _ _ _ _ _ _ _ hx _ (HpB _ a7 n7 bp R) m3.fifth.fifth.third).mono ?_
    rintro _ h3 ⟨_, rfl, a8, c8, a9, c9, rfl, m4⟩
    rw [set_yes (roomy_of (fun _ => hroom hq))] at m4 ⊢
    have m5 := (mA.add m4).perm List.perm_append_comm
    try simp only [wsu, go_sem, Nat.reduceBEq, Nat.reduceAdd, Nat.reduceLeDiff]
    refine ⟨m4.ext, ?_⟩
    try simp only [wsu, go_sem, Nat.reduceBEq, Nat.reduceAdd, Nat.reduceLeDiff, Nat.reduceEqDiff, Int.reduceEq, not_false_eq_true, Int.reduceToNat]
    exact Again.intro (i + 1, (a8, c8), (a9, c9), (a7, n7), A ++ erw e (.slice ae e.2.items.length ne)) (by first | omega | (simp only; omega)) ⟨hq, by simp only [List.length_append, erw_len, hA]; omega, by simp only [hsn, List.append_assoc]; exact m5⟩ (by repeat (first | exact wkF_e | refine wkF_c rfl ?_)) (by simp only [hsn]; exact (wkB_c rfl (wkB_c rfl (wkB_c rfl wkB_e)))) rfl
  · have hq : i = v.items.length := by simp at hq; omega
    subst hq
    rw [List.take_length] at m1 ch hbl hcl
    simp only [List.take_length, go_sem]
    try simp only [go_sem, Nat.reduceBEq, Nat.reduceAdd, Nat.reduceLeDiff, Nat.reduceEqDiff, Int.reduceEq, not_false_eq_true, Int.reduceToNat]
    refine (sAlloc _ ((stoE v.items l tb0).2.withN v.next) (by omega) hcl a1 a2 a0 n1 n2 n0 bp R h0 _ m1.drop).mono ?_
    rintro _ h3 ⟨a8, c8, a9, n9, rfl, m3⟩
    try simp only [go_sem, Nat.reduceBEq, Nat.reduceAdd, Nat.reduceLeDiff]
    exact ⟨_, _, a9, n9, rfl, m3⟩
theorem sStore : ∀ v, StoreS v := V.ind sStore_s
end Go.Proofs.YtccjkhnefiikaaaGreatDoor
namespace Go.Proofs.YtccjkhnefiikaaaGreatDoor
set_option maxRecDepth 8000
open Go Go.Sx
/-- the value itself, or a handle of a block made anew -/
def HpOwn (h0 : Hp) (l : List Bk) (v : V) (w : Value) (bp : Nat) (R : Bag) (u : Value) (h' : Hp) : Prop :=
  if v.kind = 5 ∧ (blk l v.num.toNat).count = 1 then u = w ∧ ∃ a n, My h0 h' (HpB l a n bp R) else HpR h0 (hnd (ownH l v).2) (ownH l v).1 bp R u h'
def HpSame (h0 : Hp) (l : List Bk) (w : Value) (bp : Nat) (R : Bag) (u : Value) (h' : Hp) : Prop := u = w ∧ ∃ a n, My h0 h' (HpB l a n bp R)
theorem HpOwn_same {h0 : Hp} {l : List Bk} {v : V} {w : Value} {bp : Nat} {R : Bag} (h : v.kind = 5 ∧ (blk l v.num.toNat).count = 1) : HpOwn h0 l v w bp R = HpSame h0 l w bp R := by
  funext u h'
  unfold HpOwn
  rw [if_pos h]
  rfl
theorem HpOwn_new {h0 : Hp} {l : List Bk} {v : V} {w : Value} {bp : Nat} {R : Bag} (h : ¬ (v.kind = 5 ∧ (blk l v.num.toNat).count = 1)) : HpOwn h0 l v w bp R = HpR h0 (hnd (ownH l v).2) (ownH l v).1 bp R := by
  funext u h'
  unfold HpOwn
  rw [if_neg h]
theorem own_new {l : List Bk} {v : V} (h : ¬ v.kind = 5) : ownH l v = (allocH l tb0, freeN l) := if_neg h
theorem own_split {l : List Bk} {v : V} (h : v.kind = 5) (k : ¬ (blk l v.num.toNat).count = 1) : ownH l v = (allocH (splitH l v.num.toNat) (blk l v.num.toNat).tab, freeN (splitH l v.num.toNat)) := by
  unfold ownH
  rw [if_pos h, if_neg k]
theorem inv_cnts {c : Int} {L B : Nat} {l : List Bk} (h : sInv c L B l) : ∀ b ∈ l, 0 ≤ b.count := fun b hb => by
  obtain ⟨i, hi⟩ := List.getElem?_of_mem hb
  exact (h.inn.cnt i b hi).1
set_option maxHeartbeats 1600000 in
theorem sOwn {c : Int} {L B : Nat} (l : List Bk) (v : V) (hi : sInv c L B l) (hc1 : 1 ≤ c) (hcb : c ≤ 1099511627776) (hB : B ≤ 1048576) (hlb : l.length ≤ 1099511627775) (hk : v.kind = 0 ∨ v.kind = 5) (hr : refIn l.length v) (hp : v.kind = 5 → 0 < (blk l v.num.toNat).count) (av : Option Addr) (nv cv : Nat) (a : Option Addr) (n bp : Nat) (R : Bag) (h0 h : Hp) (my : My h0 h (HpB l a n bp R)) : ACalls Tryz.prog 71 #[.pointer (some ⟨bp, 0, none⟩), .agg #[.int .i64 v.kind, .int .i64 v.num, .string v.str, .int .i64 v.next, .slice av nv cv]] h (HpOwn h0 l v (.agg #[.int .i64 v.kind, .int .i64 v.num, .string v.str, .int .i64 v.next, .slice av nv cv]) bp R) := by
  (refine enter Tryz.func71 rfl rfl (by kernel_rfl) [] ?_; simp only [go_sem, Nat.reduceBEq])
  by_cases h5 : v.kind = 5
  case neg =>
    have hz : v.kind = 0 := hk.resolve_right h5
    rw [HpOwn_new (fun q => h5 q.1), own_new h5]
    simp only [decide_eq_true hz, go_sem, Nat.reduceBEq]
    try simp only [go_sem, Nat.reduceBEq, Nat.reduceAdd, Nat.reduceLeDiff, Nat.reduceEqDiff, Int.reduceEq, not_false_eq_true, Int.reduceToNat]
    refine (sAlloc l tb0 (by omega) (inv_cnts hi) none none a 0 0 n bp R h0 _ ((my.nilrow (z := 10)).nilrow (z := 1))).mono ?_
    rintro _ h2 ⟨b2, c2, a2, n2, rfl, m2⟩
    try simp only [go_sem, Nat.reduceBEq, Nat.reduceAdd, Nat.reduceLeDiff]
    exact ⟨b2, c2, a2, n2, rfl, m2⟩
  obtain ⟨q1, q2⟩ := hr h5
  have hpos := hp h5
  obtain ⟨w1, w2⟩ := hi.count q2
  have hz : ¬ v.kind = 0 := by omega
  have my : My h0 h ((.row 6 (l.flatMap Bk.dt), .slice a l.length n) :: (.ptr [] [.raw (.slice a l.length n)] [], .pointer (some ⟨bp, 0, none⟩)) :: R) := my
  obtain ⟨_, _, es, _, _, hat⟩ := my.row_shape (by decide) l.length (fm_len Bk.dt_len _)
  cases es
  obtain ⟨b, rfl⟩ := hat (by omega)
  simp only [decide_eq_false hz, go_sem]
  refine regionD_intro (lb := [18]) (by kernel_rfl) ?_
  simp only [go_sem, Nat.reduceBEq]
  refine Hold.ld1 (i := 0) Hold.ptr tyS24 my.swap rfl rfl ?_
  simp only [ix_int q1 q2, go_sem, Nat.reduceBEq]
  refine bcnt_ld q2 tyS3 my (by omega) ?_
  by_cases h1 : (blk l v.num.toNat).count = 1
  · rw [HpOwn_same ⟨h5, h1⟩]
    simp only [decide_eq_true h1, go_sem, Nat.reduceBEq, Nat.reduceAdd, Nat.reduceLeDiff]
    exact ⟨rfl, _, n, my⟩
  rw [HpOwn_new (fun q => h1 q.2), own_split h5 h1]
  simp only [decide_eq_false h1, go_sem, Nat.reduceBEq]
  refine regionD_intro (lb := [29]) (by kernel_rfl) ?_
  simp only [go_sem, Nat.reduceBEq]
  refine Hold.ld1 (i := 0) Hold.ptr tyS24 my.swap rfl rfl ?_
  have htb := hi.tabs v.num.toNat
  obtain ⟨tch, _, tsm, trf⟩ := hi.bk v.num.toNat
  have tlen := tch.len
  have hbk := blk_at q2
  generalize htt : (blk l v.num.toNat).tab = t at *
  obtain ⟨_, _, _, eqs, _, hr6, hat6⟩ := my.rd.rows (by decide) l.length (fm_len Bk.dt_len _)
  cases eqs
  obtain ⟨b6, o6, eq6, hat6⟩ := hat6 (by omega)
  cases eq6
  simp only [ix_int q1 q2, go_sem, Nat.reduceBEq]
  refine hsem_btab tyS38 hat6 hr6 hbk (by omega) fun s2 u2 rh ru => ?_
  rw [htt] at rh ru ⊢
  try simp only [go_sem, Nat.reduceBEq]
  refine (l7Copy_c t (by omega) _ _ _ rh ru).mono ?_
  rintro _ h2 ⟨a4, c4, a5, c5, rfl, m2⟩
  have m2 : My h0 h2 (HpB l (some ⟨b, 0, none⟩) n bp ((.row 1 (t.heads.flatMap idt), .slice a4 t.heads.length c4) :: (.row 10 (t.slots.flatMap Sl.dt), .slice a5 t.slots.length c5) :: R)) := (my.add m2).fourth.fourth
  try simp only [go_sem, Nat.reduceBEq, Nat.reduceAdd, Nat.reduceLeDiff]
  refine aloop (ι := Nat) (fun k => [(6, .val (.int .i64 (k : Nat))), (5, .box 5 0), (4, .box 4 0), (3, .box 3 0), (0, .val (.pointer (some ⟨bp, 0, none⟩)))]) (fun _ => [(5, [.bool t.hashed, .slice a4 t.heads.length c4, .slice a5 t.slots.length c5, .int .i64 t.next, .int .i64 t.count]), (4, [.int .i64 0, .int .i64 0, .string ⟨#[]⟩, .int .i64 0, .slice none 0 0]), (3, [.int .i64 v.kind, .int .i64 v.num, .string v.str, .int .i64 v.next, .slice av nv cv])])
    (fun k h' => k ≤ t.slots.length ∧ My h0 h' (HpB (shareSl l (t.slots.take k)) (some ⟨b, 0, none⟩) n bp ((.row 1 (t.heads.flatMap idt), .slice a4 t.heads.length c4) :: (.row 10 (t.slots.flatMap Sl.dt), .slice a5 t.slots.length c5) :: R))) (fun k => t.slots.length - k) 0
    ⟨Nat.zero_le _, m2⟩ (by repeat (first | exact wkF_e | refine wkF_c rfl ?_)) (wkB_c rfl (wkB_c rfl (wkB_c rfl wkB_e))) rfl ?_
  rintro k h6 ⟨hkl, m6⟩
  have hkl : k ≤ t.slots.length := hkl
  have m6 : My h0 h6 (HpB (shareSl l (t.slots.take k)) (some ⟨b, 0, none⟩) n bp ((.row 1 (t.heads.flatMap idt), .slice a4 t.heads.length c4) :: (.row 10 (t.slots.flatMap Sl.dt), .slice a5 t.slots.length c5) :: R)) := m6
  have inv := hi.shareSl (t.slots.take k) (by omega)
  have hle : (t.slots.take k).length ≤ t.slots.length := by rw [List.length_take]; omega
  try simp only [go_sem, Nat.reduceBEq]
  refine Br.intro (fun hq => ?_) (fun hq => ?_) <;> (try simp only [hq, go_sem, Nat.reduceBEq])
  · have hq : k < t.slots.length := by simpa using hq
    obtain ⟨e, he, hme⟩ := get_lt hq
    have wsu := wrap_succ (i := k) (by omega)
    have rs : Rd h6 (.row 10 (t.slots.flatMap Sl.dt)) (.slice a5 t.slots.length c5) := m6.fourth.rd
    obtain ⟨_, _, xs, eq, _, hrs, hats⟩ := rs.rows (by decide) t.slots.length (fm_len Sl.dt_len _)
    cases eq
    obtain ⟨b4, o4, rfl, hatq⟩ := hats (by omega)
    simp only [ix_nat hq, go_sem, Nat.reduceBEq, Nat.reduceAdd]
    refine hsem_slive tyS4 hatq hrs he rfl ?_
    cases hv : e.live with
    | false =>
      try simp only [wsu, go_sem, Nat.reduceBEq]
      exact Again.intro (k + 1) (by first | omega | (simp only; omega)) ⟨hq, by rw [shareSl_snoc he, hv]; exact m6⟩ (by repeat (first | exact wkF_e | refine wkF_c rfl ?_)) (wkB_c rfl (wkB_c rfl (wkB_c rfl wkB_e))) rfl
    | true =>
      simp only [ix_nat hq, go_sem, Nat.reduceBEq, Nat.reduceAdd]
      refine hsem_sval tyS49 hatq hrs he rfl fun s5 rd5 => ?_
      obtain ⟨a6, c6, _, rfl, _⟩ := rd5.rows (by decide) e.val.items.length (fm_len edt_len _)
      try simp only [go_sem, Nat.reduceBEq]
      have hrf : refIn (shareSl l (t.slots.take k)).length e.val := by rw [shareSl_len]; exact trf e hme hv
      refine (sShare (shareSl l (t.slots.take k)) e.val hrf (fun q => ?_) _ _ _ _ _ _ _ h0 _ m6).mono ?_
      · obtain ⟨p1, p2⟩ := inv.count (hrf q).2
        exact ⟨p1, by omega⟩
      rintro _ h7 ⟨rfl, m7⟩
      try simp only [wsu, go_sem, Nat.reduceBEq]
      exact Again.intro (k + 1) (by first | omega | (simp only; omega)) ⟨hq, by rw [shareSl_snoc he, hv, if_pos rfl]; exact m7⟩ (by repeat (first | exact wkF_e | refine wkF_c rfl ?_)) (wkB_c rfl (wkB_c rfl (wkB_c rfl wkB_e))) rfl
  have hq : k = t.slots.length := by simp at hq; omega
  subst hq
  rw [List.take_length] at m6 inv
  obtain ⟨sb1, sb2⟩ := shareSl_blk t.slots l v.num.toNat
  have hsl : (shareSl l t.slots).length = l.length := shareSl_len _ _
  have hspl : splitH l v.num.toNat = (shareSl l t.slots).set v.num.toNat ((blk (shareSl l t.slots) v.num.toNat).withC ((blk (shareSl l t.slots) v.num.toNat).count - 1)) := by
    unfold splitH
    rw [htt]
  generalize shareSl l t.slots = l1 at *
  have q3 : v.num.toNat < l1.length := by omega
  obtain ⟨p1, p2⟩ := inv.count q3
  have hw : IntKind.i64.wrap ((blk l1 v.num.toNat).count - 1) = (blk l1 v.num.toNat).count - 1 := IntWalk.i64_in _ (by omega)
  have hcn : ∀ b ∈ splitH l v.num.toNat, 0 ≤ b.count := fun b hb => by
    rw [hspl] at hb
    rcases List.mem_or_eq_of_mem_set hb with hb | rfl
    · exact inv_cnts inv b hb
    · show 0 ≤ (blk l1 v.num.toNat).count - 1
      omega
  try simp only [go_sem, Nat.reduceBEq, Nat.reduceAdd, Nat.reduceLeDiff, Nat.reduceEqDiff, Int.reduceEq, not_false_eq_true, Int.reduceToNat]
  refine regionD_intro (lb := [60, 66]) (by kernel_rfl) ?_
  simp only [go_sem, Nat.reduceBEq]
  refine Hold.ld1 (i := 0) Hold.ptr tyS24 m6.swap rfl rfl ?_
  simp only [go_sem, Nat.reduceBEq]
  refine Hold.ld1 (i := 0) Hold.ptr tyS24 m6.swap rfl rfl ?_
  simp only [ix_int q1 q3, go_sem, Nat.reduceBEq]
  refine bcnt_ld q3 tyS3 m6 (by omega) ?_
  simp only [ix_int q1 q3, hw, go_sem, Nat.reduceBEq]
  refine bcnt_st _ q3 tyS3 m6 (by omega) fun h8 m8 => ?_
  rw [← hspl] at m8
  have hsl2 : l1.length = (splitH l v.num.toNat).length := by rw [splitH_len]; exact hsl
  rw [hsl2] at m8
  try simp only [go_sem, Nat.reduceBEq, Nat.reduceAdd, Nat.reduceLeDiff]
  refine (sAlloc (splitH l v.num.toNat) t (by omega) hcn a4 a5 _ c4 c5 n bp R h0 _ (My.fourth (My.fourth m8))).mono ?_
  rintro _ h9 ⟨b2, c2, a2, n2, rfl, m9⟩
  try simp only [go_sem, Nat.reduceBEq, Nat.reduceAdd, Nat.reduceLeDiff]
  exact ⟨b2, c2, a2, n2, rfl, m9⟩
end Go.Proofs.YtccjkhnefiikaaaGreatDoor
namespace Go.Proofs.YtccjkhnefiikaaaGreatDoor
set_option maxRecDepth 8000
open Go Go.Sx
/-- numbers made anew -/
def MadeN (h : Hp) (l : List Int) (u : Value) (h' : Hp) : Prop := ∃ a c, u = .slice a l.length c ∧ My h h' [(.row 1 (l.flatMap idt), .slice a l.length c)]
theorem hit_no1 {n : Nat} {v : V} (h : ¬ v.kind = 5) : hit n v = false := by unfold hit; rw [decide_eq_false h]; rfl
theorem hit_no2 {n : Nat} {v : V} (h : ¬ (0 ≤ v.num ∧ v.num ≤ (n : Int) - 1)) : hit n v = false := by unfold hit; rw [decide_eq_false h, Bool.and_false]
theorem hit_yes {n : Nat} {v : V} (h : v.kind = 5) (k : 0 ≤ v.num ∧ v.num ≤ (n : Int) - 1) : hit n v = true := by unfold hit; rw [decide_eq_true h, decide_eq_true k]; rfl
theorem cnt1_no {l : List Int} {v : V} (h : hit l.length v = false) : cnt1 l v = l := if_neg (by rw [h]; simp)
theorem cnt1_yes {l : List Int} {v : V} (h : hit l.length v = true) : cnt1 l v = l.set v.num.toNat (l.getD v.num.toNat 0 + 1) := if_pos h
theorem small_get {l : List Int} {n i : Nat} (h : smallC l n) (hn : n ≤ 1099511627776) (hi : i < l.length) : IntKind.i64.wrap (l.getD i 0 + 1) = l.getD i 0 + 1 := by
  have := h _ (getD_mem (d := 0) hi)
  exact IntWalk.i64_in _ (by omega)
def Cnted (h0 : Hp) (l : List Int) (n bo bp : Nat) (u : Value) (h' : Hp) : Prop := u = .tuple #[] ∧ My h0 h' [(.row 1 (l.flatMap idt), .slice (some ⟨bo, 0, none⟩) n n), (.ptr [] [.raw (.slice (some ⟨bo, 0, none⟩) n n)] [], .pointer (some ⟨bp, 0, none⟩))]
theorem iCount1 (l : List Int) (n : Nat) (hn : l.length = n) (hn1 : n ≤ 1048576) (m : Nat) (hm : m ≤ 1099511627776) (hsm : smallC l m) (v : V) (a : Option Addr) (k c bo bp : Nat) (h0 h : Hp)
    (my : My h0 h [(.row 1 (l.flatMap idt), .slice (some ⟨bo, 0, none⟩) n n), (.ptr [] [.raw (.slice (some ⟨bo, 0, none⟩) n n)] [], .pointer (some ⟨bp, 0, none⟩))]) :
    ACalls Tryz.prog 22 #[.agg #[.int .i64 v.kind, .int .i64 v.num, .string v.str, .int .i64 v.next, .slice a k c], .pointer (some ⟨bp, 0, none⟩)] h (Cnted h0 (cnt1 l v) n bo bp) := by
  have hw : IntKind.i64.wrap ((n : Int) - 1) = (n : Int) - 1 := IntWalk.i64_in _ (by omega)
  subst hn
  (refine enter Tryz.func22 rfl rfl (by kernel_rfl) [] ?_; simp only [go_sem, Nat.reduceBEq])
  by_cases h5 : v.kind = 5
  case neg =>
    simp only [decide_eq_false h5, go_sem, Nat.reduceBEq]
    exact ⟨rfl, by rw [cnt1_no (hit_no1 h5)]; exact my⟩
  simp only [decide_eq_true h5, go_sem, Nat.reduceBEq]
  refine Hold.ld1 (i := 0) Hold.ptr tyS34 my.swap rfl rfl ?_
  simp only [hw, go_sem, Nat.reduceBEq]
  (refine (iInRange _ _ _ _).mono ?_; rintro _ _ ⟨rfl, rfl⟩; simp only [go_sem, Nat.reduceBEq])
  by_cases hr : 0 ≤ v.num ∧ v.num ≤ (l.length : Int) - 1
  case neg =>
    simp only [decide_eq_false hr, go_sem]
    exact ⟨rfl, by rw [cnt1_no (hit_no2 hr)]; exact my⟩
  have hlt : v.num.toNat < l.length := by omega
  have hsw := small_get hsm hm hlt
  simp only [decide_eq_true hr, go_sem, Nat.reduceBEq]
  refine Hold.ld1 (i := 0) Hold.ptr tyS34 my.swap rfl rfl ?_
  obtain ⟨ys, hry, haty⟩ := my.at_
  simp only [ix_int hr.1 hlt, go_sem, Nat.reduceBEq]
  refine hsem_num tyS3 (haty (by omega)) hry (getD_at (d := 0) hlt) (by omega) ?_
  simp only [ix_int hr.1 hlt, hsw, go_sem, Nat.reduceBEq]
  obtain ⟨cn, hn', en⟩ := hold_num (es := l) (b := bo) (cap := l.length) hlt
  obtain ⟨x, hx⟩ := hold_self (es := l) hlt
  refine hn'.put1 (h0 := h0) (d := .raw (.int .i64 x)) tyS3 rfl rfl (by rw [en, hx]; exact my) (by omega) fun h5' m5 => ?_
  rw [en] at m5
  try simp only [go_sem]
  refine ⟨rfl, ?_⟩
  rw [cnt1_yes (hit_yes h5 hr)]
  exact m5
set_option maxHeartbeats 800000 in
theorem iCountRefs (l : List Bk) (rs : List V) (hb : szG Bk.bulk l ≤ 1048576) (hbr : szG V.bulk rs ≤ 1048576) (s u : Value) (h : Hp) (r1 : RdB h l s) (r2 : Rd h (.row 5 (rs.flatMap V.dt)) u) : ACalls Tryz.prog 10 #[.agg #[s], u] h (MadeN h (counts l rs)) := by
  have hlen := szG_len (w := Bk.bulk) l
  have hlr := szG_len (w := V.bulk) rs
  obtain ⟨a1, c1, xs1, rfl, hc1, hr1, hat1⟩ := r1.rows (by decide) l.length (fm_len Bk.dt_len _)
  obtain ⟨a2, c2, xs2, rfl, hc2, hr2, hat2⟩ := r2.rows (by decide) rs.length (fm_len V.dt_len _)
  (refine enter Tryz.func10 rfl rfl (by kernel_rfl) [5] ?_; simp only [go_sem, Nat.reduceBEq])
  refine hsem_my_make slT34 (by decide) rfl rfl (by omega) (by decide) (My.nil (Ext.refl h)) fun bo h1 m1 => ?_
  have m1 : My h h1 [(.row 1 (zeros [.int .i64 0] l.length), .slice (some ⟨bo, 0, none⟩) l.length l.length)] := m1
  rw [zeros_int] at m1
  try simp only [go_sem, Nat.reduceBEq]
  refine hsem_my_alloc (z := [.slice none 0 0]) (by kernel_rfl) rfl m1 fun bp h2 m2 => ?_
  try simp only [go_sem, Nat.reduceBEq]
  refine Hold.store Hold.ptr (es := [.raw (.slice (some ⟨bo, 0, none⟩) l.length l.length)]) tyS34 (m2.raw (u := .slice (some ⟨bo, 0, none⟩) l.length l.length) rfl) rfl rfl rfl rfl fun h3 m3 => ?_
  have m3 := m3.swap
  try simp only [go_sem, Nat.reduceBEq]
  refine aloop (ι := Nat) (fun i => [(20, .val (.int .i64 (i : Nat))), (19, .val (.int .i64 (rs.length : Nat))), (18, .val (.slice a2 rs.length c2)), (6, .val (.func (.func 22) #[] #[.pointer (some ⟨bp, 0, none⟩)])), (5, .val (.pointer (some ⟨bp, 0, none⟩))), (2, .box 2 0)]) (fun _ => [(2, [.slice a1 l.length c1])])
    (fun i h' => i ≤ rs.length ∧ My h h' [(.row 1 ((cntV (List.replicate l.length 0) (rs.take i)).flatMap idt), .slice (some ⟨bo, 0, none⟩) l.length l.length), (.ptr [] [.raw (.slice (some ⟨bo, 0, none⟩) l.length l.length)] [], .pointer (some ⟨bp, 0, none⟩))]) (fun i => rs.length - i) 0
    ⟨Nat.zero_le _, m3⟩ (by repeat (first | exact wkF_e | refine wkF_c rfl ?_)) (wkB_c rfl wkB_e) rfl ?_
  rintro i h4 ⟨hi, m4⟩
  have hi : i ≤ rs.length := hi
  have m4 : My h h4 [(.row 1 ((cntV (List.replicate l.length 0) (rs.take i)).flatMap idt), .slice (some ⟨bo, 0, none⟩) l.length l.length), (.ptr [] [.raw (.slice (some ⟨bo, 0, none⟩) l.length l.length)] [], .pointer (some ⟨bp, 0, none⟩))] := m4
  try simp only [go_sem, Nat.reduceBEq]
  refine Br.intro (fun hq => ?_) (fun hq => ?_) <;> (try simp only [hq, go_sem, Nat.reduceBEq])
  · have hq : i < rs.length := by simpa using hq
    obtain ⟨b2, o2, rfl, hat2'⟩ := hat2 (by omega)
    obtain ⟨e, he, hm⟩ := get_lt hq
    have wsu := wrap_succ (i := i) (by omega)
    have hsm := (smallC.zero l.length).vals (es := rs.take i)
    have htk : (rs.take i).length ≤ rs.length := by rw [List.length_take]; omega
    simp only [ix_nat hq, go_sem, Nat.reduceBEq]
    refine hsem_vrow tyS49 (hat2'.mono m4.ext) (hr2.mono m4.ext) he rfl fun s2 rd2 => ?_
    obtain ⟨a5, c5, _, rfl, _⟩ := rd2.rows (by decide) e.items.length (fm_len edt_len _)
    try simp only [go_sem, Nat.reduceBEq, Nat.reduceAdd, Nat.reduceLeDiff]
    refine (iCount1 _ l.length (by rw [cntV_len, List.length_replicate]) (by omega) _ (by omega) hsm e a5 _ c5 bo bp h _ m4).mono ?_
    rintro _ h5 ⟨rfl, m5⟩
    rw [← cntV_snoc he] at m5
    try simp only [wsu, go_sem, Nat.reduceBEq]
    exact Again.intro (i + 1) (by first | omega | (simp only; omega)) ⟨hq, m5⟩ (by repeat (first | exact wkF_e | refine wkF_c rfl ?_)) (wkB_c rfl wkB_e) rfl
  have hq : i = rs.length := by simp at hq; omega
  subst hq
  rw [List.take_length] at m4
  have hsm0 := (smallC.zero l.length).vals (es := rs)
  try simp only [go_sem, Nat.reduceBEq, Nat.reduceAdd, Nat.reduceLeDiff, Nat.reduceEqDiff, Int.reduceEq, not_false_eq_true, Int.reduceToNat]
  generalize hcv : cntV (List.replicate l.length 0) rs = cv at *
  have hcl : cv.length = l.length := by rw [← hcv, cntV_len, List.length_replicate]
  refine aloop (ι := Nat) (fun i => [(31, .val (.int .i64 (i : Nat))), (30, .val (.int .i64 (l.length : Nat))), (29, .val (.slice a1 l.length c1)), (6, .val (.func (.func 22) #[] #[.pointer (some ⟨bp, 0, none⟩)])), (5, .val (.pointer (some ⟨bp, 0, none⟩)))]) (fun _ => [])
    (fun i h' => i ≤ l.length ∧ My h h' [(.row 1 ((cntBl cv (l.take i)).flatMap idt), .slice (some ⟨bo, 0, none⟩) l.length l.length), (.ptr [] [.raw (.slice (some ⟨bo, 0, none⟩) l.length l.length)] [], .pointer (some ⟨bp, 0, none⟩))]) (fun i => l.length - i) 0
    ⟨Nat.zero_le _, m4⟩ (by repeat (first | exact wkF_e | refine wkF_c rfl ?_)) wkB_e rfl ?_
  rintro i h5 ⟨hi, m5⟩
  have hi : i ≤ l.length := hi
  have m5 : My h h5 [(.row 1 ((cntBl cv (l.take i)).flatMap idt), .slice (some ⟨bo, 0, none⟩) l.length l.length), (.ptr [] [.raw (.slice (some ⟨bo, 0, none⟩) l.length l.length)] [], .pointer (some ⟨bp, 0, none⟩))] := m5
  have hsm1 := hsm0.blocks (es := l.take i)
  have htk := szG_take (w := Bk.bulk) l i
  try simp only [go_sem, Nat.reduceBEq]
  refine Br.intro (fun hq => ?_) (fun hq => ?_) <;> (try simp only [hq, go_sem, Nat.reduceBEq])
  · have hq : i < l.length := by simpa using hq
    obtain ⟨b1, o1, rfl, hat1'⟩ := hat1 (by omega)
    obtain ⟨b, hbk, hm⟩ := get_lt hq
    have hsb := slots_bulk hbk
    obtain ⟨hsl, hsv⟩ := tab_slots b.tab
    have wsu := wrap_succ (i := i) (by omega)
    simp only [ix_nat hq, go_sem, Nat.reduceBEq]
    refine hpure_base m5.ext (hsem_blk tyS40 hat1' hr1 hbk rfl fun s3 u3 rh ru => ?_)
    obtain ⟨a3, c3, xs3, rfl, hc3, hr3, hat3⟩ := rh.rows (by decide) b.tab.heads.length (fm_len idt_len _)
    obtain ⟨a4, c4, xs4, rfl, hc4, hr4, hat4⟩ := ru.rows (by decide) b.tab.slots.length (fm_len Sl.dt_len _)
    try simp only [go_sem, Nat.reduceBEq, Nat.reduceAdd, Nat.reduceLeDiff]
    refine aloop (ι := Nat) (fun k => [(39, .val (.int .i64 (k : Nat))), (38, .val (.int .i64 (b.tab.slots.length : Nat))), (37, .val (.slice a4 b.tab.slots.length c4)), (31, .val (.int .i64 (i : Nat))), (30, .val (.int .i64 (l.length : Nat))), (29, .val (.slice (some ⟨b1, o1, none⟩) l.length c1)), (6, .val (.func (.func 22) #[] #[.pointer (some ⟨bp, 0, none⟩)])), (5, .val (.pointer (some ⟨bp, 0, none⟩)))]) (fun _ => [])
      (fun k h' => k ≤ b.tab.slots.length ∧ My h h' [(.row 1 ((cntSl (cntBl cv (l.take i)) (b.tab.slots.take k)).flatMap idt), .slice (some ⟨bo, 0, none⟩) l.length l.length), (.ptr [] [.raw (.slice (some ⟨bo, 0, none⟩) l.length l.length)] [], .pointer (some ⟨bp, 0, none⟩))]) (fun k => b.tab.slots.length - k) 0
      ⟨Nat.zero_le _, m5⟩ (by repeat (first | exact wkF_e | refine wkF_c rfl ?_)) wkB_e rfl ?_
    rintro k h6 ⟨hk, m6⟩
    have hk : k ≤ b.tab.slots.length := hk
    have m6 : My h h6 [(.row 1 ((cntSl (cntBl cv (l.take i)) (b.tab.slots.take k)).flatMap idt), .slice (some ⟨bo, 0, none⟩) l.length l.length), (.ptr [] [.raw (.slice (some ⟨bo, 0, none⟩) l.length l.length)] [], .pointer (some ⟨bp, 0, none⟩))] := m6
    have hsm2 := hsm1.slots (es := b.tab.slots.take k)
    have htk2 : (b.tab.slots.take k).length ≤ b.tab.slots.length := by rw [List.length_take]; omega
    try simp only [go_sem, Nat.reduceBEq]
    refine Br.intro (fun hkb => ?_) (fun hkb => ?_) <;> (try simp only [hkb, go_sem, Nat.reduceBEq, Nat.reduceEqDiff])
    · have hkb : k < b.tab.slots.length := by simpa using hkb
      obtain ⟨b4, o4, rfl, hat4'⟩ := hat4 (by omega)
      obtain ⟨e, he, hme⟩ := get_lt hkb
      have wsk := wrap_succ (i := k) (by omega)
      simp only [ix_nat hkb, go_sem, Nat.reduceBEq]
      refine hsem_slot tyS59 (hat4'.mono m6.ext) (hr4.mono m6.ext) he rfl fun s5 rd5 => ?_
      obtain ⟨a5, c5, _, rfl, _⟩ := rd5.rows (by decide) e.val.items.length (fm_len edt_len _)
      cases hv : e.live with
      | false =>
        simp only [wsk, go_sem, Nat.reduceBEq, Nat.reduceAdd, Nat.reduceLeDiff]
        exact Again.intro (k + 1) (by first | omega | (simp only; omega)) ⟨hkb, by rw [cntSl_snoc he, hv]; exact m6⟩ (by repeat (first | exact wkF_e | refine wkF_c rfl ?_)) wkB_e rfl
      | true =>
        try simp only [go_sem, Nat.reduceBEq, Nat.reduceAdd, Nat.reduceLeDiff]
        refine (iCount1 _ l.length (by rw [cntSl_len, cntBl_len, hcl]) (by omega) _ (by omega) hsm2 e.val a5 _ c5 bo bp h _ m6).mono ?_
        rintro _ h7 ⟨rfl, m7⟩
        try simp only [wsk, go_sem, Nat.reduceBEq]
        exact Again.intro (k + 1) (by first | omega | (simp only; omega)) ⟨hkb, by rw [cntSl_snoc he, hv]; exact m7⟩ (by repeat (first | exact wkF_e | refine wkF_c rfl ?_)) wkB_e rfl
    · have hkb : k = b.tab.slots.length := by simp at hkb; omega
      subst hkb
      rw [List.take_length, ← cntBl_snoc hbk] at m6
      simp only [wsu, go_sem]
      exact Again.intro (i + 1) (by first | omega | (simp only; omega)) ⟨hq, m6⟩ (by repeat (first | exact wkF_e | refine wkF_c rfl ?_)) wkB_e rfl
  · have hq : i = l.length := by simp at hq; omega
    subst hq
    rw [List.take_length] at m5
    try simp only [go_sem, Nat.reduceBEq, Nat.reduceAdd, Nat.reduceLeDiff, Nat.reduceEqDiff, Int.reduceEq, not_false_eq_true, Int.reduceToNat]
    refine Hold.ld1 (i := 0) Hold.ptr tyS34 m5.swap rfl rfl ?_
    try simp only [go_sem, Nat.reduceBEq]
    have hcc : counts l rs = cntBl cv l := by unfold counts; rw [hcv]
    have hl2 : (cntBl cv l).length = l.length := by rw [cntBl_len, hcl]
    refine ⟨some ⟨bo, 0, none⟩, l.length, ?_, ?_⟩
    · rw [hcc, hl2]
    · rw [hcc, hl2]
      exact m5.swap.drop
set_option maxHeartbeats 800000 in
theorem sCounts (l : List Bk) (rs : List V) (hb : szG Bk.bulk l ≤ 1048576) (hbr : szG V.bulk rs ≤ 1048576) (s u : Value) (h : Hp) (r1 : RdB h l s) (r2 : Rd h (.row 5 (rs.flatMap V.dt)) u) : ACalls Tryz.prog 14 #[.agg #[s], u] h (MadeN h (counts l rs)) := by
  have hlen := szG_len (w := Bk.bulk) l
  have hlr := szG_len (w := V.bulk) rs
  obtain ⟨a1, c1, xs1, rfl, hc1, hr1, hat1⟩ := r1.rows (by decide) l.length (fm_len Bk.dt_len _)
  obtain ⟨a2, c2, xs2, rfl, hc2, hr2, hat2⟩ := r2.rows (by decide) rs.length (fm_len V.dt_len _)
  have hw : IntKind.i64.wrap ((l.length : Int) - 1) = (l.length : Int) - 1 := IntWalk.i64_in _ (by omega)
  (refine enter Tryz.func14 rfl rfl (by kernel_rfl) [] ?_; simp only [go_sem, Nat.reduceBEq])
  refine hsem_my_make slT34 (by decide) rfl rfl (by omega) (by decide) (My.nil (Ext.refl h)) fun bo h1 m1 => ?_
  have m1 : My h h1 [(.row 1 (zeros [.int .i64 0] l.length), .slice (some ⟨bo, 0, none⟩) l.length l.length)] := m1
  rw [zeros_int] at m1
  try simp only [go_sem, Nat.reduceBEq]
  refine aloop (ι := Nat) (fun i => [(6, .val (.int .i64 (i : Nat))), (5, .val (.slice (some ⟨bo, 0, none⟩) l.length l.length)), (1, .val (.slice a2 rs.length c2)), (2, .box 2 0)]) (fun _ => [(2, [.slice a1 l.length c1])])
    (fun i h' => i ≤ rs.length ∧ My h h' [(.row 1 ((cntV (List.replicate l.length 0) (rs.take i)).flatMap idt), .slice (some ⟨bo, 0, none⟩) l.length l.length)]) (fun i => rs.length - i) 0
    ⟨Nat.zero_le _, m1⟩ (by repeat (first | exact wkF_e | refine wkF_c rfl ?_)) (wkB_c rfl wkB_e) rfl ?_
  rintro i h4 ⟨hi, m4⟩
  have hi : i ≤ rs.length := hi
  have m4 : My h h4 [(.row 1 ((cntV (List.replicate l.length 0) (rs.take i)).flatMap idt), .slice (some ⟨bo, 0, none⟩) l.length l.length)] := m4
  have hsm := (smallC.zero l.length).vals (es := rs.take i)
  have htk : (rs.take i).length ≤ rs.length := by rw [List.length_take]; omega
  have hcl0 : (cntV (List.replicate l.length 0) (rs.take i)).length = l.length := by rw [cntV_len, List.length_replicate]
  try simp only [go_sem, Nat.reduceBEq]
  refine Br.intro (fun hq => ?_) (fun hq => ?_) <;> (try simp only [hq, go_sem, Nat.reduceBEq])
  · have hq : i < rs.length := by simpa using hq
    obtain ⟨b2, o2, rfl, hat2'⟩ := hat2 (by omega)
    obtain ⟨e, he, hm⟩ := get_lt hq
    have wsu := wrap_succ (i := i) (by omega)
    have hsn := cntV_snoc (l := List.replicate l.length 0) he
    generalize cntV (List.replicate l.length 0) (rs.take i) = cv at *
    simp only [ix_nat hq, go_sem, Nat.reduceBEq]
    refine hsem_vkind tyS3 (hat2'.mono m4.ext) (hr2.mono m4.ext) he rfl ?_
    by_cases h5 : e.kind = 5
    case neg =>
      simp only [decide_eq_false h5, wsu, go_sem, Nat.reduceBEq]
      exact Again.intro (i + 1) (by first | omega | (simp only; omega)) ⟨hq, by rw [hsn, cnt1_no (hit_no1 h5)]; exact m4⟩ (by repeat (first | exact wkF_e | refine wkF_c rfl ?_)) (wkB_c rfl wkB_e) rfl
    simp only [decide_eq_true h5, ix_nat hq, go_sem, Nat.reduceBEq]
    refine hsem_vnum tyS3 (hat2'.mono m4.ext) (hr2.mono m4.ext) he (by omega) ?_
    simp only [hw, go_sem, Nat.reduceBEq]
    (refine (l1In_c _ _ _ _).mono ?_; rintro _ _ ⟨rfl, rfl⟩; simp only [go_sem, Nat.reduceBEq])
    by_cases hr : 0 ≤ e.num ∧ e.num ≤ (l.length : Int) - 1
    case neg =>
      simp only [decide_eq_false hr, wsu, go_sem, Nat.reduceBEq]
      exact Again.intro (i + 1) (by first | omega | (simp only; omega)) ⟨hq, by rw [hsn, cnt1_no (hit_no2 (by rw [hcl0]; exact hr))]; exact m4⟩ (by repeat (first | exact wkF_e | refine wkF_c rfl ?_)) (wkB_c rfl wkB_e) rfl
    have hlt : e.num.toNat < l.length := by omega
    have hsw := small_get hsm (by omega) (by rw [hcl0]; exact hlt)
    simp only [decide_eq_true hr, go_sem]
    refine regionD_intro (lb := []) (by kernel_rfl) ?_
    simp only [ix_nat hq, go_sem, Nat.reduceBEq]
    refine hsem_vnum tyS3 (hat2'.mono m4.ext) (hr2.mono m4.ext) he (by omega) ?_
    simp only [ix_nat hq, go_sem, Nat.reduceBEq]
    refine hsem_vnum tyS3 (hat2'.mono m4.ext) (hr2.mono m4.ext) he (by omega) ?_
    obtain ⟨ys, hry, haty⟩ := m4.at_
    simp only [ix_int hr.1 hlt, go_sem, Nat.reduceBEq]
    refine hsem_num tyS3 (haty (by omega)) hry (getD_at (d := 0) (by rw [hcl0]; exact hlt)) (by omega) ?_
    simp only [ix_int hr.1 hlt, hsw, go_sem, Nat.reduceBEq]
    obtain ⟨cn, hn', en⟩ := hold_num (es := cv) (b := bo) (cap := l.length) (i := e.num.toNat) (by omega)
    rw [hcl0] at hn'
    obtain ⟨x, hx⟩ := hold_self (es := cv) (i := e.num.toNat) (by omega)
    refine hn'.put1 (h0 := h) (d := .raw (.int .i64 x)) tyS3 rfl rfl (by rw [en, hx]; exact m4) (by omega) fun h5' m5 => ?_
    rw [en] at m5
    try simp only [wsu, go_sem, Nat.reduceBEq]
    exact Again.intro (i + 1) (by first | omega | (simp only; omega)) ⟨hq, by rw [hsn, cnt1_yes (hit_yes h5 (by rw [hcl0]; exact hr))]; exact m5⟩ (by repeat (first | exact wkF_e | refine wkF_c rfl ?_)) (wkB_c rfl wkB_e) rfl
  have hq : i = rs.length := by simp at hq; omega
  subst hq
  rw [List.take_length] at m4
  have hsm0 := (smallC.zero l.length).vals (es := rs)
  try simp only [go_sem, Nat.reduceBEq, Nat.reduceAdd, Nat.reduceLeDiff, Nat.reduceEqDiff, Int.reduceEq, not_false_eq_true, Int.reduceToNat]
  generalize hcv : cntV (List.replicate l.length 0) rs = cv at *
  have hcl : cv.length = l.length := by rw [← hcv, cntV_len, List.length_replicate]
  refine aloop (ι := Nat) (fun i => [(7, .val (.int .i64 (i : Nat))), (5, .val (.slice (some ⟨bo, 0, none⟩) l.length l.length)), (2, .box 2 0)]) (fun _ => [(2, [.slice a1 l.length c1])])
    (fun i h' => i ≤ l.length ∧ My h h' [(.row 1 ((cntBl cv (l.take i)).flatMap idt), .slice (some ⟨bo, 0, none⟩) l.length l.length)]) (fun i => l.length - i) 0
    ⟨Nat.zero_le _, m4⟩ (by repeat (first | exact wkF_e | refine wkF_c rfl ?_)) (wkB_c rfl wkB_e) rfl ?_
  rintro i h5 ⟨hi, m5⟩
  have hi : i ≤ l.length := hi
  have m5 : My h h5 [(.row 1 ((cntBl cv (l.take i)).flatMap idt), .slice (some ⟨bo, 0, none⟩) l.length l.length)] := m5
  have hsm1 := hsm0.blocks (es := l.take i)
  have htk := szG_take (w := Bk.bulk) l i
  try simp only [go_sem, Nat.reduceBEq]
  refine Br.intro (fun hq => ?_) (fun hq => ?_) <;> (try simp only [hq, go_sem, Nat.reduceBEq])
  · have hq : i < l.length := by simpa using hq
    obtain ⟨b1, o1, rfl, hat1'⟩ := hat1 (by omega)
    obtain ⟨b, hbk, hm⟩ := get_lt hq
    have hsb := slots_bulk hbk
    obtain ⟨hsl, hsv⟩ := tab_slots b.tab
    have wsu := wrap_succ (i := i) (by omega)
    simp only [ix_nat hq, go_sem, Nat.reduceBEq, Nat.reduceAdd]
    refine hpure_base m5.ext (hsem_bslots tyS36 hat1' hr1 hbk (by omega) fun u ru => ?_)
    obtain ⟨a4, c4, xs4, rfl, hc4, hr4, hat4⟩ := ru.rows (by decide) b.tab.slots.length (fm_len Sl.dt_len _)
    try simp only [go_sem, Nat.reduceBEq]
    refine aloop (ι := Nat) (fun k => [(9, .val (.int .i64 (k : Nat))), (8, .val (.slice a4 b.tab.slots.length c4)), (7, .val (.int .i64 (i : Nat))), (5, .val (.slice (some ⟨bo, 0, none⟩) l.length l.length)), (2, .box 2 0)]) (fun _ => [(2, [.slice (some ⟨b1, o1, none⟩) l.length c1])])
      (fun k h' => k ≤ b.tab.slots.length ∧ My h h' [(.row 1 ((cntSl (cntBl cv (l.take i)) (b.tab.slots.take k)).flatMap idt), .slice (some ⟨bo, 0, none⟩) l.length l.length)]) (fun k => b.tab.slots.length - k) 0
      ⟨Nat.zero_le _, m5⟩ (by repeat (first | exact wkF_e | refine wkF_c rfl ?_)) (wkB_c rfl wkB_e) rfl ?_
    rintro k h6 ⟨hk, m6⟩
    have hk : k ≤ b.tab.slots.length := hk
    have m6 : My h h6 [(.row 1 ((cntSl (cntBl cv (l.take i)) (b.tab.slots.take k)).flatMap idt), .slice (some ⟨bo, 0, none⟩) l.length l.length)] := m6
    have hsm2 := hsm1.slots (es := b.tab.slots.take k)
    have htk2 : (b.tab.slots.take k).length ≤ b.tab.slots.length := by rw [List.length_take]; omega
    have hcl2 : (cntSl (cntBl cv (l.take i)) (b.tab.slots.take k)).length = l.length := by rw [cntSl_len, cntBl_len, hcl]
    try simp only [go_sem, Nat.reduceBEq]
    refine Br.intro (fun hkb => ?_) (fun hkb => ?_) <;> (try simp only [hkb, go_sem, Nat.reduceBEq, Nat.reduceEqDiff])
    · have hkb : k < b.tab.slots.length := by simpa using hkb
      obtain ⟨b4, o4, rfl, hat4'⟩ := hat4 (by omega)
      obtain ⟨e, he, hme⟩ := get_lt hkb
      have wsk := wrap_succ (i := k) (by omega)
      have hsn := cntSl_snoc (l := cntBl cv (l.take i)) he
      generalize cntSl (cntBl cv (l.take i)) (b.tab.slots.take k) = dv at *
      simp only [ix_nat hkb, go_sem, Nat.reduceBEq, Nat.reduceAdd]
      refine hsem_slive tyS4 (hat4'.mono m6.ext) (hr4.mono m6.ext) he rfl ?_
      cases hv : e.live with
      | false =>
        simp only [wsk, go_sem, Nat.reduceBEq]
        exact Again.intro (k + 1) (by first | omega | (simp only; omega)) ⟨hkb, by rw [hsn, hv]; exact m6⟩ (by repeat (first | exact wkF_e | refine wkF_c rfl ?_)) (wkB_c rfl wkB_e) rfl
      | true =>
      simp only [ix_nat hkb, go_sem, Nat.reduceBEq, Nat.reduceAdd]
      refine hsem_skind tyS3 (hat4'.mono m6.ext) (hr4.mono m6.ext) he (by omega) ?_
      by_cases h5 : e.val.kind = 5
      case neg =>
        simp only [decide_eq_false h5, wsk, go_sem, Nat.reduceBEq]
        exact Again.intro (k + 1) (by first | omega | (simp only; omega)) ⟨hkb, by rw [hsn, hv, if_pos rfl, cnt1_no (hit_no1 h5)]; exact m6⟩ (by repeat (first | exact wkF_e | refine wkF_c rfl ?_)) (wkB_c rfl wkB_e) rfl
      simp only [decide_eq_true h5, ix_nat hkb, go_sem, Nat.reduceBEq, Nat.reduceAdd]
      refine hsem_snum tyS3 (hat4'.mono m6.ext) (hr4.mono m6.ext) he (by omega) ?_
      simp only [hw, go_sem, Nat.reduceBEq]
      (refine (l1In_c _ _ _ _).mono ?_; rintro _ _ ⟨rfl, rfl⟩; simp only [go_sem, Nat.reduceBEq])
      by_cases hr : 0 ≤ e.val.num ∧ e.val.num ≤ (l.length : Int) - 1
      case neg =>
        simp only [decide_eq_false hr, wsk, go_sem, Nat.reduceBEq]
        exact Again.intro (k + 1) (by first | omega | (simp only; omega)) ⟨hkb, by rw [hsn, hv, if_pos rfl, cnt1_no (hit_no2 (by rw [hcl2]; exact hr))]; exact m6⟩ (by repeat (first | exact wkF_e | refine wkF_c rfl ?_)) (wkB_c rfl wkB_e) rfl
      have hlt : e.val.num.toNat < l.length := by omega
      have hsw := small_get hsm2 (by omega) (by rw [hcl2]; exact hlt)
      simp only [decide_eq_true hr, go_sem]
      refine regionD_intro (lb := []) (by kernel_rfl) ?_
      simp only [ix_nat hkb, go_sem, Nat.reduceBEq, Nat.reduceAdd]
      refine hsem_snum tyS3 (hat4'.mono m6.ext) (hr4.mono m6.ext) he (by omega) ?_
      simp only [ix_nat hkb, go_sem, Nat.reduceBEq, Nat.reduceAdd]
      refine hsem_snum tyS3 (hat4'.mono m6.ext) (hr4.mono m6.ext) he (by omega) ?_
      obtain ⟨ys, hry, haty⟩ := m6.at_
      simp only [ix_int hr.1 hlt, go_sem, Nat.reduceBEq]
      refine hsem_num tyS3 (haty (by omega)) hry (getD_at (d := 0) (by rw [hcl2]; exact hlt)) (by omega) ?_
      simp only [ix_int hr.1 hlt, hsw, go_sem, Nat.reduceBEq]
      obtain ⟨cn, hn', en⟩ := hold_num (es := dv) (b := bo) (cap := l.length) (i := e.val.num.toNat) (by omega)
      rw [hcl2] at hn'
      obtain ⟨x, hx⟩ := hold_self (es := dv) (i := e.val.num.toNat) (by omega)
      refine hn'.put1 (h0 := h) (d := .raw (.int .i64 x)) tyS3 rfl rfl (by rw [en, hx]; exact m6) (by omega) fun h7 m7 => ?_
      rw [en] at m7
      try simp only [wsk, go_sem, Nat.reduceBEq]
      exact Again.intro (k + 1) (by first | omega | (simp only; omega)) ⟨hkb, by rw [hsn, hv, if_pos rfl, cnt1_yes (hit_yes h5 (by rw [hcl2]; exact hr))]; exact m7⟩ (by repeat (first | exact wkF_e | refine wkF_c rfl ?_)) (wkB_c rfl wkB_e) rfl
    · have hkb : k = b.tab.slots.length := by simp at hkb; omega
      subst hkb
      rw [List.take_length, ← cntBl_snoc hbk] at m6
      simp only [wsu, go_sem]
      exact Again.intro (i + 1) (by first | omega | (simp only; omega)) ⟨hq, m6⟩ (by repeat (first | exact wkF_e | refine wkF_c rfl ?_)) (wkB_c rfl wkB_e) rfl
  · have hq : i = l.length := by simp at hq; omega
    subst hq
    rw [List.take_length] at m5
    try simp only [go_sem, Nat.reduceBEq, Nat.reduceAdd, Nat.reduceLeDiff, Nat.reduceEqDiff, Int.reduceEq, not_false_eq_true, Int.reduceToNat]
    have hcc : counts l rs = cntBl cv l := by unfold counts; rw [hcv]
    have hl2 : (cntBl cv l).length = l.length := by rw [cntBl_len, hcl]
    refine ⟨some ⟨bo, 0, none⟩, l.length, ?_, ?_⟩
    · rw [hcc, hl2]
    · rw [hcc, hl2]
      exact m5
end Go.Proofs.YtccjkhnefiikaaaGreatDoor
namespace Go.Proofs.YtccjkhnefiikaaaGreatDoor
set_option maxRecDepth 8000
open Go Go.Sx
set_option maxHeartbeats 800000 in
theorem iIsCounted (l : List Bk) (rs : List V) (hb : szG Bk.bulk l ≤ 1048576) (hbr : szG V.bulk rs ≤ 1048576) (s u : Value) (h : Hp) (r1 : RdB h l s) (r2 : Rd h (.row 5 (rs.flatMap V.dt)) u) (hE : Env h) : ACalls Tryz.prog 9 #[.agg #[s], u] h (Is (.bool (countedB l rs)) h) := by
  have hlen := szG_len (w := Bk.bulk) l
  have hlr := szG_len (w := V.bulk) rs
  obtain ⟨a1, c1, xs1, rfl, hc1, hr1, hat1⟩ := r1.rows (by decide) l.length (fm_len Bk.dt_len _)
  obtain ⟨a2, c2, xs2, rfl, hc2, hr2, hat2⟩ := r2.rows (by decide) rs.length (fm_len V.dt_len _)
  (refine enter Tryz.func9 rfl rfl (by kernel_rfl) [] ?_; simp only [go_sem, Nat.reduceBEq, Nat.reduceLeDiff])
  refine (iIsHeap l hb _ _ r1 hE).mono ?_
  rintro _ h1 ⟨rfl, e1⟩
  cases hH : heapB l with
  | false =>
    simp only [Bool.not_false, go_sem, Nat.reduceBEq]
    exact ⟨by rw [counted_no1 hH], e1⟩
  | true =>
  simp only [Bool.not_true, go_sem, Nat.reduceBEq]
  refine aloop (ι := Nat) (fun i => [(14, .val (.int .i64 (i : Nat))), (13, .val (.int .i64 (rs.length : Nat))), (12, .val (.slice a2 rs.length c2)), (1, .val (.slice a2 rs.length c2)), (2, .box 2 0)]) (fun _ => [(2, [.slice a1 l.length c1])])
    (fun i h' => i ≤ rs.length ∧ Ext h h' ∧ ∀ (j : Nat) (v : V), j < i → rs[j]? = some v → isHeld l v = true) (fun i => rs.length - i) 0
    ⟨Nat.zero_le _, e1, fun j v hj => by omega⟩ (by repeat (first | exact wkF_e | refine wkF_c rfl ?_)) (wkB_c rfl wkB_e) rfl ?_
  rintro i h2 ⟨hi, e2, pr⟩
  have hi : i ≤ rs.length := hi
  have pr : ∀ (j : Nat) (v : V), j < i → rs[j]? = some v → isHeld l v = true := pr
  try simp only [go_sem, Nat.reduceBEq]
  refine Br.intro (fun hq => ?_) (fun hq => ?_) <;> (try simp only [hq, go_sem, Nat.reduceBEq, Nat.reduceLeDiff])
  · have hq : i < rs.length := by simpa using hq
    obtain ⟨b2, o2, rfl, hat2'⟩ := hat2 (by omega)
    obtain ⟨e, he, hm⟩ := get_lt hq
    have wsu := wrap_succ (i := i) (by omega)
    have hbe := szG_mem (w := V.bulk) hm
    simp only [ix_nat hq, go_sem, Nat.reduceBEq]
    refine hsem_vrow tyS49 (hat2'.mono e2) (hr2.mono e2) he rfl fun s2 rd2 => ?_
    obtain ⟨a5, c5, _, rfl, _⟩ := rd2.rows (by decide) e.items.length (fm_len edt_len _)
    try simp only [go_sem, Nat.reduceBEq, Nat.reduceAdd, Nat.reduceLeDiff]
    refine (iIsHeld l e (by omega) (by omega) _ _ _ (r1.mono e2) rd2 (hE.ext e2)).mono ?_
    rintro _ h3 ⟨rfl, e3⟩
    cases hhd : isHeld l e with
    | false =>
      simp only [Bool.not_false, go_sem, Nat.reduceBEq]
      exact ⟨by rw [counted_no2 hm hhd], e2.trans e3⟩
    | true =>
      simp only [Bool.not_true, wsu, go_sem, Nat.reduceBEq]
      refine Again.intro (i + 1) (by first | omega | (simp only; omega)) ⟨hq, e2.trans e3, fun j v hj hv => ?_⟩ (by repeat (first | exact wkF_e | refine wkF_c rfl ?_)) (wkB_c rfl wkB_e) rfl
      by_cases hji : j = i
      · subst hji
        rw [he] at hv
        cases hv
        exact hhd
      · exact pr j v (by omega) hv
  have hq : i = rs.length := by simp at hq; omega
  subst hq
  have hall : ∀ v ∈ rs, isHeld l v = true := fun v hv => by
    obtain ⟨j, hj⟩ := List.getElem?_of_mem hv
    exact pr j v (lt_of_get hj) hj
  try simp only [go_sem, Nat.reduceBEq, Nat.reduceAdd, Nat.reduceLeDiff, Nat.reduceEqDiff, Int.reduceEq, not_false_eq_true, Int.reduceToNat]
  refine (iCountRefs l rs hb hbr _ _ _ (r1.mono e2) (r2.mono e2)).mono ?_
  rintro _ h3 ⟨a3, c3, rfl, m3⟩
  have hcl := counts_len l rs
  obtain ⟨_, _, e5, _, _, hat3⟩ := m3.row_shape (by decide) (counts l rs).length (fm_len idt_len _)
  cases e5
  have e3 := e2.trans m3.ext
  try simp only [go_sem, Nat.reduceBEq]
  refine aloop (ι := Nat) (fun i => [(27, .val (.int .i64 (i : Nat))), (26, .val (.int .i64 ((counts l rs).length : Nat))), (25, .val (.slice a3 (counts l rs).length c3)), (2, .box 2 0)]) (fun _ => [(2, [.slice a1 l.length c1])])
    (fun i h' => i ≤ (counts l rs).length ∧ h' = h3 ∧ ∀ j, j < i → (blk l j).count = (counts l rs).getD j 0) (fun i => (counts l rs).length - i) 0
    ⟨Nat.zero_le _, rfl, fun j hj => by omega⟩ (by repeat (first | exact wkF_e | refine wkF_c rfl ?_)) (wkB_c rfl wkB_e) rfl ?_
  rintro i _ ⟨hi, rfl, ps⟩
  have hi : i ≤ (counts l rs).length := hi
  have ps : ∀ j, j < i → (blk l j).count = (counts l rs).getD j 0 := ps
  try simp only [go_sem, Nat.reduceBEq]
  refine Br.intro (fun hq => ?_) (fun hq => ?_) <;> (try simp only [hq, go_sem, Nat.reduceBEq])
  · have hq : i < (counts l rs).length := by simpa using hq
    obtain ⟨b3, rfl⟩ := hat3 (by omega)
    obtain ⟨b1, o1, rfl, hat1'⟩ := hat1 (by omega)
    obtain ⟨ys, hry, haty⟩ := m3.at_
    have wsu := wrap_succ (i := i) (by omega)
    have hil : i < l.length := by omega
    simp only [ix_nat hq, go_sem, Nat.reduceBEq]
    refine hsem_num tyS3 (haty (by omega)) hry (getD_at (d := 0) hq) (by omega) ?_
    simp only [ix_nat hil, go_sem, Nat.reduceBEq]
    refine hsem_bcnt tyS3 (hat1'.mono e3) (hr1.mono e3) (blk_at hil) rfl ?_
    by_cases heq : (blk l i).count = (counts l rs).getD i 0
    · simp only [decide_eq_true heq, Bool.not_true, wsu, go_sem, Nat.reduceBEq]
      refine Again.intro (i + 1) (by first | omega | (simp only; omega)) ⟨hq, rfl, fun j hj => ?_⟩ (by repeat (first | exact wkF_e | refine wkF_c rfl ?_)) (wkB_c rfl wkB_e) rfl
      by_cases hji : j = i
      · subst hji; exact heq
      · exact ps j (by omega)
    · simp only [decide_eq_false heq, Bool.not_false, go_sem, Nat.reduceBEq]
      exact ⟨by rw [counted_no3 (Bool.eq_false_iff.2 fun k => heq (sameC_iff.1 k i hq))], e3⟩
  · have hq : i = (counts l rs).length := by simp at hq; omega
    subst hq
    try simp only [go_sem, Nat.reduceBEq, Nat.reduceAdd, Nat.reduceLeDiff, Nat.reduceEqDiff, Int.reduceEq, not_false_eq_true, Int.reduceToNat]
    exact ⟨by rw [counted_yes hH hall (sameC_iff.2 ps)], e3⟩
set_option maxHeartbeats 800000 in
theorem sIsCounted (l : List Bk) (rs : List V) (hb : szG Bk.bulk l ≤ 1048576) (hbr : szG V.bulk rs ≤ 1048576) (s u : Value) (h : Hp) (r1 : RdB h l s) (r2 : Rd h (.row 5 (rs.flatMap V.dt)) u) : ACalls Tryz.prog 6 #[.agg #[s], u] h (Is (.bool (countedB l rs)) h) := by
  have hlen := szG_len (w := Bk.bulk) l
  have hlr := szG_len (w := V.bulk) rs
  obtain ⟨a1, c1, xs1, rfl, hc1, hr1, hat1⟩ := r1.rows (by decide) l.length (fm_len Bk.dt_len _)
  obtain ⟨a2, c2, xs2, rfl, hc2, hr2, hat2⟩ := r2.rows (by decide) rs.length (fm_len V.dt_len _)
  (refine enter Tryz.func6 rfl rfl (by kernel_rfl) [] ?_; simp only [go_sem, Nat.reduceBEq, Nat.reduceLeDiff])
  refine (sCounts l rs hb hbr _ _ _ r1 r2).mono ?_
  rintro _ h3 ⟨a3, c3, rfl, m3⟩
  have hcl := counts_len l rs
  obtain ⟨_, _, e5, _, _, hat3⟩ := m3.row_shape (by decide) (counts l rs).length (fm_len idt_len _)
  cases e5
  have e3 := m3.ext
  try simp only [go_sem, Nat.reduceBEq]
  refine aloop (ι := Nat) (fun i => [(6, .val (.int .i64 (i : Nat))), (5, .val (.slice a3 (counts l rs).length c3)), (1, .val (.slice a2 rs.length c2)), (2, .box 2 0)]) (fun _ => [(2, [.slice a1 l.length c1])])
    (fun i h' => i ≤ (counts l rs).length ∧ h' = h3 ∧ ∀ j, j < i → (blk l j).count = (counts l rs).getD j 0) (fun i => (counts l rs).length - i) 0
    ⟨Nat.zero_le _, rfl, fun j hj => by omega⟩ (by repeat (first | exact wkF_e | refine wkF_c rfl ?_)) (wkB_c rfl wkB_e) rfl ?_
  rintro i _ ⟨hi, rfl, ps⟩
  have hi : i ≤ (counts l rs).length := hi
  have ps : ∀ j, j < i → (blk l j).count = (counts l rs).getD j 0 := ps
  try simp only [go_sem, Nat.reduceBEq]
  refine Br.intro (fun hq => ?_) (fun hq => ?_) <;> (try simp only [hq, go_sem])
  · have hq : i < (counts l rs).length := by simpa using hq
    obtain ⟨b3, rfl⟩ := hat3 (by omega)
    obtain ⟨b1, o1, rfl, hat1'⟩ := hat1 (by omega)
    obtain ⟨ys, hry, haty⟩ := m3.at_
    have wsu := wrap_succ (i := i) (by omega)
    have hil : i < l.length := by omega
    refine regionD_intro (lb := [22]) (by kernel_rfl) ?_
    simp only [ix_nat hq, go_sem, Nat.reduceBEq]
    refine hsem_num tyS3 (haty (by omega)) hry (getD_at (d := 0) hq) (by omega) ?_
    simp only [ix_nat hil, go_sem, Nat.reduceBEq]
    refine hsem_bcnt tyS3 (hat1'.mono e3) (hr1.mono e3) (blk_at hil) rfl ?_
    by_cases heq : (blk l i).count = (counts l rs).getD i 0
    · simp only [decide_eq_true heq.symm, Bool.not_true, wsu, go_sem, Nat.reduceBEq]
      refine Again.intro (i + 1) (by first | omega | (simp only; omega)) ⟨hq, rfl, fun j hj => ?_⟩ (by repeat (first | exact wkF_e | refine wkF_c rfl ?_)) (wkB_c rfl wkB_e) rfl
      by_cases hji : j = i
      · subst hji; exact heq
      · exact ps j (by omega)
    · simp only [decide_eq_false (fun q => heq (Eq.symm q)), Bool.not_false, go_sem, Nat.reduceBEq]
      exact ⟨by rw [counted_no3 (Bool.eq_false_iff.2 fun k => heq (sameC_iff.1 k i hq))], e3⟩
  have hq : i = (counts l rs).length := by simp at hq; omega
  subst hq
  try simp only [go_sem, Nat.reduceBEq, Nat.reduceAdd, Nat.reduceLeDiff, Nat.reduceEqDiff, Int.reduceEq, not_false_eq_true, Int.reduceToNat]
  refine aloop (ι := Nat) (fun i => [(7, .val (.int .i64 (i : Nat))), (1, .val (.slice a2 rs.length c2)), (2, .box 2 0)]) (fun _ => [(2, [.slice a1 l.length c1])])
    (fun i h' => i ≤ rs.length ∧ Ext h h' ∧ ∀ (j : Nat) (v : V), j < i → rs[j]? = some v → isHeld l v = true) (fun i => rs.length - i) 0
    ⟨Nat.zero_le _, e3, fun j v hj => by omega⟩ (by repeat (first | exact wkF_e | refine wkF_c rfl ?_)) (wkB_c rfl wkB_e) rfl ?_
  rintro i h2 ⟨hi, e2, pr⟩
  have hi : i ≤ rs.length := hi
  have pr : ∀ (j : Nat) (v : V), j < i → rs[j]? = some v → isHeld l v = true := pr
  try simp only [go_sem, Nat.reduceBEq]
  refine Br.intro (fun hq => ?_) (fun hq => ?_) <;> (try simp only [hq, go_sem, Nat.reduceBEq, Nat.reduceLeDiff])
  · have hq : i < rs.length := by simpa using hq
    obtain ⟨b2, o2, rfl, hat2'⟩ := hat2 (by omega)
    obtain ⟨e, he, hm⟩ := get_lt hq
    have wsu := wrap_succ (i := i) (by omega)
    have hbe := szG_mem (w := V.bulk) hm
    refine regionD_intro (lb := [34]) (by kernel_rfl) ?_
    simp only [ix_nat hq, go_sem, Nat.reduceBEq, Nat.reduceLeDiff]
    refine hsem_vrow tyS49 (hat2'.mono e2) (hr2.mono e2) he rfl fun s2 rd2 => ?_
    obtain ⟨a5, c5, _, rfl, _⟩ := rd2.rows (by decide) e.items.length (fm_len edt_len _)
    try simp only [go_sem, Nat.reduceBEq]
    refine (sIsHeld l e (by omega) (by omega) _ _ _ (r1.mono e2) rd2).mono ?_
    rintro _ h4 ⟨rfl, e4⟩
    cases hhd : isHeld l e with
    | false =>
      simp only [Bool.not_false, go_sem, Nat.reduceBEq]
      exact ⟨by rw [counted_no2 hm hhd], e2.trans e4⟩
    | true =>
      simp only [Bool.not_true, wsu, go_sem, Nat.reduceBEq]
      refine Again.intro (i + 1) (by first | omega | (simp only; omega)) ⟨hq, e2.trans e4, fun j v hj hv => ?_⟩ (by repeat (first | exact wkF_e | refine wkF_c rfl ?_)) (wkB_c rfl wkB_e) rfl
      by_cases hji : j = i
      · subst hji
        rw [he] at hv
        cases hv
        exact hhd
      · exact pr j v (by omega) hv
  have hq : i = rs.length := by simp at hq; omega
  subst hq
  have hall : ∀ v ∈ rs, isHeld l v = true := fun v hv => by
    obtain ⟨j, hj⟩ := List.getElem?_of_mem hv
    exact pr j v (lt_of_get hj) hj
  try simp only [go_sem, Nat.reduceBEq, Nat.reduceAdd, Nat.reduceLeDiff, Nat.reduceEqDiff, Int.reduceEq, not_false_eq_true, Int.reduceToNat]
  refine (sIsHeap l hb _ _ (r1.mono e2)).mono ?_
  rintro _ h5 ⟨rfl, e5⟩
  try simp only [go_sem, Nat.reduceBEq]
  refine ⟨?_, e2.trans e5⟩
  cases hH : heapB l with
  | false => rw [counted_no1 hH]
  | true => rw [counted_yes hH hall (sameC_iff.2 ps)]
end Go.Proofs.YtccjkhnefiikaaaGreatDoor
namespace Go.Proofs.YtccjkhnefiikaaaGreatDoor
set_option maxRecDepth 8000
open Go Go.Sx
def DropI (N f : Nat) : Prop := ∀ (l : List Bk) (v : V), slotsN l < f → hIn N 1099511627776 l → refIn N v → ∀ (av : Option Addr) (nv cv : Nat) (a : Option Addr) (n bp : Nat) (R : Bag) (h0 h : Hp), My h0 h (HpB l a n bp R) → ACalls Tryz.prog 19 #[.pointer (some ⟨bp, 0, none⟩), .agg #[.int .i64 v.kind, .int .i64 v.num, .string v.str, .int .i64 v.next, .slice av nv cv]] h (HpW h0 (dropF f l v) a n bp R)
set_option maxHeartbeats 1600000 in
theorem iDrop_s (N f : Nat) (ih : DropI N f) (hf : f + 1 ≤ 1099511627776) : DropI N (f + 1) := by
  intro l v hs hin hr av nv cv a n bp R h0 h my
  have hl := hin.len
  (refine enter Tryz.func19 rfl rfl (by kernel_rfl) [] ?_; simp only [go_sem, Nat.reduceBEq])
  by_cases h5 : v.kind = 5
  case neg =>
    simp only [decide_eq_false h5, Bool.not_false, go_sem]
    exact ⟨rfl, by rw [dropF_other h5]; exact my⟩
  obtain ⟨q1, q2⟩ := hr h5
  obtain ⟨⟨w1, w2⟩, kids⟩ := hin.blk q2
  rw [← hl] at q2
  have hw : IntKind.i64.wrap ((blk l v.num.toNat).count - 1) = (blk l v.num.toNat).count - 1 := IntWalk.i64_in _ (by omega)
  have my : My h0 h ((.row 6 (l.flatMap Bk.dt), .slice a l.length n) :: (.ptr [] [.raw (.slice a l.length n)] [], .pointer (some ⟨bp, 0, none⟩)) :: R) := my
  obtain ⟨_, _, es, _, _, hat⟩ := my.row_shape (by decide) l.length (fm_len Bk.dt_len _)
  cases es
  obtain ⟨b, rfl⟩ := hat (by omega)
  simp only [decide_eq_true h5, Bool.not_true, go_sem]
  refine regionD_intro (lb := [15]) (by kernel_rfl) ?_
  simp only [go_sem, Nat.reduceBEq]
  refine Hold.ld1 (i := 0) Hold.ptr tyS24 my.swap rfl rfl ?_
  simp only [ix_int q1 q2, go_sem, Nat.reduceBEq]
  refine bcnt_ld q2 tyS3 my (by omega) ?_
  simp only [ix_int q1 q2, hw, go_sem, Nat.reduceBEq]
  refine bcnt_st _ q2 tyS3 my (by omega) fun h2 m2 => ?_
  have hlen1 : (l.set v.num.toNat ((blk l v.num.toNat).withC ((blk l v.num.toNat).count - 1))).length = l.length := List.length_set
  have hb1 : blk (l.set v.num.toNat ((blk l v.num.toNat).withC ((blk l v.num.toNat).count - 1))) v.num.toNat = (blk l v.num.toNat).withC ((blk l v.num.toNat).count - 1) := blk_set_same q2
  have hl2 : (l.set v.num.toNat ((blk l v.num.toNat).withC ((blk l v.num.toNat).count - 1))).set v.num.toNat bk0 = l.set v.num.toNat bk0 := List.set_set _
  have hkeep := dropF_keep (f := f) (l := l) h5
  generalize l.set v.num.toNat ((blk l v.num.toNat).withC ((blk l v.num.toNat).count - 1)) = l1 at *
  have q3 : v.num.toNat < l1.length := by omega
  rw [← hlen1] at m2
  try simp only [go_sem]
  try rw [← hlen1]
  refine regionD_intro (lb := [27]) (by kernel_rfl) ?_
  simp only [go_sem, Nat.reduceBEq]
  refine Hold.ld1 (i := 0) Hold.ptr tyS24 m2.swap rfl rfl ?_
  simp only [ix_int q1 q3, go_sem, Nat.reduceBEq]
  refine bcnt_ld q3 tyS3 m2 (by omega) ?_
  rw [show (blk l1 v.num.toNat).count = (blk l v.num.toNat).count - 1 by rw [hb1]; rfl]
  try simp only [go_sem, Nat.reduceBEq]
  refine Br.intro (fun hp => ?_) (fun hp => ?_) <;> (try simp only [hp, go_sem])
  · have hp : 0 < (blk l v.num.toNat).count - 1 := by simpa using hp
    refine ⟨rfl, ?_⟩
    rw [hkeep hp]
    exact m2
  have hp : ¬ 0 < (blk l v.num.toNat).count - 1 := by simpa using hp
  rw [dropF_gone h5 hp]
  refine regionD_intro (lb := [37]) (by kernel_rfl) ?_
  simp only [go_sem, Nat.reduceBEq]
  refine Hold.ld1 (i := 0) Hold.ptr tyS24 m2.swap rfl rfl ?_
  obtain ⟨c, ah, nh, as0, ns, hd, hc, m3⟩ := bk_open q3 m2
  rw [show (blk l1 v.num.toNat).tab = (blk l v.num.toNat).tab by rw [hb1]; rfl] at m3
  generalize htt : (blk l v.num.toNat).tab = t at *
  simp only [ix_int q1 q3, go_sem, Nat.reduceBEq]
  refine hd.loadN (i := 1) (ds := [.raw (.bool t.hashed), .raw (.slice ah t.heads.length nh), .raw (.slice as0 t.slots.length ns), .raw (.int .i64 t.next), .raw (.int .i64 t.count)]) tyS38 m3.third (by unfold bkraws; rw [show (blk l1 v.num.toNat).tab = t by rw [hb1]; exact htt]; rfl) rfl (by omega) fun ys r => ?_
  obtain rfl : ys = [.bool t.hashed, .slice ah t.heads.length nh, .slice as0 t.slots.length ns, .int .i64 t.next, .int .i64 t.count] := RdL.of_raws (us := [.bool t.hashed, .slice ah t.heads.length nh, .slice as0 t.slots.length ns, .int .i64 t.next, .int .i64 t.count]) r
  try simp only [go_sem, Nat.reduceBEq, Nat.reduceAdd, Nat.reduceLeDiff]
  refine regionD_intro (lb := [46]) (by kernel_rfl) ?_
  simp only [go_sem, Nat.reduceBEq]
  refine Hold.ld1 (i := 0) Hold.ptr tyS24 m3.fourth rfl rfl ?_
  simp only [ix_int q1 q3, go_sem, Nat.reduceBEq]
  refine bk_store hd (u := bk0) tyS40 rfl ((m3.third.nilrow (z := 10)).nilrow (z := 1)) (by omega) fun h4 m4 => ?_
  have hs0 := slotsN_set (l := l) q2 bk0
  have hs1 : bk0.tab.slots.length = 0 := rfl
  rw [htt] at hs0
  have hin2 : hIn N 1099511627776 (l.set v.num.toNat bk0) := hin.set _ (.inr rfl) ⟨Int.le_refl _, by decide⟩
  rw [hc, hl2, hlen1] at m4
  have hlen2 : (l.set v.num.toNat bk0).length = l.length := List.length_set
  generalize l.set v.num.toNat bk0 = l2 at *
  rw [← hlen2] at m4
  have m4 : My h0 h4 (HpB l2 (some ⟨b, 0, none⟩) n bp ((.row 1 (t.heads.flatMap idt), .slice ah t.heads.length nh) :: (.row 10 (t.slots.flatMap Sl.dt), .slice as0 t.slots.length ns) :: R)) := m4.fourth.swap
  try simp only [go_sem, Nat.reduceBEq]
  refine aloop (ι := Nat) (fun k => [(52, .val (.int .i64 (k : Nat))), (51, .val (.int .i64 (t.slots.length : Nat))), (50, .val (.slice as0 t.slots.length ns)), (0, .val (.pointer (some ⟨bp, 0, none⟩)))]) (fun _ => [])
    (fun k h' => k ≤ t.slots.length ∧ My h0 h' (HpB (dropS (dropF f) l2 (t.slots.take k)) (some ⟨b, 0, none⟩) n bp ((.row 1 (t.heads.flatMap idt), .slice ah t.heads.length nh) :: (.row 10 (t.slots.flatMap Sl.dt), .slice as0 t.slots.length ns) :: R))) (fun k => t.slots.length - k) 0
    ⟨Nat.zero_le _, m4⟩ (by repeat (first | exact wkF_e | refine wkF_c rfl ?_)) wkB_e rfl ?_
  rintro k h6 ⟨hk, m6⟩
  have hk : k ≤ t.slots.length := hk
  have m6 : My h0 h6 (HpB (dropS (dropF f) l2 (t.slots.take k)) (some ⟨b, 0, none⟩) n bp ((.row 1 (t.heads.flatMap idt), .slice ah t.heads.length nh) :: (.row 10 (t.slots.flatMap Sl.dt), .slice as0 t.slots.length ns) :: R)) := m6
  try simp only [go_sem, Nat.reduceBEq]
  refine Br.intro (fun hq => ?_) (fun hq => ?_) <;> (try simp only [hq, go_sem, Nat.reduceBEq])
  · have hq : k < t.slots.length := by simpa using hq
    obtain ⟨e, he, hme⟩ := get_lt hq
    have wsu := wrap_succ (i := k) (by omega)
    have rs : Rd h6 (.row 10 (t.slots.flatMap Sl.dt)) (.slice as0 t.slots.length ns) := m6.fourth.rd
    obtain ⟨_, _, xs, eq, _, hrs, hats⟩ := rs.rows (by decide) t.slots.length (fm_len Sl.dt_len _)
    cases eq
    obtain ⟨b4, o4, rfl, hatq⟩ := hats (by omega)
    have hsub : ∀ s ∈ t.slots.take k, s.live = true → s.val.kind = 5 → 0 ≤ s.val.num ∧ s.val.num.toNat < N := fun s q => kids s (List.mem_of_mem_take q)
    obtain ⟨i1, i2⟩ := drops_in f (t.slots.take k) l2 hsub hin2
    simp only [ix_nat hq, go_sem, Nat.reduceBEq]
    refine hsem_slot tyS59 hatq hrs he rfl fun s5 rd5 => ?_
    obtain ⟨a6, c6, _, rfl, _⟩ := rd5.rows (by decide) e.val.items.length (fm_len edt_len _)
    cases hv : e.live with
    | false =>
      try simp only [wsu, go_sem, Nat.reduceBEq, Nat.reduceAdd, Nat.reduceLeDiff]
      exact Again.intro (k + 1) (by first | omega | (simp only; omega)) ⟨hq, by rw [dropS_snoc he, hv]; exact m6⟩ (by repeat (first | exact wkF_e | refine wkF_c rfl ?_)) wkB_e rfl
    | true =>
      try simp only [go_sem, Nat.reduceBEq, Nat.reduceAdd, Nat.reduceLeDiff]
      refine (ih _ e.val (by omega) i1 (fun q => kids e hme hv q) _ _ _ _ _ _ _ h0 _ m6).mono ?_
      rintro _ h7 ⟨rfl, m7⟩
      try simp only [wsu, go_sem, Nat.reduceBEq]
      exact Again.intro (k + 1) (by first | omega | (simp only; omega)) ⟨hq, by rw [dropS_snoc he, hv, if_pos rfl]; exact m7⟩ (by repeat (first | exact wkF_e | refine wkF_c rfl ?_)) wkB_e rfl
  · have hq : k = t.slots.length := by simp at hq; omega
    subst hq
    rw [List.take_length] at m6
    try simp only [go_sem, Nat.reduceBEq, Nat.reduceAdd, Nat.reduceLeDiff, Nat.reduceEqDiff, Int.reduceEq, not_false_eq_true, Int.reduceToNat]
    exact ⟨rfl, m6.third.drop.third.drop⟩
theorem iDrop (N : Nat) : ∀ f, f ≤ 1099511627776 → DropI N f
  | 0, _ => fun l v hs => absurd hs (Nat.not_lt_zero _)
  | f + 1, hf => iDrop_s N f (iDrop N f (by omega)) hf
def DropS (N f : Nat) : Prop := ∀ (l : List Bk) (v : V), slotsN l < f → hIn N 1099511627776 l → refIn N v → ∀ (av : Option Addr) (nv cv : Nat) (a : Option Addr) (n bp : Nat) (R : Bag) (h0 h : Hp), My h0 h (HpB l a n bp R) → ACalls Tryz.prog 44 #[.pointer (some ⟨bp, 0, none⟩), .agg #[.int .i64 v.kind, .int .i64 v.num, .string v.str, .int .i64 v.next, .slice av nv cv]] h (HpW h0 (dropF f l v) a n bp R)
set_option maxHeartbeats 1600000 in
theorem sDrop_s (N f : Nat) (ih : DropS N f) (hf : f + 1 ≤ 1099511627776) : DropS N (f + 1) := by
  intro l v hs hin hr av nv cv a n bp R h0 h my
  have hl := hin.len
  (refine enter Tryz.func44 rfl rfl (by kernel_rfl) [] ?_; simp only [go_sem, Nat.reduceBEq])
  by_cases h5 : v.kind = 5
  case neg =>
    simp only [decide_eq_false h5, Bool.not_false, go_sem]
    exact ⟨rfl, by rw [dropF_other h5]; exact my⟩
  obtain ⟨q1, q2⟩ := hr h5
  obtain ⟨⟨w1, w2⟩, kids⟩ := hin.blk q2
  rw [← hl] at q2
  have hw : IntKind.i64.wrap ((blk l v.num.toNat).count - 1) = (blk l v.num.toNat).count - 1 := IntWalk.i64_in _ (by omega)
  have my : My h0 h ((.row 6 (l.flatMap Bk.dt), .slice a l.length n) :: (.ptr [] [.raw (.slice a l.length n)] [], .pointer (some ⟨bp, 0, none⟩)) :: R) := my
  obtain ⟨_, _, es, _, _, hat⟩ := my.row_shape (by decide) l.length (fm_len Bk.dt_len _)
  cases es
  obtain ⟨b, rfl⟩ := hat (by omega)
  simp only [decide_eq_true h5, Bool.not_true, go_sem]
  refine regionD_intro (lb := [14, 20]) (by kernel_rfl) ?_
  simp only [go_sem, Nat.reduceBEq]
  refine Hold.ld1 (i := 0) Hold.ptr tyS24 my.swap rfl rfl ?_
  simp only [go_sem, Nat.reduceBEq]
  refine Hold.ld1 (i := 0) Hold.ptr tyS24 my.swap rfl rfl ?_
  simp only [ix_int q1 q2, go_sem, Nat.reduceBEq]
  refine bcnt_ld q2 tyS3 my (by omega) ?_
  simp only [ix_int q1 q2, hw, go_sem, Nat.reduceBEq]
  refine bcnt_st _ q2 tyS3 my (by omega) fun h2 m2 => ?_
  have hlen1 : (l.set v.num.toNat ((blk l v.num.toNat).withC ((blk l v.num.toNat).count - 1))).length = l.length := List.length_set
  have hb1 : blk (l.set v.num.toNat ((blk l v.num.toNat).withC ((blk l v.num.toNat).count - 1))) v.num.toNat = (blk l v.num.toNat).withC ((blk l v.num.toNat).count - 1) := blk_set_same q2
  have hl2 : (l.set v.num.toNat ((blk l v.num.toNat).withC ((blk l v.num.toNat).count - 1))).set v.num.toNat bk0 = l.set v.num.toNat bk0 := List.set_set _
  have hkeep := dropF_keep (f := f) (l := l) h5
  generalize l.set v.num.toNat ((blk l v.num.toNat).withC ((blk l v.num.toNat).count - 1)) = l1 at *
  have q3 : v.num.toNat < l1.length := by omega
  rw [← hlen1] at m2
  try simp only [go_sem]
  try rw [← hlen1]
  refine regionD_intro (lb := [32]) (by kernel_rfl) ?_
  simp only [go_sem, Nat.reduceBEq]
  refine Hold.ld1 (i := 0) Hold.ptr tyS24 m2.swap rfl rfl ?_
  simp only [ix_int q1 q3, go_sem, Nat.reduceBEq]
  refine bcnt_ld q3 tyS3 m2 (by omega) ?_
  rw [show (blk l1 v.num.toNat).count = (blk l v.num.toNat).count - 1 by rw [hb1]; rfl]
  try simp only [go_sem, Nat.reduceBEq]
  refine Br.intro (fun hp => ?_) (fun hp => ?_) <;> (try simp only [hp, go_sem])
  · have hp : 0 < (blk l v.num.toNat).count - 1 := by simpa using hp
    refine ⟨rfl, ?_⟩
    rw [hkeep hp]
    exact m2
  have hp : ¬ 0 < (blk l v.num.toNat).count - 1 := by simpa using hp
  rw [dropF_gone h5 hp]
  refine regionD_intro (lb := [42]) (by kernel_rfl) ?_
  simp only [go_sem, Nat.reduceBEq]
  refine Hold.ld1 (i := 0) Hold.ptr tyS24 m2.swap rfl rfl ?_
  obtain ⟨c, ah, nh, as0, ns, hd, hc, m3⟩ := bk_open q3 m2
  rw [show (blk l1 v.num.toNat).tab = (blk l v.num.toNat).tab by rw [hb1]; rfl] at m3
  generalize htt : (blk l v.num.toNat).tab = t at *
  simp only [ix_int q1 q3, go_sem, Nat.reduceBEq, Nat.reduceAdd]
  refine hd.ld1 (i := 3) tyS36 m3.third rfl (by omega) ?_
  try simp only [go_sem, Nat.reduceBEq]
  refine regionD_intro (lb := [52]) (by kernel_rfl) ?_
  simp only [go_sem, Nat.reduceBEq]
  refine Hold.ld1 (i := 0) Hold.ptr tyS24 m3.fourth rfl rfl ?_
  simp only [ix_int q1 q3, go_sem, Nat.reduceBEq]
  refine bk_store hd (u := bk0) tyS40 rfl ((m3.third.nilrow (z := 10)).nilrow (z := 1)) (by omega) fun h4 m4 => ?_
  have hs0 := slotsN_set (l := l) q2 bk0
  have hs1 : bk0.tab.slots.length = 0 := rfl
  rw [htt] at hs0
  have hin2 : hIn N 1099511627776 (l.set v.num.toNat bk0) := hin.set _ (.inr rfl) ⟨Int.le_refl _, by decide⟩
  rw [hc, hl2, hlen1] at m4
  have hlen2 : (l.set v.num.toNat bk0).length = l.length := List.length_set
  generalize l.set v.num.toNat bk0 = l2 at *
  rw [← hlen2] at m4
  have m4 : My h0 h4 (HpB l2 (some ⟨b, 0, none⟩) n bp ((.row 1 (t.heads.flatMap idt), .slice ah t.heads.length nh) :: (.row 10 (t.slots.flatMap Sl.dt), .slice as0 t.slots.length ns) :: R)) := m4.fourth.swap
  try simp only [go_sem]
  refine aloop (ι := Nat) (fun k => [(5, .val (.int .i64 (k : Nat))), (4, .val (.slice as0 t.slots.length ns)), (0, .val (.pointer (some ⟨bp, 0, none⟩)))]) (fun _ => [])
    (fun k h' => k ≤ t.slots.length ∧ My h0 h' (HpB (dropS (dropF f) l2 (t.slots.take k)) (some ⟨b, 0, none⟩) n bp ((.row 1 (t.heads.flatMap idt), .slice ah t.heads.length nh) :: (.row 10 (t.slots.flatMap Sl.dt), .slice as0 t.slots.length ns) :: R))) (fun k => t.slots.length - k) 0
    ⟨Nat.zero_le _, m4⟩ (by repeat (first | exact wkF_e | refine wkF_c rfl ?_)) wkB_e rfl ?_
  rintro k h6 ⟨hk, m6⟩
  have hk : k ≤ t.slots.length := hk
  have m6 : My h0 h6 (HpB (dropS (dropF f) l2 (t.slots.take k)) (some ⟨b, 0, none⟩) n bp ((.row 1 (t.heads.flatMap idt), .slice ah t.heads.length nh) :: (.row 10 (t.slots.flatMap Sl.dt), .slice as0 t.slots.length ns) :: R)) := m6
  try simp only [go_sem, Nat.reduceBEq]
  refine Br.intro (fun hq => ?_) (fun hq => ?_) <;> (try simp only [hq, go_sem, Nat.reduceBEq])
  · have hq : k < t.slots.length := by simpa using hq
    obtain ⟨e, he, hme⟩ := get_lt hq
    have wsu := wrap_succ (i := k) (by omega)
    have rs : Rd h6 (.row 10 (t.slots.flatMap Sl.dt)) (.slice as0 t.slots.length ns) := m6.fourth.rd
    obtain ⟨_, _, xs, eq, _, hrs, hats⟩ := rs.rows (by decide) t.slots.length (fm_len Sl.dt_len _)
    cases eq
    obtain ⟨b4, o4, rfl, hatq⟩ := hats (by omega)
    have hsub : ∀ s ∈ t.slots.take k, s.live = true → s.val.kind = 5 → 0 ≤ s.val.num ∧ s.val.num.toNat < N := fun s q => kids s (List.mem_of_mem_take q)
    obtain ⟨i1, i2⟩ := drops_in f (t.slots.take k) l2 hsub hin2
    simp only [ix_nat hq, go_sem, Nat.reduceBEq, Nat.reduceAdd]
    refine hsem_slive tyS4 hatq hrs he rfl ?_
    cases hv : e.live with
    | false =>
      try simp only [wsu, go_sem, Nat.reduceBEq]
      exact Again.intro (k + 1) (by first | omega | (simp only; omega)) ⟨hq, by rw [dropS_snoc he, hv]; exact m6⟩ (by repeat (first | exact wkF_e | refine wkF_c rfl ?_)) wkB_e rfl
    | true =>
      simp only [ix_nat hq, go_sem, Nat.reduceBEq, Nat.reduceAdd]
      refine hsem_sval tyS49 hatq hrs he rfl fun s5 rd5 => ?_
      obtain ⟨a6, c6, _, rfl, _⟩ := rd5.rows (by decide) e.val.items.length (fm_len edt_len _)
      try simp only [go_sem, Nat.reduceBEq]
      refine (ih _ e.val (by omega) i1 (fun q => kids e hme hv q) _ _ _ _ _ _ _ h0 _ m6).mono ?_
      rintro _ h7 ⟨rfl, m7⟩
      try simp only [wsu, go_sem, Nat.reduceBEq]
      exact Again.intro (k + 1) (by first | omega | (simp only; omega)) ⟨hq, by rw [dropS_snoc he, hv, if_pos rfl]; exact m7⟩ (by repeat (first | exact wkF_e | refine wkF_c rfl ?_)) wkB_e rfl
  · have hq : k = t.slots.length := by simp at hq; omega
    subst hq
    rw [List.take_length] at m6
    try simp only [go_sem, Nat.reduceBEq, Nat.reduceAdd, Nat.reduceLeDiff, Nat.reduceEqDiff, Int.reduceEq, not_false_eq_true, Int.reduceToNat]
    exact ⟨rfl, m6.third.drop.third.drop⟩
theorem sDrop (N : Nat) : ∀ f, f ≤ 1099511627776 → DropS N f
  | 0, _ => fun l v hs => absurd hs (Nat.not_lt_zero _)
  | f + 1, hf => sDrop_s N f (sDrop N f (by omega)) hf
set_option maxHeartbeats 800000 in
theorem iDropValue (l : List Bk) (rs : List V) (i : Int) (hb : szG Bk.bulk l ≤ 1048576) (hbr : szG V.bulk rs ≤ 1048576) (s u : Value) (h : Hp) (r1 : RdB h l s) (r2 : Rd h (.row 5 (rs.flatMap V.dt)) u) (hE : Env h) : ACalls Tryz.prog 7 #[.agg #[s], u, .int .i64 i] h (MadeH2 h (dropOf l rs i).1 (dropOf l rs i).2) := by
  have hlen := szG_len (w := Bk.bulk) l
  have hlr := szG_len (w := V.bulk) rs
  have hsn := slotsN_bulk l
  have hw : IntKind.i64.wrap ((rs.length : Int) - 1) = (rs.length : Int) - 1 := IntWalk.i64_in _ (by omega)
  obtain ⟨a1, c1, xs1, rfl, hc1, hr1, hat1⟩ := r1.rows (by decide) l.length (fm_len Bk.dt_len _)
  obtain ⟨a2, c2, xs2, rfl, hc2, hr2, hat2⟩ := r2.rows (by decide) rs.length (fm_len V.dt_len _)
  (refine enter Tryz.func7 rfl rfl (by kernel_rfl) [8] ?_; simp only [go_sem, Nat.reduceBEq, Nat.reduceLeDiff])
  refine (iCopyHeap l (by omega) _ _ r1).mono ?_
  rintro _ h1 ⟨a3, c3, rfl, m1⟩
  simp only [go_sem, Nat.reduceBEq]
  refine hsem_my_alloc (z := [.slice none 0 0]) (by kernel_rfl) rfl m1 fun bp h2 m2 => ?_
  try simp only [go_sem, Nat.reduceBEq]
  refine Hold.store Hold.ptr (es := [.raw (.slice a3 l.length c3)]) tyS26 (m2.raw (u := .slice a3 l.length c3) rfl) rfl rfl rfl rfl fun h3 m3 => ?_
  have m3 : My h h3 (HpB l a3 c3 bp []) := m3.swap
  try simp only [go_sem, Nat.reduceBEq]
  try simp only [hw, go_sem]
  (refine (iInRange _ _ _ _).mono ?_; rintro _ _ ⟨rfl, rfl⟩; simp only [go_sem, Nat.reduceBEq])
  by_cases hin : 0 ≤ i ∧ i ≤ (rs.length : Int) - 1
  case neg =>
    simp only [decide_eq_false hin, Bool.not_false, go_sem, Nat.reduceBEq]
    refine Hold.loadN Hold.ptr (i := 0) (ds := [.raw (.slice a3 l.length c3)]) tyS26 m3.swap rfl rfl rfl fun ys r => ?_
    obtain rfl : ys = [.slice a3 l.length c3] := RdL.of_raws (us := [.slice a3 l.length c3]) r
    try simp only [go_sem, Nat.reduceBEq, Nat.reduceLeDiff]
    rw [drop_no1 hin]
    exact ⟨_, _, rfl, m3.swap.drop⟩
  simp only [decide_eq_true hin, Bool.not_true, go_sem, Nat.reduceBEq, Nat.reduceLeDiff]
  refine (iIsCounted l rs hb hbr _ _ _ (r1.mono m3.ext) (r2.mono m3.ext) (hE.ext m3.ext)).mono ?_
  rintro _ h4 ⟨rfl, e4⟩
  have m4 : My h h4 (HpB l a3 c3 bp []) := m3.mono e4
  cases hC : countedB l rs with
  | false =>
    simp only [Bool.not_false, go_sem, Nat.reduceBEq]
    refine Hold.loadN Hold.ptr (i := 0) (ds := [.raw (.slice a3 l.length c3)]) tyS26 m4.swap rfl rfl rfl fun ys r => ?_
    obtain rfl : ys = [.slice a3 l.length c3] := RdL.of_raws (us := [.slice a3 l.length c3]) r
    try simp only [go_sem, Nat.reduceBEq, Nat.reduceLeDiff]
    rw [drop_no2 hC]
    exact ⟨_, _, rfl, m4.swap.drop⟩
  | true =>
  obtain ⟨hH, hD⟩ := counted_parts hC
  have ho := heapB_iff.1 hH
  have hlt : i.toNat < rs.length := by omega
  have he : rs[i.toNat]? = some (rs.getD i.toNat V.zero) := by rw [List.getD_eq_getElem?_getD, List.getElem?_eq_getElem hlt]; rfl
  obtain ⟨b2, o2, rfl, hat2'⟩ := hat2 (by omega)
  simp only [Bool.not_true, ix_int hin.1 hlt, go_sem, Nat.reduceBEq]
  refine hsem_vrow tyS49 (hat2'.mono m4.ext) (hr2.mono m4.ext) he rfl fun s5 rd5 => ?_
  obtain ⟨a6, c6, _, rfl, _⟩ := rd5.rows (by decide) (rs.getD i.toNat V.zero).items.length (fm_len edt_len _)
  try simp only [go_sem, Nat.reduceBEq]
  refine (iDrop l.length (slotsN l + 1) (by omega) l (rs.getD i.toNat V.zero) (by omega) (ho.hIn.up (by decide)) (held_ref (hD _ (List.mem_of_getElem? he))) _ _ _ a3 c3 bp [] h _ m4).mono ?_
  rintro _ h6 ⟨rfl, m6⟩
  try simp only [go_sem, Nat.reduceBEq]
  rw [drop_yes hin hC]
  generalize dropF (slotsN l + 1) l (rs.getD i.toNat V.zero) = l9 at *
  refine Hold.loadN Hold.ptr (i := 0) (ds := [.raw (.slice a3 l9.length c3)]) tyS26 m6.swap rfl rfl rfl fun ys r => ?_
  obtain rfl : ys = [.slice a3 l9.length c3] := RdL.of_raws (us := [.slice a3 l9.length c3]) r
  try simp only [go_sem, Nat.reduceBEq, Nat.reduceLeDiff]
  exact ⟨_, _, rfl, m6.swap.drop⟩
end Go.Proofs.YtccjkhnefiikaaaGreatDoor
namespace Go.Proofs.YtccjkhnefiikaaaGreatDoor
set_option maxRecDepth 8000
open Go Go.Sx
end Go.Proofs.YtccjkhnefiikaaaGreatDoor
namespace Go.Proofs.YtccjkhnefiikaaaGreatDoor
set_option maxRecDepth 8000
open Go Go.Sx
/-- a value that can be read; nothing visible has turned -/
def RdV (h : Hp) (o : V) (u : Value) (h' : Hp) : Prop := ∃ a c, u = .agg #[.int .i64 o.kind, .int .i64 o.num, .string o.str, .int .i64 o.next, .slice a o.items.length c] ∧ Ext h h' ∧ RdE h' o.items (.slice a o.items.length c)
end Go.Proofs.YtccjkhnefiikaaaGreatDoor
namespace Go.Proofs.YtccjkhnefiikaaaGreatDoor
set_option maxRecDepth 8000
open Go Go.Sx
theorem sl6Set (v : V) (k : Ky) (x : V) (hl : v.items.length ≤ 1099511627776) (sl sx : Value) (h : Hp) (rd : RdE h v.items sl) (rx : RdE h x.items sx) :
    ACalls Tryz.prog 87 #[.agg #[.int .i64 v.kind, .int .i64 v.num, .string v.str, .int .i64 v.next, sl], .agg #[.bool k.text, .int .i64 k.num, .string k.str], .agg #[.int .i64 x.kind, .int .i64 x.num, .string x.str, .int .i64 x.next, sx]] h (RdV h (v.setKey k x)) := by
  obtain ⟨a, c, xs, rfl, hc, hr, hat⟩ := rd.rows (by decide) v.items.length (fm_len edt_len _)
  obtain ⟨ax, cx, _, rfl, _⟩ := rx.rows (by decide) x.items.length (fm_len edt_len _)
  obtain ⟨a2, ys, e2, rs2, rl2⟩ := Rd.sub edt_len rd 0 v.items.length (by omega) (by omega)
  rw [List.drop_zero, Nat.sub_zero, List.take_length] at rl2
  have rs : ∃ ys, RdS h 8 (.slice a v.items.length c) ys ∧ RdL h (v.items.flatMap edt) ys := by
    have := rd
    simp only [Rd] at this
    exact this
  clear e2 rs2 rl2
  obtain ⟨zs, rs2, rl2⟩ := rs
  have ly : zs.length = v.items.length * 8 := by rw [rl2.len, fm_len edt_len]
  (refine enter Tryz.func87 rfl rfl (by kernel_rfl) [] ?_; simp only [go_sem, Nat.reduceBEq, Nat.reduceAdd, Nat.reduceLeDiff])
  refine hsem_my_lit0 slT47 (My.nil (Ext.refl h)) fun v1 h1 m1 => ?_
  obtain ⟨a1, c1, rfl, _⟩ := m1.row_shape (by decide) 0 rfl
  simp only [go_sem, Nat.reduceBEq]
  refine hsem_my_appendR slT47 (by decide) rfl 0 v.items.length m1 (rs2.mono m1.ext) rfl ly (by show (0 + v.items.length) * 96 ≤ _; omega) (by omega) fun v2 h2 m2 => ?_
  have m2 : My h h2 [(.row 8 (zs.map .raw), v2)] := m2
  obtain ⟨a4, c4, rfl, hcc, hcm, hat4⟩ := m2.row_shape (by decide) v.items.length (by rw [List.length_map, ly])
  simp only [go_sem, Nat.reduceBEq, Nat.reduceAdd, Nat.reduceLeDiff]
  (refine (sFind v k hl _ _ (rd.mono m2.ext)).mono ?_; rintro _ _ ⟨rfl, rfl⟩; simp only [go_sem, Nat.reduceBEq])
  cases hf : v.find k with
  | some i =>
    obtain ⟨y, hx, hg, hlt⟩ := V.find_get hf
    obtain ⟨e, he, _⟩ := get_lt hlt
    have es : v.setKey k x = v.withItems (v.items.take i ++ (e.1, x) :: v.items.drop (i + 1)) := by
      unfold V.setKey V.setAt
      rw [hf]
      simp only [he]
    rw [es]
    obtain ⟨b4, rfl⟩ := hat4 (by omega)
    have hlen : (v.items.take i ++ (e.1, x) :: v.items.drop (i + 1)).length = v.items.length := by rw [List.length_append, List.length_cons, List.length_take, List.length_drop]; omega
    obtain ⟨P, hP⟩ : ∃ P, P = zs.take (i * 8 + 3) := ⟨_, rfl⟩
    obtain ⟨O, hO⟩ : ∃ O, O = (zs.drop (i * 8 + 3)).take 5 := ⟨_, rfl⟩
    obtain ⟨Q, hQ⟩ : ∃ Q, Q = zs.drop (i * 8 + 8) := ⟨_, rfl⟩
    have ez : zs = P ++ (O ++ Q) := by
      rw [hP, hO, hQ, show zs.drop (i * 8 + 8) = (zs.drop (i * 8 + 3)).drop 5 from by rw [List.drop_drop], List.take_append_drop, List.take_append_drop]
    have lP : P.length = i * 8 + 3 := by rw [hP, List.length_take, ly]; omega
    have lO : O.length = 5 := by rw [hO, List.length_take, List.length_drop, ly]; omega
    obtain ⟨f1, f2⟩ := fm_split edt_len he
    have rP : RdL h ((v.items.take i).flatMap edt ++ e.1.dt) P := by
      have := rl2.take (i * 8 + 3)
      rw [← hP, f1, ← f2, List.take_length_add_append, edt_eq] at this
      exact this
    have rQ : RdL h ((v.items.drop (i + 1)).flatMap edt) Q := by
      have := rl2.drop ((i + 1) * 8)
      rw [fm_drop edt_len, show (i + 1) * 8 = i * 8 + 8 by omega, ← hQ] at this
      exact this
    simp only [ixI_some, go_sem]
    refine Br.intro (fun h0 => ?_) (fun h0 => ?_) <;> (try simp only [h0, go_sem, Nat.reduceBEq, Nat.reduceAdd, Nat.reduceLeDiff])
    case refine_2 => exact absurd (of_decide_eq_false h0) (by omega)
    simp only [ix_nat hlt, go_sem, Nat.reduceBEq, Nat.reduceAdd]
    refine hsem_my_put (z := 8) (h0 := h) (es := [.raw (.int .i64 x.kind), .raw (.int .i64 x.num), .raw (.string x.str), .raw (.int .i64 x.next), .raw (.slice ax x.items.length cx)]) (p := P.map .raw) (o := O.map .raw) (q := Q.map .raw) (bag := []) (len := v.items.length) (cap := c4) tyS49 ?_ (by omega) (by rw [List.length_map, lO]) rfl ?_ ?_ fun h3 m3 => ?_
    · simp only [cells_agg, List.zip_cons_cons, List.zip_nil_right, List.cons_append, List.nil_append, My.raw_iff, one_int, one_str, one_sl, and_self, true_and]
      rw [← List.map_append, ← List.map_append, ← ez]
      exact m2
    · rfl
    · rw [List.length_map, lP]
    simp only [go_sem, Nat.reduceBEq, Nat.reduceAdd, Nat.reduceLeDiff]
    refine ⟨some ⟨b4, 0, none⟩, c4, ?_, m3.ext, ?_⟩
    · rw [V.withItems_items, hlen]
      rfl
    rw [V.withItems_items, hlen]
    refine Rd.of_raws (us := P ++ ([.int .i64 x.kind, .int .i64 x.num, .string x.str, .int .i64 x.next, .slice ax x.items.length cx] ++ Q)) (by simpa using m3.rd) ?_
    have := (rP.mono m3.ext).append (((RdL_val_mk rx).mono m3.ext).append (rQ.mono m3.ext))
    rw [List.flatMap_append, List.flatMap_cons]
    rw [List.append_assoc] at this
    simp only [edt, List.append_assoc] at this ⊢
    exact this
  | none =>
    have es : v.setKey k x = ⟨v.kind, v.num, v.str, if k.text then v.next else max v.next (IntKind.i64.wrap (k.num + 1)), v.items ++ [(k, x)]⟩ := by
      unfold V.setKey
      rw [hf]
    rw [es]
    simp only [ixI_none, go_sem]
    refine Br.intro (fun h0 => ?_) (fun h0 => ?_) <;> (try simp only [h0, go_sem, Nat.reduceBEq, Nat.reduceAdd, Nat.reduceLeDiff])
    case refine_1 => exact absurd (of_decide_eq_true h0) (by decide)
    refine hsem_my_lit (h0 := h) (es := [.raw (.bool k.text), .raw (.int .i64 k.num), .raw (.string k.str), .raw (.int .i64 x.kind), .raw (.int .i64 x.num), .raw (.string x.str), .raw (.int .i64 x.next), .raw (.slice ax x.items.length cx)]) (parts := [(0, .agg #[.bool k.text, .int .i64 k.num, .string k.str, .int .i64 x.kind, .int .i64 x.num, .string x.str, .int .i64 x.next, .slice ax x.items.length cx])]) slT47 (by decide) (by decide) (by decide) rfl rfl (by simp [Value.cells]) (bag := [(.row 8 (zs.map .raw), .slice a4 v.items.length c4)]) ?_ rfl rfl fun l4 h4 m4 => ?_
    · simp only [flat, List.flatMap_cons, List.flatMap_nil, List.append_nil, cells_agg, List.zip_cons_cons, List.zip_nil_right, List.cons_append, List.nil_append, My.raw_iff, one_bool, one_int, one_str, one_sl, and_self, true_and]
      exact m2
    simp only [go_sem, Nat.reduceBEq]
    refine hsem_my_append slT47 (by decide) rfl v.items.length 1 m4.swap (by rw [List.length_map, ly]) rfl (by show (v.items.length + 1) * 96 ≤ _; omega) (by omega) fun l5 h5 m5 => ?_
    have m5 : My h h5 [(.row 8 (zs.map .raw ++ [.raw (.bool k.text), .raw (.int .i64 k.num), .raw (.string k.str), .raw (.int .i64 x.kind), .raw (.int .i64 x.num), .raw (.string x.str), .raw (.int .i64 x.next), .raw (.slice ax x.items.length cx)]), l5)] := m5
    obtain ⟨a6, c6, rfl, _⟩ := m5.row_shape (by decide) (v.items.length + 1) (by rw [List.length_append, List.length_map, ly]; show _ + 8 = _; omega)
    have hlen : (v.items ++ [(k, x)]).length = v.items.length + 1 := by rw [List.length_append]; rfl
    have rr : RdE h5 (v.items ++ [(k, x)]) (.slice a6 (v.items.length + 1) c6) := by
      refine Rd.of_raws (us := zs ++ ([.bool k.text, .int .i64 k.num, .string k.str] ++ [.int .i64 x.kind, .int .i64 x.num, .string x.str, .int .i64 x.next, .slice ax x.items.length cx])) (by simpa using m5.rd) ?_
      have rk : RdL h5 k.dt [.bool k.text, .int .i64 k.num, .string k.str] := by simp only [Ky.dt, RdL_cc, Rd_raw, RdL_nil, true_and, and_true]; exact ⟨rfl, rfl, rfl⟩
      have := (rl2.mono m5.ext).append (rk.append ((RdL_val_mk rx).mono m5.ext))
      rw [List.flatMap_append, List.flatMap_cons, List.flatMap_nil, List.append_nil]
      exact this
    simp only [go_sem, Nat.reduceBEq, Nat.reduceAdd, Nat.reduceLeDiff]
    refine Br.intro (fun kt => ?_) (fun kt => ?_) <;> (try simp only [kt, go_sem, Nat.reduceBEq, Nat.reduceAdd, Nat.reduceLeDiff])
    · have kt : k.text = false := by simpa using kt
      (refine (sMax v.next (IntKind.i64.wrap (k.num + 1)) _).mono ?_; rintro _ _ ⟨rfl, rfl⟩; simp only [go_sem, Nat.reduceBEq, Nat.reduceAdd, Nat.reduceLeDiff])
      rw [kt]
      refine ⟨a6, c6, ?_, m5.ext, ?_⟩
      · rw [V.items_mk, hlen]
        rfl
      · rw [V.items_mk, hlen]
        exact rr
    · have kt : k.text = true := by simpa using kt
      rw [kt]
      refine ⟨a6, c6, ?_, m5.ext, ?_⟩
      · rw [V.items_mk, hlen]
        rfl
      · rw [V.items_mk, hlen]
        exact rr
end Go.Proofs.YtccjkhnefiikaaaGreatDoor
namespace Go.Proofs.YtccjkhnefiikaaaGreatDoor
set_option maxRecDepth 8000
open Go Go.Sx
/-- a value made, and a number -/
def MadeI (h : Hp) (o : V) (n : Int) (u : Value) (h' : Hp) : Prop := ∃ a c, u = .tuple #[.agg #[.int .i64 o.kind, .int .i64 o.num, .string o.str, .int .i64 o.next, .slice a o.items.length c], .int .i64 n] ∧ My h h' [(.row 8 (o.items.flatMap edt), .slice a o.items.length c)]
theorem MadeI.of {h h1 h2 : Hp} {o : V} {n : Int} {u : Value} (e : Ext h h1) (m : MadeI h1 o n u h2) : MadeI h o n u h2 := by
  obtain ⟨a, c, h1, h2⟩ := m
  exact ⟨a, c, h1, h2.base e⟩
end Go.Proofs.YtccjkhnefiikaaaGreatDoor
namespace Go.Proofs.YtccjkhnefiikaaaGreatDoor
set_option maxRecDepth 8000
open Go Go.Sx
theorem rd_arr (h : Hp) : RdE h V.arr.items (.slice none 0 0) := ((My.nil (Ext.refl h)).nilrow (z := 8)).rd
theorem sArr (h : Hp) : ACalls Tryz.prog 67 #[] h (Pu (.agg #[.int .i64 4, .int .i64 0, .string ⟨#[]⟩, .int .i64 0, .slice none 0 0]) h) := by
  (refine enter Tryz.func67 rfl rfl (by kernel_rfl) [] ?_; simp only [go_sem, Nat.reduceBEq, Nat.reduceAdd, Nat.reduceLeDiff])
  exact ⟨rfl, rfl⟩
/-- a value that can be read, and a number -/
def PutP (h : Hp) (o : V × Int) (u : Value) (h' : Hp) : Prop := ∃ a c, u = .tuple #[.agg #[.int .i64 o.1.kind, .int .i64 o.1.num, .string o.1.str, .int .i64 o.1.next, .slice a o.1.items.length c], .int .i64 o.2] ∧ Ext h h' ∧ RdE h' o.1.items (.slice a o.1.items.length c)
theorem d00 : decide (((0 : Nat) : Int) = 0) = true := by decide
theorem dc0 (k : Ky) (r : List Ky) : decide ((((k :: r).length : Nat) : Int) = 0) = false := decide_eq_false (by rw [List.length_cons]; omega)
theorem sl12Set : ∀ (path : List Ky) (v : V) (push : Bool) (x : V) (_ : V.bulks v.items ≤ 1099511627776) (_ : path.length ≤ 1099511627776) (sl sp sx : Value) (h : Hp) (_ : RdE h v.items sl) (_ : Rd h (.row 3 (path.flatMap Ky.dt)) sp) (_ : RdE h x.items sx),
    ACalls Tryz.prog 69 #[.agg #[.int .i64 v.kind, .int .i64 v.num, .string v.str, .int .i64 v.next, sl], sp, .bool push, .agg #[.int .i64 x.kind, .int .i64 x.num, .string x.str, .int .i64 x.next, sx]] h (PutP h (v.put path push x)) := by
  intro path
  induction path with
  | nil =>
    intro v push x hl hp sl sp sx h rd rp rx
    have hlen := V.bulks_len v.items
    obtain ⟨ap, cp, xp, rfl, _⟩ := rp.rows (by decide) ([] : List Ky).length (fm_len Ky.dt_len _)
    obtain ⟨a, c, _, rfl, _⟩ := rd.rows (by decide) v.items.length (fm_len edt_len _)
    obtain ⟨ax, cx, _, rfl, _⟩ := rx.rows (by decide) x.items.length (fm_len edt_len _)
    (refine enter Tryz.func69 rfl rfl (by kernel_rfl) [] ?_; simp only [go_sem, Nat.reduceBEq])
    cases push with
    | false =>
      rw [V.put_nil_f]
      simp only [d00, go_sem, Nat.reduceBEq, Nat.reduceAdd, Nat.reduceLeDiff]
      exact ⟨_, _, rfl, Ext.refl _, rx⟩
    | true =>
      rw [V.put_nil_t]
      simp only [d00, go_sem, Nat.reduceBEq]
      by_cases k0 : v.kind = 0
      · rw [V.asArr_null k0]
        have dk0 := decide_eq_true k0
        simp only [dk0, go_sem]
        (refine (sArr _).mono ?_; rintro _ _ ⟨rfl, rfl⟩; simp only [go_sem, Nat.reduceBEq, Nat.reduceAdd, Nat.reduceLeDiff])
        simp only [d00, go_sem, Nat.reduceBEq]
        (refine (l1In_c _ _ _ _).mono ?_; rintro _ _ ⟨rfl, rfl⟩; simp only [go_sem, Nat.reduceBEq])
        have dd : decide ((0 : Int) ≤ 0 ∧ (0 : Int) ≤ 1000000000) = true := by decide
        simp only [dd, go_sem, Nat.reduceBEq, Nat.reduceAdd, Nat.reduceLeDiff]
        rw [if_neg (by decide), if_neg (by decide)]
        refine (sl6Set V.arr ⟨false, V.arr.next, ⟨#[]⟩⟩ x (by decide) _ _ _ (rd_arr _) rx).mono ?_
        rintro _ h5 ⟨a5, c5, rfl, e5, r5⟩
        simp only [go_sem, Nat.reduceBEq, Nat.reduceAdd, Nat.reduceLeDiff]
        exact ⟨_, _, rfl, e5, r5⟩
      rw [V.asArr_other k0]
      have dk0 := decide_eq_false k0
      simp only [dk0, go_sem, Nat.reduceBEq]
      by_cases k4 : v.kind = 4
      case neg =>
        have dk4 := decide_eq_false k4
        simp only [dk4, go_sem, Nat.reduceBEq, Nat.reduceAdd, Nat.reduceLeDiff]
        rw [if_pos k4]
        exact ⟨_, _, rfl, Ext.refl _, rd⟩
      have dk4 := decide_eq_true k4
      simp only [dk4, d00, go_sem, Nat.reduceBEq]
      (refine (l1In_c _ _ _ _).mono ?_; rintro _ _ ⟨rfl, rfl⟩; simp only [go_sem, Nat.reduceBEq])
      rw [if_neg (by simpa using k4)]
      refine Br.intro (fun hn => ?_) (fun hn => ?_) <;> (try simp only [hn, go_sem, Nat.reduceBEq, Nat.reduceAdd, Nat.reduceLeDiff])
      · have hn : ¬ (0 ≤ v.next ∧ v.next ≤ 1000000000) := of_decide_eq_false (by simpa only [Bool.not_eq_true'] using hn)
        rw [if_pos hn]
        exact ⟨_, _, rfl, Ext.refl _, rd⟩
      · have hn : 0 ≤ v.next ∧ v.next ≤ 1000000000 := of_decide_eq_true (by simpa only [Bool.not_eq_false'] using hn)
        rw [if_neg (fun h => h hn)]
        refine (sl6Set v ⟨false, v.next, ⟨#[]⟩⟩ x (by omega) _ _ _ rd rx).mono ?_
        rintro _ h5 ⟨a5, c5, rfl, e5, r5⟩
        simp only [go_sem, Nat.reduceBEq, Nat.reduceAdd, Nat.reduceLeDiff]
        exact ⟨_, _, rfl, e5, r5⟩
  | cons k r ih =>
    intro v push x hl hp sl sp sx h rd rp rx
    have hlen := V.bulks_len v.items
    obtain ⟨ap, cp, xp, rfl, hcp, hrp, hatp⟩ := rp.rows (by decide) (k :: r).length (fm_len Ky.dt_len _)
    obtain ⟨a, c, _, rfl, _⟩ := rd.rows (by decide) v.items.length (fm_len edt_len _)
    obtain ⟨ax, cx, _, rfl, _⟩ := rx.rows (by decide) x.items.length (fm_len edt_len _)
    have hn : 0 < (k :: r).length := by rw [List.length_cons]; omega
    obtain ⟨bp, offp, rfl, hatp'⟩ := hatp hn
    have ix0 : ∀ n : Nat, 0 < n → ixA (some 3) (some ⟨bp, offp, none⟩) n 0 = some (.pointer (some ⟨bp, offp + 0 * 3, none⟩)) := fun n hn => ix_nat (i := 0) hn
    obtain ⟨a3, ys3, e3, rs3, rl3⟩ := Rd.sub Ky.dt_len rp 1 (k :: r).length (by simp only [List.length_cons]; omega) (Nat.le_refl _)
    have e3 : slA (some 3) (some ⟨bp, offp, none⟩) (r.length + 1) cp 1 ((r.length + 1 : Nat) : Int) = some (.slice a3 (r.length + 1 - 1) (cp - 1)) := e3
    have rp3 : Rd h (.row 3 (r.flatMap Ky.dt)) (.slice a3 (r.length + 1 - 1) (cp - 1)) := by
      simp only [Rd]
      exact ⟨_, rs3, by simpa using rl3⟩
    have dc := dc0 k r
    rw [List.length_cons] at dc
    (refine enter Tryz.func69 rfl rfl (by kernel_rfl) [] ?_; simp only [go_sem, Nat.reduceBEq])
    rw [V.put_cons]
    simp only [dc, go_sem, Nat.reduceBEq]
    by_cases k0 : v.kind = 0
    · rw [V.asArr_null k0]
      have dk0 := decide_eq_true k0
      simp only [dk0, go_sem]
      (refine (sArr _).mono ?_; rintro _ _ ⟨rfl, rfl⟩; simp only [go_sem, Nat.reduceBEq, Nat.reduceAdd, Nat.reduceLeDiff])
      simp only [dc, go_sem]
      rw [if_neg (by decide)]
      refine regionD_intro (lb := [45]) (by kernel_rfl) ?_
      simp only [ix0 _ (show 0 < r.length + 1 by omega), go_sem, Nat.reduceBEq, Nat.reduceAdd, Nat.reduceLeDiff]
      refine hsem_row (f := Ky.dt) (o := 0) (i := 0) (ds := k.dt) Ky.dt_len tyS57 hatp' hrp rfl (Nat.le_refl _) rfl ?_ fun ys q1 => ?_
      · omega
      rw [RdL_key q1]
      simp only [go_sem, Nat.reduceBEq]
      refine (sGet V.arr k (by decide) _ _ (rd_arr _)).mono ?_
      rintro _ _ ⟨rfl, s2, rfl, rd2⟩
      obtain ⟨a2, c2, _, rfl, _⟩ := rd2.rows (by decide) _ (fm_len edt_len _)
      simp only [go_sem, Nat.reduceBEq, Nat.reduceAdd, Nat.reduceLeDiff]
      refine regionD_intro (lb := [53, 57]) (by kernel_rfl) ?_
      simp only [e3, go_sem, Nat.reduceBEq, Nat.reduceAdd, Nat.reduceLeDiff]
      have hgb := getD_bulk V.arr k
      refine (ih ((V.get V.arr k).getD V.null) push x (by exact Nat.le_trans hgb (by decide)) (by simp only [List.length_cons] at hp ⊢; omega) _ _ _ _ rd2 rp3 rx).mono ?_
      rintro _ h4 ⟨a4, c4, rfl, e4, r4⟩
      simp only [go_sem, Nat.reduceBEq, Nat.reduceAdd, Nat.reduceLeDiff]
      refine Br.intro (fun hc => ?_) (fun hc => ?_) <;> (try simp only [hc, go_sem, Nat.reduceBEq, Nat.reduceAdd, Nat.reduceLeDiff])
      · have hc : ¬ (V.put ((V.get V.arr k).getD V.null) r push x).2 = 0 := by simpa using hc
        rw [if_neg hc]
        exact ⟨_, _, rfl, e4, rd_arr _⟩
      · have hc : (V.put ((V.get V.arr k).getD V.null) r push x).2 = 0 := by simpa using hc
        rw [if_pos hc]
        refine regionD_intro (lb := [65, 69]) (by kernel_rfl) ?_
        simp only [ix0 _ (show 0 < r.length + 1 by omega), go_sem, Nat.reduceBEq, Nat.reduceAdd, Nat.reduceLeDiff]
        refine hsem_row (f := Ky.dt) (o := 0) (i := 0) (ds := k.dt) Ky.dt_len tyS57 (hatp'.mono e4) (hrp.mono e4) rfl (Nat.le_refl _) rfl ?_ fun ys q2 => ?_
        · omega
        rw [RdL_key q2]
        simp only [go_sem, Nat.reduceBEq, Nat.reduceAdd, Nat.reduceLeDiff]
        refine (sl6Set V.arr k _ (by decide) _ _ _ (rd_arr _) r4).mono ?_
        rintro _ h5 ⟨a5, c5, rfl, e5, r5⟩
        simp only [go_sem, Nat.reduceBEq, Nat.reduceAdd, Nat.reduceLeDiff]
        exact ⟨_, _, rfl, e4.trans e5, r5⟩
    rw [V.asArr_other k0]
    have dk0 := decide_eq_false k0
    simp only [dk0, go_sem, Nat.reduceBEq]
    by_cases k4 : v.kind = 4
    case neg =>
      have dk4 := decide_eq_false k4
      simp only [dk4, go_sem, Nat.reduceBEq, Nat.reduceAdd, Nat.reduceLeDiff]
      rw [if_pos k4]
      exact ⟨_, _, rfl, Ext.refl _, rd⟩
    have dk4 := decide_eq_true k4
    simp only [dk4, dc, go_sem, Nat.reduceBEq]
    rw [if_neg (by simpa using k4)]
    refine regionD_intro (lb := [45]) (by kernel_rfl) ?_
    simp only [ix0 _ (show 0 < r.length + 1 by omega), go_sem, Nat.reduceBEq, Nat.reduceAdd, Nat.reduceLeDiff]
    refine hsem_row (f := Ky.dt) (o := 0) (i := 0) (ds := k.dt) Ky.dt_len tyS57 hatp' hrp rfl (Nat.le_refl _) rfl ?_ fun ys q1 => ?_
    · omega
    rw [RdL_key q1]
    simp only [go_sem, Nat.reduceBEq]
    refine (sGet v k (by omega) _ _ (rd)).mono ?_
    rintro _ _ ⟨rfl, s2, rfl, rd2⟩
    obtain ⟨a2, c2, _, rfl, _⟩ := rd2.rows (by decide) _ (fm_len edt_len _)
    simp only [go_sem, Nat.reduceBEq, Nat.reduceAdd, Nat.reduceLeDiff]
    refine regionD_intro (lb := [53, 57]) (by kernel_rfl) ?_
    simp only [e3, go_sem, Nat.reduceBEq, Nat.reduceAdd, Nat.reduceLeDiff]
    have hgb := getD_bulk v k
    refine (ih ((V.get v k).getD V.null) push x (by omega) (by simp only [List.length_cons] at hp ⊢; omega) _ _ _ _ rd2 rp3 rx).mono ?_
    rintro _ h4 ⟨a4, c4, rfl, e4, r4⟩
    simp only [go_sem, Nat.reduceBEq, Nat.reduceAdd, Nat.reduceLeDiff]
    refine Br.intro (fun hc => ?_) (fun hc => ?_) <;> (try simp only [hc, go_sem, Nat.reduceBEq, Nat.reduceAdd, Nat.reduceLeDiff])
    · have hc : ¬ (V.put ((V.get v k).getD V.null) r push x).2 = 0 := by simpa using hc
      rw [if_neg hc]
      exact ⟨_, _, rfl, e4, (rd.mono e4)⟩
    · have hc : (V.put ((V.get v k).getD V.null) r push x).2 = 0 := by simpa using hc
      rw [if_pos hc]
      refine regionD_intro (lb := [65, 69]) (by kernel_rfl) ?_
      simp only [ix0 _ (show 0 < r.length + 1 by omega), go_sem, Nat.reduceBEq, Nat.reduceAdd, Nat.reduceLeDiff]
      refine hsem_row (f := Ky.dt) (o := 0) (i := 0) (ds := k.dt) Ky.dt_len tyS57 (hatp'.mono e4) (hrp.mono e4) rfl (Nat.le_refl _) rfl ?_ fun ys q2 => ?_
      · omega
      rw [RdL_key q2]
      simp only [go_sem, Nat.reduceBEq, Nat.reduceAdd, Nat.reduceLeDiff]
      refine (sl6Set v k _ (by omega) _ _ _ (rd.mono e4) r4).mono ?_
      rintro _ h5 ⟨a5, c5, rfl, e5, r5⟩
      simp only [go_sem, Nat.reduceBEq, Nat.reduceAdd, Nat.reduceLeDiff]
      exact ⟨_, _, rfl, e4.trans e5, r5⟩
end Go.Proofs.YtccjkhnefiikaaaGreatDoor
