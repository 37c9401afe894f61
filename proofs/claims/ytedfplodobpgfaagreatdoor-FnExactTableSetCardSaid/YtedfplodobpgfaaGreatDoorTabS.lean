/-
  What l7Build, putSlot, l7Set and l7Drop do to tables of the walk's own.
-/
import Derived.Test.YtedfplodobpgfaaGreatDoorTabQ
namespace Go.Proofs.YtedfplodobpgfaaGreatDoor
set_option maxRecDepth 8000
open Go Go.Sx
set_option maxHeartbeats 800000 in
theorem sBuild (t : Tb) (ch : t.ch) (hl : liveN t.slots < 1024) (hks : ∀ e ∈ t.slots, e.key.str.size ≤ 1152921504606846976) (a1 a2 : Option Addr) (c1 c2 : Nat) (h0 h : Hp) (R : Bag) (m : My h0 h ((.row 1 (t.heads.flatMap idt), .slice a1 t.heads.length c1) :: (.row 10 (t.slots.flatMap Sl.dt), .slice a2 t.slots.length c2) :: R)) : ACalls Tryz.prog 115 #[.agg #[.bool t.hashed, .slice a1 t.heads.length c1, .slice a2 t.slots.length c2, .int .i64 t.next, .int .i64 t.count], .int .i64 (roomN (liveN t.slots) : Nat)] h (OwnT h0 t.build R) := by
  have hls := ch.len
  have hc := ch.cnt
  have hr := roomN_spec hl
  (refine enter Tryz.func115 rfl rfl (by kernel_rfl) [] ?_; simp only [go_sem, Nat.reduceBEq, Nat.reduceAdd, Nat.reduceLeDiff])
  refine aloop (ι := Nat × Value) (fun x => [(6, .val (.int .i64 (x.1 : Nat))), (1, .val (.int .i64 (roomN (liveN t.slots) : Nat))), (2, .box 2 0), (5, .box 5 0), (4, .box 4 0)])
    (fun x => [(2, [.bool t.hashed, .slice a1 t.heads.length c1, .slice a2 t.slots.length c2, .int .i64 t.next, .int .i64 t.count]), (5, [.bool true, x.2, .slice none 0 0, .int .i64 t.next, .int .i64 0]), (4, [.bool false, .slice none 0 0, .slice none 0 0, .int .i64 0, .int .i64 0])])
    (fun x h' => x.1 ≤ roomN (liveN t.slots) ∧ My h0 h' ((.row 1 ((List.replicate x.1 (-1)).flatMap idt), x.2) :: (.row 1 (t.heads.flatMap idt), .slice a1 t.heads.length c1) :: (.row 10 (t.slots.flatMap Sl.dt), .slice a2 t.slots.length c2) :: R)) (fun x => roomN (liveN t.slots) - x.1) (0, .slice none 0 0)
    ⟨Nat.zero_le _, m.nilrow⟩ (by repeat (first | exact wkF_e | refine wkF_c rfl ?_)) (wkB_c rfl (wkB_c rfl (wkB_c rfl wkB_e))) rfl ?_
  rintro ⟨n, sh⟩ h1 ⟨hn, m1⟩
  have hn : n ≤ roomN (liveN t.slots) := hn
  have m1 : My h0 h1 ((.row 1 ((List.replicate n (-1)).flatMap idt), sh) :: (.row 1 (t.heads.flatMap idt), .slice a1 t.heads.length c1) :: (.row 10 (t.slots.flatMap Sl.dt), .slice a2 t.slots.length c2) :: R) := m1
  have hrl : ((List.replicate n (-1 : Int)).flatMap idt).length = n * 1 := by rw [fm_len idt_len, List.length_replicate]
  obtain ⟨a3, c3, rfl, _⟩ := m1.row_shape (by decide) n hrl
  simp only [go_sem, Nat.reduceBEq]
  refine Br.intro (fun hb => ?_) (fun hb => ?_) <;> (try simp only [hb, go_sem, Nat.reduceBEq])
  · have hb : n < roomN (liveN t.slots) := by simpa using hb
    have wsu := wrap_succ (i := n) (by omega)
    refine hsem_my_lit (h0 := h0) (es := idt (-1)) (parts := [(0, .int .i64 (-1))]) slT22 (by decide) (by decide) (by decide) rfl rfl (by simp [Value.cells]) (bag := (.row 1 ((List.replicate n (-1)).flatMap idt), .slice a3 n c3) :: (.row 1 (t.heads.flatMap idt), .slice a1 t.heads.length c1) :: (.row 10 (t.slots.flatMap Sl.dt), .slice a2 t.slots.length c2) :: R) (m1.raw (u := .int .i64 (-1)) rfl) rfl rfl fun l4 h4 m4 => ?_
    simp only [go_sem, Nat.reduceBEq]
    refine hsem_my_append slT22 (by decide) rfl n 1 m4.swap hrl rfl (by show (n + 1) * 8 ≤ _; omega) (by omega) fun l5 h5 m5 => ?_
    have e5 : (List.replicate n (-1 : Int)).flatMap idt ++ idt (-1) = (List.replicate (n + 1) (-1 : Int)).flatMap idt := by rw [List.replicate_succ', List.flatMap_append, List.flatMap_cons, List.flatMap_nil, List.append_nil]
    rw [e5] at m5
    obtain ⟨a6, c6, rfl, _⟩ := m5.row_shape (by decide) (n + 1) (by rw [fm_len idt_len, List.length_replicate])
    simp only [wsu, go_sem, Nat.reduceBEq, Nat.reduceAdd, Nat.reduceLeDiff]
    exact Again.intro (n + 1, .slice a6 (n + 1) c6) (by first | omega | (simp only; omega)) ⟨hb, m5⟩ (by repeat (first | exact wkF_e | refine wkF_c rfl ?_)) (wkB_c rfl (wkB_c rfl (wkB_c rfl wkB_e))) rfl
  have hb : n = roomN (liveN t.slots) := by simp at hb; omega
  subst hb
  have ef : t.fresh.heads.length = roomN (liveN t.slots) := by
    show (List.replicate (roomN (liveN t.slots)) (-1 : Int)).length = _
    rw [List.length_replicate]
  refine aloop (ι := Nat × List Dt × (Option Addr × Nat) × (Option Addr × Nat)) (fun x => [(7, .val (.int .i64 (x.1 : Nat))), (2, .box 2 0), (5, .box 5 0), (4, .box 4 0)])
    (fun x => [(2, [.bool t.hashed, .slice a1 t.heads.length c1, .slice a2 t.slots.length c2, .int .i64 t.next, .int .i64 t.count]), (5, [.bool (t.fresh.pushAll (t.slots.take x.1)).hashed, .slice x.2.2.1.1 (t.fresh.pushAll (t.slots.take x.1)).heads.length x.2.2.1.2, .slice x.2.2.2.1 (t.fresh.pushAll (t.slots.take x.1)).slots.length x.2.2.2.2, .int .i64 (t.fresh.pushAll (t.slots.take x.1)).next, .int .i64 (t.fresh.pushAll (t.slots.take x.1)).count]), (4, [.bool false, .slice none 0 0, .slice none 0 0, .int .i64 0, .int .i64 0])])
    (fun x h' => x.1 ≤ t.slots.length ∧ x.2.1.length = x.1 * 10 ∧ My h0 h' ((.row 1 ((t.fresh.pushAll (t.slots.take x.1)).heads.flatMap idt), .slice x.2.2.1.1 (t.fresh.pushAll (t.slots.take x.1)).heads.length x.2.2.1.2) :: (.row 10 ((t.fresh.pushAll (t.slots.take x.1)).slots.flatMap Sl.dt), .slice x.2.2.2.1 (t.fresh.pushAll (t.slots.take x.1)).slots.length x.2.2.2.2) :: (.row 10 (x.2.1 ++ (t.slots.drop x.1).flatMap Sl.dt), .slice a2 t.slots.length c2) :: (.row 1 (t.heads.flatMap idt), .slice a1 t.heads.length c1) :: R)) (fun x => t.slots.length - x.1) (0, [], (a3, c3), (none, 0))
    ⟨Nat.zero_le _, rfl, by
      show My h0 h1 ((.row 1 (t.fresh.heads.flatMap idt), .slice a3 t.fresh.heads.length c3) :: _)
      rw [ef]
      exact ((m1.nilrow (a := none)).swap.perm ((List.Perm.swap _ _ _).cons _ |>.cons _))⟩ (by repeat (first | exact wkF_e | refine wkF_c rfl ?_)) (by
      show wkB _ [(2, _), (5, [.bool true, .slice a3 t.fresh.heads.length c3, .slice none 0 0, .int .i64 t.next, .int .i64 0]), (4, _)]
      rw [ef]
      exact wkB_c rfl (wkB_c rfl (wkB_c rfl wkB_e))) rfl ?_
  rintro ⟨i, A, ⟨a5, c5⟩, ⟨a6, c6⟩⟩ h6 ⟨hi, hA, m6⟩
  have hi : i ≤ t.slots.length := hi
  have hA : A.length = i * 10 := hA
  have m6 : My h0 h6 ((.row 1 ((t.fresh.pushAll (t.slots.take i)).heads.flatMap idt), .slice a5 (t.fresh.pushAll (t.slots.take i)).heads.length c5) :: (.row 10 ((t.fresh.pushAll (t.slots.take i)).slots.flatMap Sl.dt), .slice a6 (t.fresh.pushAll (t.slots.take i)).slots.length c6) :: (.row 10 (A ++ (t.slots.drop i).flatMap Sl.dt), .slice a2 t.slots.length c2) :: (.row 1 (t.heads.flatMap idt), .slice a1 t.heads.length c1) :: R) := m6
  have way := Tb.onWay.all ch hl i hi
  simp only [go_sem, Nat.reduceBEq]
  refine Br.intro (fun hb => ?_) (fun hb => ?_) <;> (try simp only [hb, go_sem, Nat.reduceBEq, Nat.reduceAdd, Nat.reduceLeDiff])
  · have hb : i < t.slots.length := by simpa using hb
    obtain ⟨e, he, _⟩ := get_lt hb
    have wsu := wrap_succ (i := i) (by omega)
    have hke := ch.keys i e he
    have hpa := Tb.pushAll_snoc (o := t.fresh) he
    rw [drop_cons he, List.flatMap_cons] at m6
    obtain ⟨ae, ne, m7⟩ := slot_open m6.third
    obtain ⟨_, _, es, _, _, hat⟩ := m7.swap.row_shape (by decide) t.slots.length (by rw [List.length_append, List.length_append, srw_len, hA, fm_len Sl.dt_len, List.length_drop]; omega)
    cases es
    obtain ⟨b2, rfl⟩ := hat (by omega)
    simp only [ix_nat hb, go_sem, Nat.reduceBEq, Nat.reduceAdd]
    refine hsem_srwL tyS4 m7.swap (by omega) (by omega) ?_
    cases hv : e.live with
    | true =>
      rw [hv, if_pos rfl] at hpa
      have hbs : (((t.fresh.pushAll (t.slots.take i)).push e.key e.val).bump e.key) = t.fresh.pushAll (t.slots.take (i + 1)) := by
        rw [Tb.bump_same (by show e.key.text = true ∨ e.key.num < (t.fresh.pushAll (t.slots.take i)).next; rw [way.next]; exact hke.2), ← hpa]
      simp only [go_sem, Nat.reduceBEq]
      refine regionD_intro (lb := [34, 36, 42]) (by kernel_rfl) ?_
      simp only [ix_nat hb, go_sem, Nat.reduceBEq, Nat.reduceAdd, Nat.reduceLeDiff]
      refine hsem_srwK tyS40 m7.swap (by omega) (by omega) ?_
      simp only [ix_nat hb, go_sem, Nat.reduceBEq, Nat.reduceAdd]
      refine hsem_srwV tyS44 m7.swap (by omega) (by omega) ?_
      simp only [go_sem, Nat.reduceBEq]
      refine (sPush (t.fresh.pushAll (t.slots.take i)) way.ch e.key (by have := hks e (List.mem_of_getElem? he); omega) hke.1 e.val _ _ _ _ _ _ h0 _ _ m7.fourth.fourth.third).mono ?_
      rintro _ h8 ⟨a7, c7, a8, c8, rfl, m8⟩
      rw [hbs] at m8 ⊢
      simp only [wsu, go_sem, Nat.reduceBEq, Nat.reduceAdd, Nat.reduceLeDiff]
      refine Again.intro (i + 1, A ++ srw e (.slice ae e.val.items.length ne), (a7, c7), (a8, c8)) (by first | omega | (simp only; omega)) ⟨hb, ?_, ?_⟩ (by repeat (first | exact wkF_e | refine wkF_c rfl ?_)) (wkB_c rfl (wkB_c rfl (wkB_c rfl wkB_e))) rfl
      · simp only [List.length_append, srw_len, hA]
        omega
      · simp only [List.append_assoc]
        exact m8
    | false =>
      rw [hv, if_neg (by simp)] at hpa
      simp only [wsu, go_sem, Nat.reduceBEq]
      refine Again.intro (i + 1, A ++ srw e (.slice ae e.val.items.length ne), (a5, c5), (a6, c6)) (by first | omega | (simp only; omega)) ⟨hb, ?_, ?_⟩ (by repeat (first | exact wkF_e | refine wkF_c rfl ?_)) (by simp only [hpa]; exact wkB_c rfl (wkB_c rfl (wkB_c rfl wkB_e))) rfl
      · simp only [List.length_append, srw_len, hA]
        omega
      · simp only [List.append_assoc]
        rw [hpa]
        exact m7.drop.third.third
  · have hb : i = t.slots.length := by simp at hb; omega
    subst hb
    rw [List.take_length] at m6
    simp only [List.take_length, go_sem]
    try simp only [go_sem, Nat.reduceBEq, Nat.reduceAdd, Nat.reduceLeDiff, Nat.reduceEqDiff, Int.reduceEq, not_false_eq_true, Int.reduceToNat]
    exact ⟨a5, c5, a6, c6, rfl, m6.third.drop.third.drop⟩
theorem keyOk_size {k : Ky} (h : keyOk k = true) : k.str.size ≤ 400 := by
  unfold keyOk at h
  cases ht : k.text with
  | true => rw [ht] at h; simp at h; omega
  | false => rw [ht] at h; simp at h; rw [h.1]; exact Nat.zero_le _
theorem ch_ks {t : Tb} (ch : t.ch) : ∀ e ∈ t.slots, e.key.str.size ≤ 1152921504606846976 := fun e he => by
  obtain ⟨i, hi, rfl⟩ := List.mem_iff_getElem.1 he
  have := keyOk_size (ch.keys i _ (List.getElem?_eq_getElem hi)).1
  omega
theorem ownT_set {h0 h' : Hp} {t : Tb} {i : Nat} {s : Sl} {x : V} {R : Bag} {a1 a2 : Option Addr} {c1 c2 : Nat} (hs : t.slots[i]? = some s) (m : My h0 h' ((.row 1 (t.heads.flatMap idt), .slice a1 t.heads.length c1) :: (.row 10 ((t.slots.take i ++ ⟨s.key, x, s.live, s.link⟩ :: t.slots.drop (i + 1)).flatMap Sl.dt), .slice a2 t.slots.length c2) :: R)) :
    OwnT h0 (t.setVal i x) R (.agg #[.bool t.hashed, .slice a1 t.heads.length c1, .slice a2 t.slots.length c2, .int .i64 t.next, .int .i64 t.count]) h' := by
  rw [Tb.setVal_eq hs]
  refine ⟨a1, c1, a2, c2, ?_, ?_⟩
  · show _ = Value.agg #[.bool t.hashed, .slice a1 t.heads.length c1, .slice a2 (t.slots.take i ++ ⟨s.key, x, s.live, s.link⟩ :: t.slots.drop (i + 1)).length c2, .int .i64 t.next, .int .i64 t.count]
    rw [set_len hs]
  · show My h0 h' ((.row 1 (t.heads.flatMap idt), .slice a1 t.heads.length c1) :: (.row 10 _, .slice a2 (t.slots.take i ++ ⟨s.key, x, s.live, s.link⟩ :: t.slots.drop (i + 1)).length c2) :: R)
    rw [set_len hs]
    exact m
theorem put_some {t : Tb} {k : Ky} {x : V} {i : Nat} (h : t.find k = some i) : t.put k x = t.setVal i x := by unfold Tb.put; rw [h]
theorem put_none {t : Tb} {k : Ky} {x : V} (h : t.find k = none) : t.put k x = (((t.hashIf k).growIf).push k x).bump k := by unfold Tb.put; rw [h]
theorem hashIf_yes {t : Tb} {k : Ky} (h : t.hashed = false) (h2 : ¬ k = ⟨false, (t.slots.length : Nat), ⟨#[]⟩⟩ ∨ t.slots.length = 1024) : t.hashIf k = t.build := if_pos ⟨h, h2⟩
theorem hashIf_no {t : Tb} {k : Ky} (h : t.hashed = true ∨ (k = ⟨false, (t.slots.length : Nat), ⟨#[]⟩⟩ ∧ ¬ t.slots.length = 1024)) : t.hashIf k = t := by
  refine if_neg fun q => ?_
  rcases h with h | h
  · rw [h] at q; exact absurd q.1 (by simp)
  · exact q.2.elim (fun n => n h.1) h.2
theorem growIf_yes {t : Tb} (h : t.hashed = true) (h2 : t.slots.length = t.heads.length) : t.growIf = t.build := if_pos ⟨h, h2⟩
theorem growIf_no {t : Tb} (h : ¬ (t.hashed = true ∧ t.slots.length = t.heads.length)) : t.growIf = t := if_neg h
theorem build_grow {t : Tb} (ch : t.ch) (hl : liveN t.slots < 1024) : t.build.growIf = t.build := by
  have w := ch.build hl
  have hr := roomN_spec hl
  have h2 := w.len
  rw [List.take_length] at h2
  have h3 := w.size
  exact growIf_no fun q => by omega
theorem build_hashed {t : Tb} (ch : t.ch) (hl : liveN t.slots < 1024) : t.build.hashed = true := (ch.build hl).hashed
theorem build_ne {t : Tb} (ch : t.ch) (hl : liveN t.slots < 1024) : ¬ t.build.slots.length = t.build.heads.length := by
  have w := ch.build hl
  have hr := roomN_spec hl
  have h2 := w.len
  rw [List.take_length] at h2
  have h3 := w.size
  omega
theorem bump_dt_text {t : Tb} {k : Ky} (h : k.text = true) : (t.bump k).dt = t.dt := by unfold Tb.bump; rw [h]; rfl
theorem bump_dt {t : Tb} {k : Ky} (h : k.text = false) : (t.bump k).dt = [.raw (.bool t.hashed), .row 1 (t.heads.flatMap idt), .row 10 (t.slots.flatMap Sl.dt), .raw (.int .i64 (max t.next (k.num + 1))), .raw (.int .i64 t.count)] := by unfold Tb.bump; rw [h]; rfl
theorem dec_len {a b : Nat} : decide (((a : Nat) : Int) = ((b : Nat) : Int)) = decide (a = b) := decide_eq_decide.2 (by omega)
set_option maxHeartbeats 1600000 in
theorem iPut (t : Tb) (ch : t.ch) (k : Ky) (ko : keyOk k = true) (x : V) (hl : t.find k = none → liveN t.slots < 1024) (ax a1 a2 : Option Addr) (cx c1 c2 : Nat) (h0 h : Hp) (R : Bag) (m : My h0 h ((.row 8 (x.items.flatMap edt), .slice ax x.items.length cx) :: (.row 1 (t.heads.flatMap idt), .slice a1 t.heads.length c1) :: (.row 10 (t.slots.flatMap Sl.dt), .slice a2 t.slots.length c2) :: R)) :
    ACalls Tryz.prog 64 #[.agg #[.bool t.hashed, .slice a1 t.heads.length c1, .slice a2 t.slots.length c2, .int .i64 t.next, .int .i64 t.count], .agg #[.bool k.text, .int .i64 k.num, .string k.str], .agg #[.int .i64 x.kind, .int .i64 x.num, .string x.str, .int .i64 x.next, .slice ax x.items.length cx]] h (OwnT h0 (t.put k x) R) := by
  have hls := ch.len
  have hk : k.str.size ≤ 1152921504606846976 := by have := keyOk_size ko; omega
  (refine enter Tryz.func64 rfl rfl (by kernel_rfl) [3] ?_; simp only [go_sem, Nat.reduceBEq])
  refine hsem_my_box (h0 := h0) (es := t.dt) (tab_zip t m.third.third) rfl fun b0 h1 m1 => ?_
  simp only [go_sem, Nat.reduceBEq]
  refine tb_load Hold.ptr tyS36 m1 rfl fun s u r1 r2 => ?_
  simp only [go_sem, Nat.reduceBEq, Nat.reduceAdd, Nat.reduceLeDiff]
  (refine (iFind t k ch hk _ _ _ r1 r2).mono ?_; rintro _ _ ⟨rfl, rfl⟩; simp only [go_sem, Nat.reduceBEq])
  obtain ⟨a3, c3, a4, c4, m2⟩ := tb_open Hold.ptr m1
  cases hf : t.find k with
  | some i =>
    obtain ⟨s, hs, _⟩ := Tb.find_live hf
    have hlt := (List.getElem?_eq_some_iff.1 hs).1
    rw [put_some hf]
    simp only [ixI_some, go_sem]
    refine Br.intro (fun hz => ?_) (fun hz => ?_) <;> (try simp only [hz, go_sem, Nat.reduceBEq, Nat.reduceAdd])
    case refine_2 => exact absurd (of_decide_eq_false hz) (by omega)
    obtain ⟨_, _, e5, _, _, hat⟩ := m2.swap.row_shape (by decide) t.slots.length (fm_len Sl.dt_len _)
    cases e5
    obtain ⟨b2, rfl⟩ := hat (by omega)
    refine Hold.ld1 (i := 2) Hold.ptr tyS34 m2.third rfl rfl ?_
    simp only [ix_nat hlt, go_sem, Nat.reduceBEq, Nat.reduceAdd, Nat.reduceLeDiff]
    obtain ⟨c6, hd6, hc6⟩ := hold_sval (b := b2) (cap := c4) hs
    have m3 : My h0 h1 ((.row 8 (x.items.flatMap edt), .slice ax x.items.length cx) :: (c6 s.val.dt, .slice (some ⟨b2, 0, none⟩) t.slots.length c4) :: (.ptr [] (traws t (.slice a3 t.heads.length c3) (.slice (some ⟨b2, 0, none⟩) t.slots.length c4)) [], .pointer (some ⟨b0, 0, none⟩)) :: (.row 1 (t.heads.flatMap idt), .slice a3 t.heads.length c3) :: R) := by
      rw [hc6, slot_self hs]
      exact m2.fourth.fourth.fourth.third
    refine var_store hd6 (w := x) (V.dt_len _) m3 (by omega) fun h3 m4 => ?_
    rw [hc6] at m4
    simp only [go_sem, Nat.reduceBEq]
    refine tb_ldraw (tb := t) Hold.ptr tyS36 m4.swap rfl ?_
    try simp only [go_sem, Nat.reduceBEq, Nat.reduceAdd, Nat.reduceLeDiff]
    exact ownT_set hs m4.swap.drop.swap
  | none =>
  have hlv := hl hf
  have hb := ch.build hlv
  rw [put_none hf]
  simp only [ixI_none, go_sem]
  refine Br.intro (fun hz => ?_) (fun hz => ?_) <;> (try simp only [hz, go_sem, Nat.reduceBEq, Nat.reduceAdd])
  case refine_1 => exact absurd (of_decide_eq_true hz) (by decide)
  refine regionD_intro (lb := [24]) (by kernel_rfl) ?_
  simp only [go_sem, Nat.reduceBEq]
  refine Hold.ld1 (i := 0) Hold.ptr tyS4 m2.third rfl rfl ?_
  by_cases ht : t.hashed = true
  · rw [hashIf_no (.inl ht)]
    simp only [ht, go_sem, Nat.reduceBEq]
    refine Hold.ld1 (i := 0) Hold.ptr tyS4 m2.third rfl rfl ?_
    simp only [ht, go_sem, Nat.reduceBEq, Nat.reduceAdd]
    refine Hold.ld1 (i := 2) Hold.ptr tyS34 m2.third rfl rfl ?_
    simp only [go_sem, Nat.reduceBEq]
    refine Hold.ld1 (i := 1) Hold.ptr tyS22 m2.third rfl rfl ?_
    simp only [dec_len, go_sem, Nat.reduceBEq]
    by_cases hg : t.slots.length = t.heads.length
    · rw [growIf_yes ht hg]
      simp only [decide_eq_true hg, go_sem, Nat.reduceBEq]
      try simp only [go_sem, Nat.reduceBEq, Nat.reduceAdd, Nat.reduceLeDiff, Nat.reduceEqDiff, Int.reduceEq, not_false_eq_true, Int.reduceToNat]
      refine tb_ldraw (tb := t) Hold.ptr tyS36 m2.third rfl ?_
      simp only [go_sem, Nat.reduceBEq]
      refine (iRebuilt t ch hlv (ch_ks ch) _ _ _ _ h0 _ _ m2).mono ?_
      rintro _ h5 ⟨a5, c5, a6, c6, rfl, m5⟩
      simp only [go_sem, Nat.reduceBEq]
      refine tb_store (tb := t.build) Hold.ptr tyS36 (traws_len _ _ _) m5 rfl fun h6 m6 => ?_
      have m7 := m6.swap
      try simp only [go_sem, Nat.reduceBEq, Nat.reduceAdd, Nat.reduceLeDiff]
      refine (iAddSlot Hold.ptr t.build hb.ch k hk x _ _ h0 _ _ m7).mono ?_
      rintro _ h8 ⟨rfl, m8⟩
      by_cases kt : k.text = true
      · simp only [kt, go_sem, Nat.reduceBEq]
        rw [← bump_dt_text kt] at m8
        obtain ⟨a7, c7, a8, c8, m9⟩ := tb_open (t := (t.build.push k x).bump k) Hold.ptr m8
        refine tb_ldraw (tb := (t.build.push k x).bump k) Hold.ptr tyS36 m9.third rfl ?_
        try simp only [go_sem, Nat.reduceBEq, Nat.reduceAdd, Nat.reduceLeDiff]
        exact ⟨a7, c7, a8, c8, rfl, m9.third.drop⟩
      · have kt : k.text = false := by simpa using kt
        have wk : IntKind.i64.wrap (k.num + 1) = k.num + 1 := by
          have := keyOk_num ko
          rw [kt] at this
          simp at this
          exact IntWalk.i64_in _ (by omega)
        simp only [kt, go_sem, Nat.reduceBEq, Nat.reduceAdd]
        refine Hold.ld1 (i := 3) Hold.ptr tyS3 m8 rfl rfl ?_
        simp only [wk, go_sem, Nat.reduceBEq]
        (refine (iMax _ _ _).mono ?_; rintro _ _ ⟨rfl, rfl⟩; simp only [go_sem, Nat.reduceBEq, Nat.reduceAdd])
        refine Hold.setC (d := .raw (.int .i64 (t.build.push k x).next)) Hold.ptr [.raw (.bool (t.build.push k x).hashed), .row 1 ((t.build.push k x).heads.flatMap idt), .row 10 ((t.build.push k x).slots.flatMap Sl.dt)] [.raw (.int .i64 (t.build.push k x).count)] tyS3 rfl rfl m8 rfl fun h9 m9 => ?_
        have m9 : My h0 h9 ((.ptr [] ((t.build.push k x).bump k).dt [], .pointer (some ⟨b0, 0, none⟩)) :: R) := by rw [bump_dt kt]; exact m9
        obtain ⟨a7, c7, a8, c8, m10⟩ := tb_open (t := (t.build.push k x).bump k) Hold.ptr m9
        simp only [go_sem, Nat.reduceBEq]
        refine tb_ldraw (tb := (t.build.push k x).bump k) Hold.ptr tyS36 m10.third rfl ?_
        try simp only [go_sem, Nat.reduceBEq, Nat.reduceAdd, Nat.reduceLeDiff]
        exact ⟨a7, c7, a8, c8, rfl, m10.third.drop⟩
    · rw [growIf_no fun q => hg q.2]
      simp only [decide_eq_false hg, go_sem, Nat.reduceBEq, Nat.reduceAdd, Nat.reduceLeDiff]
      try simp only [go_sem, Nat.reduceBEq, Nat.reduceAdd, Nat.reduceLeDiff, Nat.reduceEqDiff, Int.reduceEq, not_false_eq_true, Int.reduceToNat]
      refine (iAddSlot Hold.ptr t ch k hk x _ _ h0 _ _ m1.swap).mono ?_
      rintro _ h8 ⟨rfl, m8⟩
      by_cases kt : k.text = true
      · simp only [kt, go_sem, Nat.reduceBEq]
        rw [← bump_dt_text kt] at m8
        obtain ⟨a7, c7, a8, c8, m9⟩ := tb_open (t := (t.push k x).bump k) Hold.ptr m8
        refine tb_ldraw (tb := (t.push k x).bump k) Hold.ptr tyS36 m9.third rfl ?_
        try simp only [go_sem, Nat.reduceBEq, Nat.reduceAdd, Nat.reduceLeDiff]
        exact ⟨a7, c7, a8, c8, rfl, m9.third.drop⟩
      · have kt : k.text = false := by simpa using kt
        have wk : IntKind.i64.wrap (k.num + 1) = k.num + 1 := by
          have := keyOk_num ko
          rw [kt] at this
          simp at this
          exact IntWalk.i64_in _ (by omega)
        simp only [kt, go_sem, Nat.reduceBEq, Nat.reduceAdd]
        refine Hold.ld1 (i := 3) Hold.ptr tyS3 m8 rfl rfl ?_
        simp only [wk, go_sem, Nat.reduceBEq]
        (refine (iMax _ _ _).mono ?_; rintro _ _ ⟨rfl, rfl⟩; simp only [go_sem, Nat.reduceBEq, Nat.reduceAdd])
        refine Hold.setC (d := .raw (.int .i64 (t.push k x).next)) Hold.ptr [.raw (.bool (t.push k x).hashed), .row 1 ((t.push k x).heads.flatMap idt), .row 10 ((t.push k x).slots.flatMap Sl.dt)] [.raw (.int .i64 (t.push k x).count)] tyS3 rfl rfl m8 rfl fun h9 m9 => ?_
        have m9 : My h0 h9 ((.ptr [] ((t.push k x).bump k).dt [], .pointer (some ⟨b0, 0, none⟩)) :: R) := by rw [bump_dt kt]; exact m9
        obtain ⟨a7, c7, a8, c8, m10⟩ := tb_open (t := (t.push k x).bump k) Hold.ptr m9
        simp only [go_sem, Nat.reduceBEq]
        refine tb_ldraw (tb := (t.push k x).bump k) Hold.ptr tyS36 m10.third rfl ?_
        try simp only [go_sem, Nat.reduceBEq, Nat.reduceAdd, Nat.reduceLeDiff]
        exact ⟨a7, c7, a8, c8, rfl, m10.third.drop⟩
  · have ht : t.hashed = false := by simpa using ht
    simp only [ht, go_sem, Nat.reduceBEq, Nat.reduceAdd, Nat.reduceLeDiff]
    refine Hold.ld1 (i := 2) Hold.ptr tyS34 m2.third rfl rfl ?_
    simp only [go_sem, Nat.reduceBEq]
    (refine (iIntKey _ _).mono ?_; rintro _ _ ⟨rfl, rfl⟩; simp only [go_sem, Nat.reduceBEq])
    have kd : decide (k.text = false ∧ k.num = ((t.slots.length : Nat) : Int) ∧ k.str = ⟨#[]⟩) = decide (k = ⟨false, (t.slots.length : Nat), ⟨#[]⟩⟩) := key_dec k ⟨false, (t.slots.length : Nat), ⟨#[]⟩⟩
    simp only [kd, go_sem]
    by_cases hq : k = ⟨false, (t.slots.length : Nat), ⟨#[]⟩⟩
    · simp only [decide_eq_true hq, Bool.not_true, go_sem, Nat.reduceBEq, Nat.reduceAdd]
      refine Hold.ld1 (i := 2) Hold.ptr tyS34 m2.third rfl rfl ?_
      simp only [go_sem, Nat.reduceBEq]
      by_cases hn : t.slots.length = 1024
      · rw [hashIf_yes ht (.inr hn), build_grow ch hlv]
        simp only [decide_eq_true (show (1024 : Int) ≤ ((t.slots.length : Nat) : Int) by omega), go_sem, Nat.reduceBEq]
        try simp only [go_sem, Nat.reduceBEq, Nat.reduceAdd, Nat.reduceLeDiff, Nat.reduceEqDiff, Int.reduceEq, not_false_eq_true, Int.reduceToNat]
        refine tb_ldraw (tb := t) Hold.ptr tyS36 m2.third rfl ?_
        simp only [go_sem, Nat.reduceBEq]
        refine (iRebuilt t ch hlv (ch_ks ch) _ _ _ _ h0 _ _ m2).mono ?_
        rintro _ h5 ⟨a5, c5, a6, c6, rfl, m5⟩
        simp only [go_sem, Nat.reduceBEq]
        refine tb_store (tb := t.build) Hold.ptr tyS36 (traws_len _ _ _) m5 rfl fun h6 m6 => ?_
        have m7 := m6.swap
        obtain ⟨a9, c9, a10, c10, m9⟩ := tb_open Hold.ptr m6
        simp only [go_sem, Nat.reduceBEq]
        refine Hold.ld1 (i := 0) Hold.ptr tyS4 m9.third rfl rfl ?_
        simp only [build_hashed ch hlv, go_sem, Nat.reduceBEq, Nat.reduceAdd]
        refine Hold.ld1 (i := 2) Hold.ptr tyS34 m9.third rfl rfl ?_
        simp only [go_sem, Nat.reduceBEq]
        refine Hold.ld1 (i := 1) Hold.ptr tyS22 m9.third rfl rfl ?_
        simp only [dec_len, decide_eq_false (build_ne ch hlv), go_sem, Nat.reduceBEq, Nat.reduceAdd, Nat.reduceLeDiff]
        try simp only [go_sem, Nat.reduceBEq, Nat.reduceAdd, Nat.reduceLeDiff, Nat.reduceEqDiff, Int.reduceEq, not_false_eq_true, Int.reduceToNat]
        refine (iAddSlot Hold.ptr t.build hb.ch k hk x _ _ h0 _ _ m7).mono ?_
        rintro _ h8 ⟨rfl, m8⟩
        by_cases kt : k.text = true
        · simp only [kt, go_sem, Nat.reduceBEq]
          rw [← bump_dt_text kt] at m8
          obtain ⟨a7, c7, a8, c8, m9⟩ := tb_open (t := (t.build.push k x).bump k) Hold.ptr m8
          refine tb_ldraw (tb := (t.build.push k x).bump k) Hold.ptr tyS36 m9.third rfl ?_
          try simp only [go_sem, Nat.reduceBEq, Nat.reduceAdd, Nat.reduceLeDiff]
          exact ⟨a7, c7, a8, c8, rfl, m9.third.drop⟩
        · have kt : k.text = false := by simpa using kt
          have wk : IntKind.i64.wrap (k.num + 1) = k.num + 1 := by
            have := keyOk_num ko
            rw [kt] at this
            simp at this
            exact IntWalk.i64_in _ (by omega)
          simp only [kt, go_sem, Nat.reduceBEq, Nat.reduceAdd]
          refine Hold.ld1 (i := 3) Hold.ptr tyS3 m8 rfl rfl ?_
          simp only [wk, go_sem, Nat.reduceBEq]
          (refine (iMax _ _ _).mono ?_; rintro _ _ ⟨rfl, rfl⟩; simp only [go_sem, Nat.reduceBEq, Nat.reduceAdd])
          refine Hold.setC (d := .raw (.int .i64 (t.build.push k x).next)) Hold.ptr [.raw (.bool (t.build.push k x).hashed), .row 1 ((t.build.push k x).heads.flatMap idt), .row 10 ((t.build.push k x).slots.flatMap Sl.dt)] [.raw (.int .i64 (t.build.push k x).count)] tyS3 rfl rfl m8 rfl fun h9 m9 => ?_
          have m9 : My h0 h9 ((.ptr [] ((t.build.push k x).bump k).dt [], .pointer (some ⟨b0, 0, none⟩)) :: R) := by rw [bump_dt kt]; exact m9
          obtain ⟨a7, c7, a8, c8, m10⟩ := tb_open (t := (t.build.push k x).bump k) Hold.ptr m9
          simp only [go_sem, Nat.reduceBEq]
          refine tb_ldraw (tb := (t.build.push k x).bump k) Hold.ptr tyS36 m10.third rfl ?_
          try simp only [go_sem, Nat.reduceBEq, Nat.reduceAdd, Nat.reduceLeDiff]
          exact ⟨a7, c7, a8, c8, rfl, m10.third.drop⟩
      · rw [hashIf_no (.inr ⟨hq, hn⟩), growIf_no fun q => by rw [ht] at q; exact absurd q.1 (by simp)]
        simp only [decide_eq_false (show ¬ (1024 : Int) ≤ ((t.slots.length : Nat) : Int) by omega), go_sem, Nat.reduceBEq]
        refine Hold.ld1 (i := 0) Hold.ptr tyS4 m2.third rfl rfl ?_
        simp only [ht, go_sem, Nat.reduceBEq, Nat.reduceAdd, Nat.reduceLeDiff]
        try simp only [go_sem, Nat.reduceBEq, Nat.reduceAdd, Nat.reduceLeDiff, Nat.reduceEqDiff, Int.reduceEq, not_false_eq_true, Int.reduceToNat]
        refine (iAddSlot Hold.ptr t ch k hk x _ _ h0 _ _ m1.swap).mono ?_
        rintro _ h8 ⟨rfl, m8⟩
        by_cases kt : k.text = true
        · simp only [kt, go_sem, Nat.reduceBEq]
          rw [← bump_dt_text kt] at m8
          obtain ⟨a7, c7, a8, c8, m9⟩ := tb_open (t := (t.push k x).bump k) Hold.ptr m8
          refine tb_ldraw (tb := (t.push k x).bump k) Hold.ptr tyS36 m9.third rfl ?_
          try simp only [go_sem, Nat.reduceBEq, Nat.reduceAdd, Nat.reduceLeDiff]
          exact ⟨a7, c7, a8, c8, rfl, m9.third.drop⟩
        · have kt : k.text = false := by simpa using kt
          have wk : IntKind.i64.wrap (k.num + 1) = k.num + 1 := by
            have := keyOk_num ko
            rw [kt] at this
            simp at this
            exact IntWalk.i64_in _ (by omega)
          simp only [kt, go_sem, Nat.reduceBEq, Nat.reduceAdd]
          refine Hold.ld1 (i := 3) Hold.ptr tyS3 m8 rfl rfl ?_
          simp only [wk, go_sem, Nat.reduceBEq]
          (refine (iMax _ _ _).mono ?_; rintro _ _ ⟨rfl, rfl⟩; simp only [go_sem, Nat.reduceBEq, Nat.reduceAdd])
          refine Hold.setC (d := .raw (.int .i64 (t.push k x).next)) Hold.ptr [.raw (.bool (t.push k x).hashed), .row 1 ((t.push k x).heads.flatMap idt), .row 10 ((t.push k x).slots.flatMap Sl.dt)] [.raw (.int .i64 (t.push k x).count)] tyS3 rfl rfl m8 rfl fun h9 m9 => ?_
          have m9 : My h0 h9 ((.ptr [] ((t.push k x).bump k).dt [], .pointer (some ⟨b0, 0, none⟩)) :: R) := by rw [bump_dt kt]; exact m9
          obtain ⟨a7, c7, a8, c8, m10⟩ := tb_open (t := (t.push k x).bump k) Hold.ptr m9
          simp only [go_sem, Nat.reduceBEq]
          refine tb_ldraw (tb := (t.push k x).bump k) Hold.ptr tyS36 m10.third rfl ?_
          try simp only [go_sem, Nat.reduceBEq, Nat.reduceAdd, Nat.reduceLeDiff]
          exact ⟨a7, c7, a8, c8, rfl, m10.third.drop⟩
    · rw [hashIf_yes ht (.inl hq), build_grow ch hlv]
      simp only [decide_eq_false hq, Bool.not_false, go_sem, Nat.reduceBEq]
      try simp only [go_sem, Nat.reduceBEq, Nat.reduceAdd, Nat.reduceLeDiff, Nat.reduceEqDiff, Int.reduceEq, not_false_eq_true, Int.reduceToNat]
      refine tb_ldraw (tb := t) Hold.ptr tyS36 m2.third rfl ?_
      simp only [go_sem, Nat.reduceBEq]
      refine (iRebuilt t ch hlv (ch_ks ch) _ _ _ _ h0 _ _ m2).mono ?_
      rintro _ h5 ⟨a5, c5, a6, c6, rfl, m5⟩
      simp only [go_sem, Nat.reduceBEq]
      refine tb_store (tb := t.build) Hold.ptr tyS36 (traws_len _ _ _) m5 rfl fun h6 m6 => ?_
      have m7 := m6.swap
      obtain ⟨a9, c9, a10, c10, m9⟩ := tb_open Hold.ptr m6
      simp only [go_sem, Nat.reduceBEq]
      refine Hold.ld1 (i := 0) Hold.ptr tyS4 m9.third rfl rfl ?_
      simp only [build_hashed ch hlv, go_sem, Nat.reduceBEq, Nat.reduceAdd]
      refine Hold.ld1 (i := 2) Hold.ptr tyS34 m9.third rfl rfl ?_
      simp only [go_sem, Nat.reduceBEq]
      refine Hold.ld1 (i := 1) Hold.ptr tyS22 m9.third rfl rfl ?_
      simp only [dec_len, decide_eq_false (build_ne ch hlv), go_sem, Nat.reduceBEq, Nat.reduceAdd, Nat.reduceLeDiff]
      try simp only [go_sem, Nat.reduceBEq, Nat.reduceAdd, Nat.reduceLeDiff, Nat.reduceEqDiff, Int.reduceEq, not_false_eq_true, Int.reduceToNat]
      refine (iAddSlot Hold.ptr t.build hb.ch k hk x _ _ h0 _ _ m7).mono ?_
      rintro _ h8 ⟨rfl, m8⟩
      by_cases kt : k.text = true
      · simp only [kt, go_sem, Nat.reduceBEq]
        rw [← bump_dt_text kt] at m8
        obtain ⟨a7, c7, a8, c8, m9⟩ := tb_open (t := (t.build.push k x).bump k) Hold.ptr m8
        refine tb_ldraw (tb := (t.build.push k x).bump k) Hold.ptr tyS36 m9.third rfl ?_
        try simp only [go_sem, Nat.reduceBEq, Nat.reduceAdd, Nat.reduceLeDiff]
        exact ⟨a7, c7, a8, c8, rfl, m9.third.drop⟩
      · have kt : k.text = false := by simpa using kt
        have wk : IntKind.i64.wrap (k.num + 1) = k.num + 1 := by
          have := keyOk_num ko
          rw [kt] at this
          simp at this
          exact IntWalk.i64_in _ (by omega)
        simp only [kt, go_sem, Nat.reduceBEq, Nat.reduceAdd]
        refine Hold.ld1 (i := 3) Hold.ptr tyS3 m8 rfl rfl ?_
        simp only [wk, go_sem, Nat.reduceBEq]
        (refine (iMax _ _ _).mono ?_; rintro _ _ ⟨rfl, rfl⟩; simp only [go_sem, Nat.reduceBEq, Nat.reduceAdd])
        refine Hold.setC (d := .raw (.int .i64 (t.build.push k x).next)) Hold.ptr [.raw (.bool (t.build.push k x).hashed), .row 1 ((t.build.push k x).heads.flatMap idt), .row 10 ((t.build.push k x).slots.flatMap Sl.dt)] [.raw (.int .i64 (t.build.push k x).count)] tyS3 rfl rfl m8 rfl fun h9 m9 => ?_
        have m9 : My h0 h9 ((.ptr [] ((t.build.push k x).bump k).dt [], .pointer (some ⟨b0, 0, none⟩)) :: R) := by rw [bump_dt kt]; exact m9
        obtain ⟨a7, c7, a8, c8, m10⟩ := tb_open (t := (t.build.push k x).bump k) Hold.ptr m9
        simp only [go_sem, Nat.reduceBEq]
        refine tb_ldraw (tb := (t.build.push k x).bump k) Hold.ptr tyS36 m10.third rfl ?_
        try simp only [go_sem, Nat.reduceBEq, Nat.reduceAdd, Nat.reduceLeDiff]
        exact ⟨a7, c7, a8, c8, rfl, m10.third.drop⟩
/-- a table of the walk's own, and a Bool -/
def OwnT2 (h0 : Hp) (t : Tb) (ok : Bool) (R : Bag) (u : Value) (h' : Hp) : Prop := ∃ w, u = .tuple #[w, .bool ok] ∧ OwnT h0 t R w h'
set_option maxHeartbeats 1600000 in
theorem sSet (t : Tb) (ch : t.ch) (k : Ky) (ko : keyOk k = true) (x : V) (ax a1 a2 : Option Addr) (cx c1 c2 : Nat) (h0 h : Hp) (R : Bag) (m : My h0 h ((.row 8 (x.items.flatMap edt), .slice ax x.items.length cx) :: (.row 1 (t.heads.flatMap idt), .slice a1 t.heads.length c1) :: (.row 10 (t.slots.flatMap Sl.dt), .slice a2 t.slots.length c2) :: R)) :
    ACalls Tryz.prog 55 #[.agg #[.bool t.hashed, .slice a1 t.heads.length c1, .slice a2 t.slots.length c2, .int .i64 t.next, .int .i64 t.count], .agg #[.bool k.text, .int .i64 k.num, .string k.str], .agg #[.int .i64 x.kind, .int .i64 x.num, .string x.str, .int .i64 x.next, .slice ax x.items.length cx]] h (OwnT2 h0 (t.set k x) (t.roomy k) R) := by
  have hls := ch.len
  have hk : k.str.size ≤ 1152921504606846976 := by have := keyOk_size ko; omega
  (refine enter Tryz.func55 rfl rfl (by kernel_rfl) [] ?_; simp only [go_sem, Nat.reduceBEq, Nat.reduceAdd, Nat.reduceLeDiff])
  (refine (sFind7 t k ch hk _ _ _ m.swap.rd m.third.rd).mono ?_; rintro _ _ ⟨rfl, rfl⟩; simp only [go_sem, Nat.reduceBEq])
  cases hf : t.find k with
  | some i =>
    obtain ⟨s, hs, _⟩ := Tb.find_live hf
    have hlt := (List.getElem?_eq_some_iff.1 hs).1
    rw [set_yes (roomy_some hf), roomy_some hf, put_some hf]
    simp only [ixI_some, go_sem]
    refine Br.intro (fun hz => ?_) (fun hz => ?_) <;> (try simp only [hz, go_sem, Nat.reduceBEq, Nat.reduceAdd, Nat.reduceLeDiff])
    case refine_2 => exact absurd (of_decide_eq_false hz) (by omega)
    obtain ⟨_, _, e5, _, _, hat⟩ := m.third.row_shape (by decide) t.slots.length (fm_len Sl.dt_len _)
    cases e5
    obtain ⟨b2, rfl⟩ := hat (by omega)
    simp only [ix_nat hlt, go_sem, Nat.reduceBEq, Nat.reduceAdd]
    obtain ⟨c6, hd6, hc6⟩ := hold_sval (b := b2) (cap := c2) hs
    have m3 : My h0 h ((.row 8 (x.items.flatMap edt), .slice ax x.items.length cx) :: (c6 s.val.dt, .slice (some ⟨b2, 0, none⟩) t.slots.length c2) :: (.row 1 (t.heads.flatMap idt), .slice a1 t.heads.length c1) :: R) := by
      rw [hc6, slot_self hs]
      exact m.third.swap
    refine var_store hd6 (w := x) (V.dt_len _) m3 (by omega) fun h3 m4 => ?_
    rw [hc6] at m4
    simp only [go_sem, Nat.reduceBEq, Nat.reduceAdd, Nat.reduceLeDiff]
    exact ⟨_, rfl, ownT_set hs m4.swap⟩
  | none =>
  have hcn := ch.cnt
  simp only [ixI_none, go_sem]
  refine Br.intro (fun hz => ?_) (fun hz => ?_) <;> (try simp only [hz, go_sem, Nat.reduceBEq, Nat.reduceAdd, Nat.reduceLeDiff])
  case refine_1 => exact absurd (of_decide_eq_true hz) (by decide)
  by_cases hlv : liveN t.slots < 1024
  case neg =>
    have hr : t.roomy k = false := by rw [roomy_none hf]; exact decide_eq_false hlv
    rw [set_no hr, hr]
    simp only [decide_eq_true (show (1024 : Int) ≤ t.count by omega), go_sem, Nat.reduceBEq, Nat.reduceAdd, Nat.reduceLeDiff]
    exact ⟨_, rfl, _, _, _, _, rfl, m.drop⟩
  have hr : t.roomy k = true := by rw [roomy_none hf]; exact decide_eq_true hlv
  have hb := ch.build hlv
  rw [set_yes hr, hr, put_none hf]
  simp only [decide_eq_false (show ¬ (1024 : Int) ≤ t.count by omega), go_sem, Nat.reduceBEq]
  by_cases ht : t.hashed = true
  · rw [hashIf_no (.inl ht)]
    have SR := sRoom t ch hlv
    simp only [ht] at SR
    have SB := sBuild t ch hlv (ch_ks ch)
    simp only [ht] at SB
    have SP := sPush t ch k hk ko x
    simp only [ht] at SP
    simp only [ht, dec_len, go_sem, Nat.reduceBEq]
    by_cases hg : t.slots.length = t.heads.length
    · rw [growIf_yes ht hg]
      simp only [decide_eq_true hg, go_sem]
      try simp only [go_sem, Nat.reduceBEq, Nat.reduceAdd, Nat.reduceLeDiff, Nat.reduceEqDiff, Int.reduceEq, not_false_eq_true, Int.reduceToNat]
      refine regionD_intro (lb := [57, 58]) (by kernel_rfl) ?_
      simp only [go_sem, Nat.reduceBEq, Nat.reduceAdd, Nat.reduceLeDiff]
      (refine (SR _ _ _).mono ?_; rintro _ _ ⟨rfl, rfl⟩; simp only [go_sem, Nat.reduceBEq])
      refine (SB _ _ _ _ h0 _ _ m.third.third).mono ?_
      rintro _ h5 ⟨a5, c5, a6, c6, rfl, m5⟩
      have m7 := m5.third
      simp only [go_sem, Nat.reduceBEq, Nat.reduceAdd, Nat.reduceLeDiff]
      try simp only [go_sem, Nat.reduceBEq, Nat.reduceAdd, Nat.reduceLeDiff, Nat.reduceEqDiff, Int.reduceEq, not_false_eq_true, Int.reduceToNat]
      refine ((sPush t.build hb.ch k hk ko x) _ _ _ _ _ _ h0 _ _ m7).mono ?_
      rintro _ h8 ⟨a7, c7, a8, c8, rfl, m8⟩
      simp only [go_sem, Nat.reduceBEq, Nat.reduceAdd, Nat.reduceLeDiff]
      exact ⟨_, rfl, a7, c7, a8, c8, rfl, m8⟩
    · rw [growIf_no fun q => hg q.2]
      simp only [decide_eq_false hg, go_sem, Nat.reduceBEq, Nat.reduceAdd, Nat.reduceLeDiff]
      try simp only [go_sem, Nat.reduceBEq, Nat.reduceAdd, Nat.reduceLeDiff, Nat.reduceEqDiff, Int.reduceEq, not_false_eq_true, Int.reduceToNat]
      refine (SP _ _ _ _ _ _ h0 _ _ m).mono ?_
      rintro _ h8 ⟨a7, c7, a8, c8, rfl, m8⟩
      simp only [go_sem, Nat.reduceBEq, Nat.reduceAdd, Nat.reduceLeDiff]
      exact ⟨_, rfl, a7, c7, a8, c8, rfl, m8⟩
  · have ht : t.hashed = false := by simpa using ht
    have SR := sRoom t ch hlv
    simp only [ht] at SR
    have SB := sBuild t ch hlv (ch_ks ch)
    simp only [ht] at SB
    have SP := sPush t ch k hk ko x
    simp only [ht] at SP
    have SPB := sPush t.build hb.ch k hk ko x
    simp only [build_hashed ch hlv] at SPB
    have kd : decide (k.text = false ∧ k.num = ((t.slots.length : Nat) : Int) ∧ k.str = ⟨#[]⟩) = decide (k = ⟨false, (t.slots.length : Nat), ⟨#[]⟩⟩) := key_dec k ⟨false, (t.slots.length : Nat), ⟨#[]⟩⟩
    simp only [ht, kd, keyT40, go_sem, Nat.reduceBEq, Nat.reduceAdd, Nat.reduceLeDiff]
    by_cases hq : k = ⟨false, (t.slots.length : Nat), ⟨#[]⟩⟩
    · simp only [decide_eq_true hq, Bool.not_true, go_sem, Nat.reduceBEq]
      by_cases hn : t.slots.length = 1024
      · rw [hashIf_yes ht (.inr hn), build_grow ch hlv]
        simp only [decide_eq_true (show ((t.slots.length : Nat) : Int) = 1024 by omega), go_sem]
        try simp only [go_sem, Nat.reduceBEq, Nat.reduceAdd, Nat.reduceLeDiff, Nat.reduceEqDiff, Int.reduceEq, not_false_eq_true, Int.reduceToNat]
        refine regionD_intro (lb := [42, 43]) (by kernel_rfl) ?_
        simp only [go_sem, Nat.reduceBEq, Nat.reduceAdd, Nat.reduceLeDiff]
        (refine (SR _ _ _).mono ?_; rintro _ _ ⟨rfl, rfl⟩; simp only [go_sem, Nat.reduceBEq])
        refine (SB _ _ _ _ h0 _ _ m.third.third).mono ?_
        rintro _ h5 ⟨a5, c5, a6, c6, rfl, m5⟩
        have m7 := m5.third
        simp only [go_sem, Nat.reduceBEq, Nat.reduceAdd, Nat.reduceLeDiff]
        simp only [build_hashed ch hlv, dec_len, decide_eq_false (build_ne ch hlv), go_sem, Nat.reduceBEq, Nat.reduceAdd, Nat.reduceLeDiff]
        try simp only [go_sem, Nat.reduceBEq, Nat.reduceAdd, Nat.reduceLeDiff, Nat.reduceEqDiff, Int.reduceEq, not_false_eq_true, Int.reduceToNat]
        refine (SPB _ _ _ _ _ _ h0 _ _ m7).mono ?_
        rintro _ h8 ⟨a7, c7, a8, c8, rfl, m8⟩
        simp only [go_sem, Nat.reduceBEq, Nat.reduceAdd, Nat.reduceLeDiff]
        exact ⟨_, rfl, a7, c7, a8, c8, rfl, m8⟩
      · rw [hashIf_no (.inr ⟨hq, hn⟩), growIf_no fun q => by rw [ht] at q; exact absurd q.1 (by simp)]
        simp only [decide_eq_false (show ¬ ((t.slots.length : Nat) : Int) = 1024 by omega), go_sem, Nat.reduceBEq, Nat.reduceAdd, Nat.reduceLeDiff]
        try simp only [go_sem, Nat.reduceBEq, Nat.reduceAdd, Nat.reduceLeDiff, Nat.reduceEqDiff, Int.reduceEq, not_false_eq_true, Int.reduceToNat]
        refine (SP _ _ _ _ _ _ h0 _ _ m).mono ?_
        rintro _ h8 ⟨a7, c7, a8, c8, rfl, m8⟩
        simp only [go_sem, Nat.reduceBEq, Nat.reduceAdd, Nat.reduceLeDiff]
        exact ⟨_, rfl, a7, c7, a8, c8, rfl, m8⟩
    · rw [hashIf_yes ht (.inl hq), build_grow ch hlv]
      simp only [decide_eq_false hq, Bool.not_false, go_sem, Nat.reduceBEq]
      try simp only [go_sem, Nat.reduceBEq, Nat.reduceAdd, Nat.reduceLeDiff, Nat.reduceEqDiff, Int.reduceEq, not_false_eq_true, Int.reduceToNat]
      refine regionD_intro (lb := [42, 43]) (by kernel_rfl) ?_
      simp only [go_sem, Nat.reduceBEq, Nat.reduceAdd, Nat.reduceLeDiff]
      (refine (SR _ _ _).mono ?_; rintro _ _ ⟨rfl, rfl⟩; simp only [go_sem, Nat.reduceBEq])
      refine (SB _ _ _ _ h0 _ _ m.third.third).mono ?_
      rintro _ h5 ⟨a5, c5, a6, c6, rfl, m5⟩
      have m7 := m5.third
      simp only [go_sem, Nat.reduceBEq, Nat.reduceAdd, Nat.reduceLeDiff]
      simp only [build_hashed ch hlv, dec_len, decide_eq_false (build_ne ch hlv), go_sem, Nat.reduceBEq, Nat.reduceAdd, Nat.reduceLeDiff]
      try simp only [go_sem, Nat.reduceBEq, Nat.reduceAdd, Nat.reduceLeDiff, Nat.reduceEqDiff, Int.reduceEq, not_false_eq_true, Int.reduceToNat]
      refine (SPB _ _ _ _ _ _ h0 _ _ m7).mono ?_
      rintro _ h8 ⟨a7, c7, a8, c8, rfl, m8⟩
      simp only [go_sem, Nat.reduceBEq, Nat.reduceAdd, Nat.reduceLeDiff]
      exact ⟨_, rfl, a7, c7, a8, c8, rfl, m8⟩
theorem kill_at {ss : List Sl} {i : Nat} {s : Sl} (u : Sl) (hs : ss[i]? = some s) : (ss.take i ++ u :: ss.drop (i + 1))[i]? = some u ∧ (ss.take i ++ u :: ss.drop (i + 1)).take i = ss.take i ∧ (ss.take i ++ u :: ss.drop (i + 1)).drop (i + 1) = ss.drop (i + 1) := by
  have hi := (List.getElem?_eq_some_iff.1 hs).1
  have hl : (ss.take i).length = i := by rw [List.length_take]; omega
  refine ⟨?_, ?_, ?_⟩
  · rw [List.getElem?_append_right (by omega), hl, Nat.sub_self]
    rfl
  · exact List.take_left' hl
  · rw [show i + 1 = i + 1 from rfl, ← List.drop_drop, List.drop_left' hl]
    rfl
theorem ownT_kill {h0 h' : Hp} {t : Tb} {i : Nat} {s : Sl} {R : Bag} {a1 a2 : Option Addr} {c1 c2 : Nat} (hs : t.slots[i]? = some s) (m : My h0 h' ((.row 1 (t.heads.flatMap idt), .slice a1 t.heads.length c1) :: (.row 10 ((t.slots.take i ++ ⟨s.key, V.zero, false, s.link⟩ :: t.slots.drop (i + 1)).flatMap Sl.dt), .slice a2 t.slots.length c2) :: R)) :
    OwnT h0 (t.kill i) R (.agg #[.bool t.hashed, .slice a1 t.heads.length c1, .slice a2 t.slots.length c2, .int .i64 t.next, .int .i64 (t.count - 1)]) h' := by
  rw [Tb.kill_eq hs]
  refine ⟨a1, c1, a2, c2, ?_, ?_⟩
  · show _ = Value.agg #[.bool t.hashed, .slice a1 t.heads.length c1, .slice a2 (t.slots.take i ++ ⟨s.key, V.zero, false, s.link⟩ :: t.slots.drop (i + 1)).length c2, .int .i64 t.next, .int .i64 (t.count - 1)]
    rw [set_len hs]
  · show My h0 h' ((.row 1 (t.heads.flatMap idt), .slice a1 t.heads.length c1) :: (.row 10 _, .slice a2 (t.slots.take i ++ ⟨s.key, V.zero, false, s.link⟩ :: t.slots.drop (i + 1)).length c2) :: R)
    rw [set_len hs]
    exact m
theorem pop_wrap {t : Tb} (c : t.ch) : IntKind.i64.wrap (t.count - 1) = t.count - 1 := by
  have h1 := c.cnt
  have h2 := c.len
  have h3 := liveN_le t.slots
  exact IntWalk.i64_in _ (by omega)
theorem drop_some {t : Tb} {k : Ky} {i : Nat} (h : t.find k = some i) : t.drop k = t.kill i := by unfold Tb.drop; rw [h]
theorem drop_none {t : Tb} {k : Ky} (h : t.find k = none) : t.drop k = t := by unfold Tb.drop; rw [h]
end Go.Proofs.YtedfplodobpgfaaGreatDoor
