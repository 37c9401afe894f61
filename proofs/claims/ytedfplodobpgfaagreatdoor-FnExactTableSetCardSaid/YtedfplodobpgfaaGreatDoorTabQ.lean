/-
  What l7Push, rebuilt and l7Build do to tables of the walk's own.
-/
import Derived.Test.YtedfplodobpgfaaGreatDoorTabP
namespace Go.Proofs.YtedfplodobpgfaaGreatDoor
set_option maxRecDepth 8000
open Go Go.Sx
theorem ownT_bump {h0 h' : Hp} {t : Tb} {k : Ky} {x : V} {R : Bag} {a1 a6 : Option Addr} {c1 c6 : Nat} {n : Int} {bh : Bool} (hh : bh = t.hashed) (hn : n = ((t.push k x).bump k).next) (m : My h0 h' ((.row 1 ((t.push k x).heads.flatMap idt), .slice a1 t.heads.length c1) :: (.row 10 ((t.push k x).slots.flatMap Sl.dt), .slice a6 (t.push k x).slots.length c6) :: R)) :
    OwnT h0 ((t.push k x).bump k) R (.agg #[.bool bh, .slice a1 t.heads.length c1, .slice a6 (t.push k x).slots.length c6, .int .i64 n, .int .i64 (t.count + 1)]) h' := by
  have e : ((t.push k x).bump k).heads.length = t.heads.length := push_hl t k x
  subst hn
  subst hh
  refine ⟨a1, c1, a6, c6, ?_, ?_⟩
  · rw [e]
    rfl
  · rw [e]
    exact m
theorem sPush (t : Tb) (ch : t.ch) (k : Ky) (hk : k.str.size ≤ 1152921504606846976) (ko : keyOk k = true) (x : V) (ax a1 a2 : Option Addr) (cx c1 c2 : Nat) (h0 h : Hp) (R : Bag) (m : My h0 h ((.row 8 (x.items.flatMap edt), .slice ax x.items.length cx) :: (.row 1 (t.heads.flatMap idt), .slice a1 t.heads.length c1) :: (.row 10 (t.slots.flatMap Sl.dt), .slice a2 t.slots.length c2) :: R)) :
    ACalls Tryz.prog 117 #[.agg #[.bool t.hashed, .slice a1 t.heads.length c1, .slice a2 t.slots.length c2, .int .i64 t.next, .int .i64 t.count], .agg #[.bool k.text, .int .i64 k.num, .string k.str], .agg #[.int .i64 x.kind, .int .i64 x.num, .string x.str, .int .i64 x.next, .slice ax x.items.length cx]] h (OwnT h0 ((t.push k x).bump k) R) := by
  have hls := ch.len
  have m1 := m.swap
  (refine enter Tryz.func117 rfl rfl (by kernel_rfl) [] ?_; simp only [go_sem, Nat.reduceBEq, Nat.reduceAdd, Nat.reduceLeDiff])
  cases ht : t.hashed with
  | true =>
  have hsz := ch.size ht
  have hm : k.hash % t.heads.length < t.heads.length := Nat.mod_lt _ (by omega)
  have hh := k.hash_lt
  have em : ((k.hash : Nat) : Int).tmod ((t.heads.length : Nat) : Int) = ((k.hash % t.heads.length : Nat) : Int) := by
    rw [Int.tmod_eq_emod_of_nonneg (by omega)]
    omega
  have hm0 : (((t.heads.length : Nat) : Int) = 0) = False := eq_false (by omega)
  obtain ⟨_, _, e1, _, _, hat1⟩ := m1.row_shape (by decide) t.heads.length (fm_len idt_len _)
  cases e1
  obtain ⟨b1, rfl⟩ := hat1 (by omega)
  simp only [go_sem]
  refine regionD_intro (lb := [14, 17]) (by kernel_rfl) ?_
  simp only [go_sem, Nat.reduceBEq, Nat.reduceAdd, Nat.reduceLeDiff]
  (refine (sKeyHash k hk _).mono ?_; rintro _ _ ⟨rfl, rfl⟩; simp only [go_sem, Nat.reduceBEq])
  obtain ⟨xs, hr, hat⟩ := m1.at_
  simp only [hm0, em, ix_nat hm, go_sem, Nat.reduceBEq, not_false_eq_true]
  refine hsem_num tyS3 (hat (by omega)) hr (getD_at (d := -1) hm) (by omega) ?_
  rw [← link_hashed ht]
  simp only [ix_nat hm, go_sem, Nat.reduceBEq, Nat.reduceAdd, Nat.reduceLeDiff]
  obtain ⟨cn, hn, en⟩ := hold_num (b := b1) (cap := c1) hm
  obtain ⟨w, hw⟩ := hold_self hm
  refine hn.put1 (h0 := h0) (d := .raw (.int .i64 w)) tyS3 rfl rfl (by rw [en, hw]; exact m1) (by omega) fun h2 m2 => ?_
  rw [en, ← push_heads (x := x) ht] at m2
  have mz : My h0 h2 ((.row 8 (x.items.flatMap edt), .slice ax x.items.length cx) :: (.row 10 (t.slots.flatMap Sl.dt), .slice a2 t.slots.length c2) :: (.row 1 ((t.push k x).heads.flatMap idt), .slice (some ⟨b1, 0, none⟩) t.heads.length c1) :: R) := m2.third.third
  simp only [go_sem, Nat.reduceBEq, Nat.reduceAdd, Nat.reduceLeDiff]
  refine hsem_my_lit (h0 := h0) (es := Sl.dt ⟨k, x, true, t.link k⟩) (parts := [(0, .agg #[.bool k.text, .int .i64 k.num, .string k.str, .int .i64 x.kind, .int .i64 x.num, .string x.str, .int .i64 x.next, .slice ax x.items.length cx, .bool true, .int .i64 (t.link k)])]) slT34 (by decide) (by decide) (by decide) rfl rfl (by simp [Value.cells])
    (bag := (.row 10 (t.slots.flatMap Sl.dt), .slice a2 t.slots.length c2) :: (.row 1 ((t.push k x).heads.flatMap idt), .slice (some ⟨b1, 0, none⟩) t.heads.length c1) :: R) ?_ rfl (Sl.dt_len _) fun l4 h4 m4 => ?_
  · simp only [flat, List.flatMap_cons, List.flatMap_nil, List.append_nil, cells_agg]
    exact slot_zip ⟨k, x, true, t.link k⟩ mz
  simp only [go_sem, Nat.reduceBEq]
  refine hsem_my_append slT34 (by decide) rfl t.slots.length 1 m4.swap (fm_len Sl.dt_len _) (Sl.dt_len _) (by show (t.slots.length + 1) * 112 ≤ _; omega) (by omega) fun l5 h5 m5 => ?_
  rw [fm_push] at m5
  obtain ⟨a6, c6, rfl, _⟩ := m5.row_shape (by decide) (t.push k x).slots.length (fm_len Sl.dt_len _)
  have m6 := m5.swap
  by_cases kt : k.text = true
  · simp only [push_wrap ch, kt, go_sem, Nat.reduceBEq, Nat.reduceAdd, Nat.reduceLeDiff]
    exact ownT_bump (n := t.next) ht.symm (by rw [Tb.bump_next, kt]; rfl) m6
  · have kt : k.text = false := by simpa using kt
    have wk : IntKind.i64.wrap (k.num + 1) = k.num + 1 := by
      have := keyOk_num ko
      rw [kt] at this
      simp at this
      exact IntWalk.i64_in _ (by omega)
    simp only [push_wrap ch, wk, kt, go_sem, Nat.reduceBEq, Nat.reduceAdd, Nat.reduceLeDiff]
    (refine (sMax _ _ _).mono ?_; rintro _ _ ⟨rfl, rfl⟩; simp only [go_sem, Nat.reduceBEq, Nat.reduceAdd, Nat.reduceLeDiff])
    exact ownT_bump (n := max t.next (k.num + 1)) ht.symm (by rw [Tb.bump_next, kt]; rfl) m6
  | false =>
  have e0 := link_packed (k := k) ht
  have m2 : My h0 h ((.row 1 ((t.push k x).heads.flatMap idt), .slice a1 t.heads.length c1) :: (.row 8 (x.items.flatMap edt), .slice ax x.items.length cx) :: (.row 10 (t.slots.flatMap Sl.dt), .slice a2 t.slots.length c2) :: R) := by rw [push_heads0 ht]; exact m1
  have mz : My h0 h ((.row 8 (x.items.flatMap edt), .slice ax x.items.length cx) :: (.row 10 (t.slots.flatMap Sl.dt), .slice a2 t.slots.length c2) :: (.row 1 ((t.push k x).heads.flatMap idt), .slice a1 t.heads.length c1) :: R) := m2.third.third
  simp only [go_sem, Nat.reduceBEq, Nat.reduceAdd, Nat.reduceLeDiff]
  rw [← e0]
  refine hsem_my_lit (h0 := h0) (es := Sl.dt ⟨k, x, true, t.link k⟩) (parts := [(0, .agg #[.bool k.text, .int .i64 k.num, .string k.str, .int .i64 x.kind, .int .i64 x.num, .string x.str, .int .i64 x.next, .slice ax x.items.length cx, .bool true, .int .i64 (t.link k)])]) slT34 (by decide) (by decide) (by decide) rfl rfl (by simp [Value.cells])
    (bag := (.row 10 (t.slots.flatMap Sl.dt), .slice a2 t.slots.length c2) :: (.row 1 ((t.push k x).heads.flatMap idt), .slice a1 t.heads.length c1) :: R) ?_ rfl (Sl.dt_len _) fun l4 h4 m4 => ?_
  · simp only [flat, List.flatMap_cons, List.flatMap_nil, List.append_nil, cells_agg]
    exact slot_zip ⟨k, x, true, t.link k⟩ mz
  simp only [go_sem, Nat.reduceBEq]
  refine hsem_my_append slT34 (by decide) rfl t.slots.length 1 m4.swap (fm_len Sl.dt_len _) (Sl.dt_len _) (by show (t.slots.length + 1) * 112 ≤ _; omega) (by omega) fun l5 h5 m5 => ?_
  rw [fm_push] at m5
  obtain ⟨a6, c6, rfl, _⟩ := m5.row_shape (by decide) (t.push k x).slots.length (fm_len Sl.dt_len _)
  have m6 := m5.swap
  by_cases kt : k.text = true
  · simp only [push_wrap ch, kt, go_sem, Nat.reduceBEq, Nat.reduceAdd, Nat.reduceLeDiff]
    exact ownT_bump (n := t.next) ht.symm (by rw [Tb.bump_next, kt]; rfl) m6
  · have kt : k.text = false := by simpa using kt
    have wk : IntKind.i64.wrap (k.num + 1) = k.num + 1 := by
      have := keyOk_num ko
      rw [kt] at this
      simp at this
      exact IntWalk.i64_in _ (by omega)
    simp only [push_wrap ch, wk, kt, go_sem, Nat.reduceBEq, Nat.reduceAdd, Nat.reduceLeDiff]
    (refine (sMax _ _ _).mono ?_; rintro _ _ ⟨rfl, rfl⟩; simp only [go_sem, Nat.reduceBEq, Nat.reduceAdd, Nat.reduceLeDiff])
    exact ownT_bump (n := max t.next (k.num + 1)) ht.symm (by rw [Tb.bump_next, kt]; rfl) m6
theorem sRoom (t : Tb) (ch : t.ch) (hl : liveN t.slots < 1024) (s u : Value) (h : Hp) : ACalls Tryz.prog 116 #[.agg #[.bool t.hashed, s, u, .int .i64 t.next, .int .i64 t.count]] h (Pu (.int .i64 (roomN (liveN t.slots) : Nat)) h) := by
  have hc := ch.cnt
  rw [hc]
  generalize liveN t.slots = n at *
  (refine enter Tryz.func116 rfl rfl (by kernel_rfl) [] ?_; simp only [go_sem, Nat.reduceBEq])
  refine aloop (ι := Nat × Nat) (fun x => [(3, .val (.int .i64 (x.1 : Nat))), (1, .box 1 0)]) (fun _ => [(1, [.bool t.hashed, s, u, .int .i64 t.next, .int .i64 (n : Nat)])])
    (fun x h' => x.1 * 2 ^ x.2 = 32768 ∧ dbl n x.2 x.1 = roomN n ∧ h = h') (fun x => x.2) (8, 12) ⟨by decide, rfl, rfl⟩ (by repeat (first | exact wkF_e | refine wkF_c rfl ?_)) (wkB_c rfl wkB_e) rfl ?_
  rintro ⟨z, f⟩ _ ⟨hz, hd, rfl⟩
  have hz : z * 2 ^ f = 32768 := hz
  have hd : dbl n f z = roomN n := hd
  simp only [go_sem, Nat.reduceBEq]
  refine Br.intro (fun hb => ?_) (fun hb => ?_) <;> (try simp only [hb, go_sem, Nat.reduceBEq])
  · have hb : z ≤ n := by simpa using hb
    obtain ⟨g, rfl, e1, e2⟩ := dbl_step hb hz hl
    have w : IntKind.i64.wrap (2 * ((z : Nat) : Int)) = ((z * 2 : Nat) : Int) := by rw [IntWalk.i64_in _ (by omega)]; omega
    simp only [w, go_sem]
    exact Again.intro (z * 2, g) (by first | omega | (simp only; omega)) ⟨e1, by rw [← e2]; exact hd, rfl⟩ (by repeat (first | exact wkF_e | refine wkF_c rfl ?_)) (wkB_c rfl wkB_e) rfl
  · have hb : ¬ z ≤ n := by simpa using hb
    rw [dbl_end hb] at hd
    exact ⟨by rw [hd], rfl⟩
set_option maxHeartbeats 800000 in
theorem iRebuilt (t : Tb) (ch : t.ch) (hl : liveN t.slots < 1024) (hks : ∀ e ∈ t.slots, e.key.str.size ≤ 1152921504606846976) (a1 a2 : Option Addr) (c1 c2 : Nat) (h0 h : Hp) (R : Bag) (m : My h0 h ((.row 1 (t.heads.flatMap idt), .slice a1 t.heads.length c1) :: (.row 10 (t.slots.flatMap Sl.dt), .slice a2 t.slots.length c2) :: R)) : ACalls Tryz.prog 128 #[.agg #[.bool t.hashed, .slice a1 t.heads.length c1, .slice a2 t.slots.length c2, .int .i64 t.next, .int .i64 t.count]] h (OwnT h0 t.build R) := by
  have hls := ch.len
  have hc := ch.cnt
  have hr := roomN_spec hl
  (refine enter Tryz.func128 rfl rfl (by kernel_rfl) [4] ?_; simp only [go_sem, Nat.reduceBEq])
  refine aloop (ι := Nat × Nat) (fun x => [(3, .val (.int .i64 (x.1 : Nat))), (1, .box 1 0), (2, .box 2 0)]) (fun _ => [(1, [.bool t.hashed, .slice a1 t.heads.length c1, .slice a2 t.slots.length c2, .int .i64 t.next, .int .i64 t.count]), (2, [.bool false, .slice none 0 0, .slice none 0 0, .int .i64 0, .int .i64 0])])
    (fun x h' => x.1 * 2 ^ x.2 = 32768 ∧ dbl (liveN t.slots) x.2 x.1 = roomN (liveN t.slots) ∧ h = h') (fun x => x.2) (8, 12) ⟨by decide, rfl, rfl⟩ (by repeat (first | exact wkF_e | refine wkF_c rfl ?_)) (wkB_c rfl (wkB_c rfl wkB_e)) rfl ?_
  rintro ⟨z, f⟩ _ ⟨hz, hd, rfl⟩
  have hz : z * 2 ^ f = 32768 := hz
  have hd : dbl (liveN t.slots) f z = roomN (liveN t.slots) := hd
  simp only [go_sem, Nat.reduceBEq]
  refine Br.intro (fun hb => ?_) (fun hb => ?_) <;> (try simp only [hb, go_sem, Nat.reduceBEq])
  · have hb : z ≤ liveN t.slots := by have := of_decide_eq_true hb; omega
    obtain ⟨g, rfl, e1, e2⟩ := dbl_step hb hz hl
    have w : IntKind.i64.wrap (((z : Nat) : Int) * 2) = ((z * 2 : Nat) : Int) := by rw [IntWalk.i64_in _ (by omega)]; omega
    simp only [w, go_sem]
    exact Again.intro (z * 2, g) (by first | omega | (simp only; omega)) ⟨e1, by rw [← e2]; exact hd, rfl⟩ (by repeat (first | exact wkF_e | refine wkF_c rfl ?_)) (wkB_c rfl (wkB_c rfl wkB_e)) rfl
  have hb : ¬ z ≤ liveN t.slots := by have := of_decide_eq_false hb; omega
  rw [dbl_end hb] at hd
  subst hd
  refine regionP_intro (lb := [16]) (hm' := []) 4 (by kernel_rfl) ?_
  simp only [go_sem, Nat.reduceBEq]
  refine (noHeads_c (roomN (liveN t.slots)) (by omega) _).mono ?_
  rintro _ h3 ⟨a3, c3, rfl, m3⟩
  simp only [go_sem, Nat.reduceBEq, Nat.reduceAdd, Nat.reduceLeDiff]
  refine prom_intro rfl fun b0 T hb0 => ?_
  simp only [proF_e, proF_v, proF_b, delb_e, delb_c, cond_true, cond_false, go_sem, Nat.reduceBEq]
  have m4 := m.add m3
  have m5 : My h0 (hset h3 b0 (.cells #[.bool true, .slice a3 (roomN (liveN t.slots)) c3, .slice none 0 0, .int .i64 t.next, .int .i64 0] T (0, 0))) ((.ptr [] (t.fresh.pushAll (t.slots.take 0)).dt [], .pointer (some ⟨b0, 0, none⟩)) :: (.row 10 ([] ++ (t.slots.drop 0).flatMap Sl.dt), .slice a2 t.slots.length c2) :: (.row 1 (t.heads.flatMap idt), .slice a1 t.heads.length c1) :: R) := by
    have := my_var (h0 := h0) (e := T) (es := t.fresh.dt) (us := [.bool true, .slice a3 (roomN (liveN t.slots)) c3, .slice none 0 0, .int .i64 t.next, .int .i64 0]) (tab_zip t.fresh (y := .slice none 0 0) (m4.nilrow (a := none)).swap) hb0 rfl
    exact this.swap.third.third
  refine aloop (ι := Nat × List Dt) (fun x => [(21, .val (.int .i64 (x.1 : Nat))), (20, .val (.int .i64 (t.slots.length : Nat))), (19, .val (.slice a2 t.slots.length c2)), (4, .val (.pointer (some ⟨b0, 0, none⟩))), (2, .box 2 0)]) (fun _ => [(2, [.bool false, .slice none 0 0, .slice none 0 0, .int .i64 0, .int .i64 0])])
    (fun x h' => x.1 ≤ t.slots.length ∧ x.2.length = x.1 * 10 ∧ My h0 h' ((.ptr [] (t.fresh.pushAll (t.slots.take x.1)).dt [], .pointer (some ⟨b0, 0, none⟩)) :: (.row 10 (x.2 ++ (t.slots.drop x.1).flatMap Sl.dt), .slice a2 t.slots.length c2) :: (.row 1 (t.heads.flatMap idt), .slice a1 t.heads.length c1) :: R)) (fun x => t.slots.length - x.1) (0, [])
    ⟨Nat.zero_le _, rfl, m5⟩ (by repeat (first | exact wkF_e | refine wkF_c rfl ?_)) (wkB_c rfl wkB_e) rfl ?_
  rintro ⟨i, A⟩ h6 ⟨hi, hA, m6⟩
  have hi : i ≤ t.slots.length := hi
  have hA : A.length = i * 10 := hA
  have m6 : My h0 h6 ((.ptr [] (t.fresh.pushAll (t.slots.take i)).dt [], .pointer (some ⟨b0, 0, none⟩)) :: (.row 10 (A ++ (t.slots.drop i).flatMap Sl.dt), .slice a2 t.slots.length c2) :: (.row 1 (t.heads.flatMap idt), .slice a1 t.heads.length c1) :: R) := m6
  have way := Tb.onWay.all ch hl i hi
  simp only [go_sem, Nat.reduceBEq]
  refine Br.intro (fun hb => ?_) (fun hb => ?_) <;> (try simp only [hb, go_sem, Nat.reduceBEq])
  · have hb : i < t.slots.length := by simpa using hb
    obtain ⟨e, he, _⟩ := get_lt hb
    have wsu := wrap_succ (i := i) (by omega)
    have hke := ch.keys i e he
    have hpa := Tb.pushAll_snoc (o := t.fresh) he
    rw [drop_cons he, List.flatMap_cons] at m6
    obtain ⟨ae, ne, m7⟩ := slot_open m6.swap
    obtain ⟨_, _, es, _, _, hat⟩ := m7.swap.row_shape (by decide) t.slots.length (by rw [List.length_append, List.length_append, srw_len, hA, fm_len Sl.dt_len, List.length_drop]; omega)
    cases es
    obtain ⟨b2, rfl⟩ := hat (by omega)
    simp only [ix_nat hb, go_sem, Nat.reduceBEq]
    refine hsem_srw tyS134 m7.swap (by omega) (by omega) ?_
    unfold slC
    cases hv : e.live with
    | true =>
      rw [hv, if_pos rfl] at hpa
      simp only [go_sem, Nat.reduceBEq, Nat.reduceAdd, Nat.reduceLeDiff]
      refine (iAddSlot Hold.ptr _ way.ch e.key (by have := hks e (List.mem_of_getElem? he); omega) e.val _ _ h0 _ _ m7.swap.third.third).mono ?_
      rintro _ h8 ⟨rfl, m8⟩
      rw [← hpa] at m8
      simp only [wsu, go_sem, Nat.reduceBEq]
      refine Again.intro (i + 1, A ++ srw e (.slice ae e.val.items.length ne)) (by first | omega | (simp only; omega)) ⟨hb, ?_, ?_⟩ (by repeat (first | exact wkF_e | refine wkF_c rfl ?_)) (wkB_c rfl wkB_e) rfl
      · simp only [List.length_append, srw_len, hA]
        omega
      · simp only [List.append_assoc]
        exact m8
    | false =>
      rw [hv, if_neg (by simp)] at hpa
      simp only [wsu, go_sem, Nat.reduceBEq, Nat.reduceAdd, Nat.reduceLeDiff]
      refine Again.intro (i + 1, A ++ srw e (.slice ae e.val.items.length ne)) (by first | omega | (simp only; omega)) ⟨hb, ?_, ?_⟩ (by repeat (first | exact wkF_e | refine wkF_c rfl ?_)) (wkB_c rfl wkB_e) rfl
      · simp only [List.length_append, srw_len, hA]
        omega
      · simp only [List.append_assoc]
        rw [hpa]
        exact m7.drop.swap
  · have hb : i = t.slots.length := by simp at hb; omega
    subst hb
    rw [List.take_length] at m6
    obtain ⟨a7, c7, a8, c8, m7⟩ := tb_open (t := t.build) Hold.ptr m6
    try simp only [go_sem, Nat.reduceBEq, Nat.reduceAdd, Nat.reduceLeDiff, Nat.reduceEqDiff, Int.reduceEq, not_false_eq_true, Int.reduceToNat]
    refine tb_ldraw (tb := t.build) Hold.ptr tyS36 m7.third rfl ?_
    try simp only [go_sem, Nat.reduceBEq, Nat.reduceAdd, Nat.reduceLeDiff]
    exact ⟨a7, c7, a8, c8, rfl, m7.third.drop.third.drop.third.drop⟩
end Go.Proofs.YtedfplodobpgfaaGreatDoor
