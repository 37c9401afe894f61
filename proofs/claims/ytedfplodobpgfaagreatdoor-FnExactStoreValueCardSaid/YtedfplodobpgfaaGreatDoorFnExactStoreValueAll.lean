/-
  The statement FnExactStoreValue is proved: for each argument the law returns true; nothing is assumed.
-/
import Derived.Test.YtedfplodobpgfaaGreatDoorFnExactStoreValueAllA
import Derived.Test.YtedfplodobpgfaaGreatDoorSxTabV
import Derived.Test.YtedfplodobpgfaaGreatDoorSxHeapX
import Derived.Test.YtedfplodobpgfaaGreatDoorFacts
import Derived.Test.YtedfplodobpgfaaGreatDoorSxLaw
import Derived.Test.YtedfplodobpgfaaGreatDoorSxTab
import Derived.Test.YtedfplodobpgfaaGreatDoorSxDataT
import Derived.Test.YtedfplodobpgfaaGreatDoorSxDataV
import Derived.Test.YtedfplodobpgfaaGreatDoorSxOpen
import Derived.Test.YtedfplodobpgfaaGreatDoorRows
import Derived.Test.YtedfplodobpgfaaGreatDoorTie
import Derived.Test.YtedfplodobpgfaaGreatDoorCards
import Derived.ProofKit
import Derived.LaidMore
import Derived.OpenShut
import Derived.Stop.Joined
import Derived.SevenTiedAt
namespace Go.Proofs.YtedfplodobpgfaaGreatDoor
set_option maxRecDepth 8000
open Go Go.Sx
theorem ownT_bump {h0 h' : Hp} {t : Tb} {k : Ky} {x : V} {R : Bag} {a1 a6 : Option Addr} {c1 c6 : Nat} {n : Int} {bh : Bool} (hh : bh = t.hashed) (hn : n = ((t.push k x).bump k).next) (m : My h0 h' ((.row 1 ((t.push k x).heads.flatMap idt), .slice a1 t.heads.length c1) :: (.row 10 ((t.push k x).slots.flatMap Sl.dt), .slice a6 (t.push k x).slots.length c6) :: R)) :
    OwnT h0 ((t.push k x).bump k) R (.agg #[.bool bh, .slice a1 t.heads.length c1, .slice a6 (t.push k x).slots.length c6, .int .i64 n, .int .i64 (t.count + 1)]) h' := by
  have e : ((t.push k x).bump k).heads.length = t.heads.length := push_hl t k x
  subst hn
  subst hh
  refine ⟨a1, c1, a6, c6, ?_, ?_⟩
  · rw [e]
    rfl
  · rw [e]
    exact m
theorem sPush (t : Tb) (ch : t.ch) (k : Ky) (hk : k.str.size ≤ 1152921504606846976) (ko : keyOk k = true) (x : V) (ax a1 a2 : Option Addr) (cx c1 c2 : Nat) (h0 h : Hp) (R : Bag) (m : My h0 h ((.row 8 (x.items.flatMap edt), .slice ax x.items.length cx) :: (.row 1 (t.heads.flatMap idt), .slice a1 t.heads.length c1) :: (.row 10 (t.slots.flatMap Sl.dt), .slice a2 t.slots.length c2) :: R)) :
    ACalls Tryz.prog 117 #[.agg #[.bool t.hashed, .slice a1 t.heads.length c1, .slice a2 t.slots.length c2, .int .i64 t.next, .int .i64 t.count], .agg #[.bool k.text, .int .i64 k.num, .string k.str], .agg #[.int .i64 x.kind, .int .i64 x.num, .string x.str, .int .i64 x.next, .slice ax x.items.length cx]] h (OwnT h0 ((t.push k x).bump k) R) := by
  have hls := ch.len
  have m1 := m.swap
  (refine enter Tryz.func117 rfl rfl (by kernel_rfl) [] ?_; simp only [go_sem, Nat.reduceBEq, Nat.reduceAdd, Nat.reduceLeDiff])
  cases ht : t.hashed with
  | true =>
  have hsz := ch.size ht
  have hm : k.hash % t.heads.length < t.heads.length := Nat.mod_lt _ (by omega)
  have hh := k.hash_lt
  have em : ((k.hash : Nat) : Int).tmod ((t.heads.length : Nat) : Int) = ((k.hash % t.heads.length : Nat) : Int) := by
    rw [Int.tmod_eq_emod_of_nonneg (by omega)]
    omega
  have hm0 : (((t.heads.length : Nat) : Int) = 0) = False := eq_false (by omega)
  obtain ⟨_, _, e1, _, _, hat1⟩ := m1.row_shape (by decide) t.heads.length (fm_len idt_len _)
  cases e1
  obtain ⟨b1, rfl⟩ := hat1 (by omega)
  simp only [go_sem]
  refine regionD_intro (lb := [14, 17]) (by kernel_rfl) ?_
  simp only [go_sem, Nat.reduceBEq, Nat.reduceAdd, Nat.reduceLeDiff]
  (refine (sKeyHash k hk _).mono ?_; rintro _ _ ⟨rfl, rfl⟩; simp only [go_sem, Nat.reduceBEq])
  obtain ⟨xs, hr, hat⟩ := m1.at_
  simp only [hm0, em, ix_nat hm, go_sem, Nat.reduceBEq, not_false_eq_true]
  refine hsem_num tyS3 (hat (by omega)) hr (getD_at (d := -1) hm) (by omega) ?_
  rw [← link_hashed ht]
  simp only [ix_nat hm, go_sem, Nat.reduceBEq, Nat.reduceAdd, Nat.reduceLeDiff]
  obtain ⟨cn, hn, en⟩ := hold_num (b := b1) (cap := c1) hm
  obtain ⟨w, hw⟩ := hold_self hm
  refine hn.put1 (h0 := h0) (d := .raw (.int .i64 w)) tyS3 rfl rfl (by rw [en, hw]; exact m1) (by omega) fun h2 m2 => ?_
  rw [en, ← push_heads (x := x) ht] at m2
  have mz : My h0 h2 ((.row 8 (x.items.flatMap edt), .slice ax x.items.length cx) :: (.row 10 (t.slots.flatMap Sl.dt), .slice a2 t.slots.length c2) :: (.row 1 ((t.push k x).heads.flatMap idt), .slice (some ⟨b1, 0, none⟩) t.heads.length c1) :: R) := m2.third.third
  simp only [go_sem, Nat.reduceBEq, Nat.reduceAdd, Nat.reduceLeDiff]
  refine hsem_my_lit (h0 := h0) (es := Sl.dt ⟨k, x, true, t.link k⟩) (parts := [(0, .agg #[.bool k.text, .int .i64 k.num, .string k.str, .int .i64 x.kind, .int .i64 x.num, .string x.str, .int .i64 x.next, .slice ax x.items.length cx, .bool true, .int .i64 (t.link k)])]) slT34 (by decide) (by decide) (by decide) rfl rfl (by simp [Value.cells])
    (bag := (.row 10 (t.slots.flatMap Sl.dt), .slice a2 t.slots.length c2) :: (.row 1 ((t.push k x).heads.flatMap idt), .slice (some ⟨b1, 0, none⟩) t.heads.length c1) :: R) ?_ rfl (Sl.dt_len _) fun l4 h4 m4 => ?_
  · simp only [flat, List.flatMap_cons, List.flatMap_nil, List.append_nil, cells_agg]
    exact slot_zip ⟨k, x, true, t.link k⟩ mz
  simp only [go_sem, Nat.reduceBEq]
  refine hsem_my_append slT34 (by decide) rfl t.slots.length 1 m4.swap (fm_len Sl.dt_len _) (Sl.dt_len _) (by show (t.slots.length + 1) * 112 ≤ _; omega) (by omega) fun l5 h5 m5 => ?_
  rw [fm_push] at m5
  obtain ⟨a6, c6, rfl, _⟩ := m5.row_shape (by decide) (t.push k x).slots.length (fm_len Sl.dt_len _)
  have m6 := m5.swap
  by_cases kt : k.text = true
  · simp only [push_wrap ch, kt, go_sem, Nat.reduceBEq, Nat.reduceAdd, Nat.reduceLeDiff]
    exact ownT_bump (n := t.next) ht.symm (by rw [Tb.bump_next, kt]; rfl) m6
  · have kt : k.text = false := by simpa using kt
    have wk : IntKind.i64.wrap (k.num + 1) = k.num + 1 := by
      have := keyOk_num ko
      rw [kt] at this
      simp at this
      exact IntWalk.i64_in _ (by omega)
    simp only [push_wrap ch, wk, kt, go_sem, Nat.reduceBEq, Nat.reduceAdd, Nat.reduceLeDiff]
    (refine (sMax _ _ _).mono ?_; rintro _ _ ⟨rfl, rfl⟩; simp only [go_sem, Nat.reduceBEq, Nat.reduceAdd, Nat.reduceLeDiff])
    exact ownT_bump (n := max t.next (k.num + 1)) ht.symm (by rw [Tb.bump_next, kt]; rfl) m6
  | false =>
  have e0 := link_packed (k := k) ht
  have m2 : My h0 h ((.row 1 ((t.push k x).heads.flatMap idt), .slice a1 t.heads.length c1) :: (.row 8 (x.items.flatMap edt), .slice ax x.items.length cx) :: (.row 10 (t.slots.flatMap Sl.dt), .slice a2 t.slots.length c2) :: R) := by rw [push_heads0 ht]; exact m1
  have mz : My h0 h ((.row 8 (x.items.flatMap edt), .slice ax x.items.length cx) :: (.row 10 (t.slots.flatMap Sl.dt), .slice a2 t.slots.length c2) :: (.row 1 ((t.push k x).heads.flatMap idt), .slice a1 t.heads.length c1) :: R) := m2.third.third
  simp only [go_sem, Nat.reduceBEq, Nat.reduceAdd, Nat.reduceLeDiff]
  rw [← e0]
  refine hsem_my_lit (h0 := h0) (es := Sl.dt ⟨k, x, true, t.link k⟩) (parts := [(0, .agg #[.bool k.text, .int .i64 k.num, .string k.str, .int .i64 x.kind, .int .i64 x.num, .string x.str, .int .i64 x.next, .slice ax x.items.length cx, .bool true, .int .i64 (t.link k)])]) slT34 (by decide) (by decide) (by decide) rfl rfl (by simp [Value.cells])
    (bag := (.row 10 (t.slots.flatMap Sl.dt), .slice a2 t.slots.length c2) :: (.row 1 ((t.push k x).heads.flatMap idt), .slice a1 t.heads.length c1) :: R) ?_ rfl (Sl.dt_len _) fun l4 h4 m4 => ?_
  · simp only [flat, List.flatMap_cons, List.flatMap_nil, List.append_nil, cells_agg]
    exact slot_zip ⟨k, x, true, t.link k⟩ mz
  simp only [go_sem, Nat.reduceBEq]
  refine hsem_my_append slT34 (by decide) rfl t.slots.length 1 m4.swap (fm_len Sl.dt_len _) (Sl.dt_len _) (by show (t.slots.length + 1) * 112 ≤ _; omega) (by omega) fun l5 h5 m5 => ?_
  rw [fm_push] at m5
  obtain ⟨a6, c6, rfl, _⟩ := m5.row_shape (by decide) (t.push k x).slots.length (fm_len Sl.dt_len _)
  have m6 := m5.swap
  by_cases kt : k.text = true
  · simp only [push_wrap ch, kt, go_sem, Nat.reduceBEq, Nat.reduceAdd, Nat.reduceLeDiff]
    exact ownT_bump (n := t.next) ht.symm (by rw [Tb.bump_next, kt]; rfl) m6
  · have kt : k.text = false := by simpa using kt
    have wk : IntKind.i64.wrap (k.num + 1) = k.num + 1 := by
      have := keyOk_num ko
      rw [kt] at this
      simp at this
      exact IntWalk.i64_in _ (by omega)
    simp only [push_wrap ch, wk, kt, go_sem, Nat.reduceBEq, Nat.reduceAdd, Nat.reduceLeDiff]
    (refine (sMax _ _ _).mono ?_; rintro _ _ ⟨rfl, rfl⟩; simp only [go_sem, Nat.reduceBEq, Nat.reduceAdd, Nat.reduceLeDiff])
    exact ownT_bump (n := max t.next (k.num + 1)) ht.symm (by rw [Tb.bump_next, kt]; rfl) m6
theorem sRoom (t : Tb) (ch : t.ch) (hl : liveN t.slots < 1024) (s u : Value) (h : Hp) : ACalls Tryz.prog 116 #[.agg #[.bool t.hashed, s, u, .int .i64 t.next, .int .i64 t.count]] h (Pu (.int .i64 (roomN (liveN t.slots) : Nat)) h) := by
  have hc := ch.cnt
  rw [hc]
  generalize liveN t.slots = n at *
  (refine enter Tryz.func116 rfl rfl (by kernel_rfl) [] ?_; simp only [go_sem, Nat.reduceBEq])
  refine aloop (ι := Nat × Nat) (fun x => [(3, .val (.int .i64 (x.1 : Nat))), (1, .box 1 0)]) (fun _ => [(1, [.bool t.hashed, s, u, .int .i64 t.next, .int .i64 (n : Nat)])])
    (fun x h' => x.1 * 2 ^ x.2 = 32768 ∧ dbl n x.2 x.1 = roomN n ∧ h = h') (fun x => x.2) (8, 12) ⟨by decide, rfl, rfl⟩ (by repeat (first | exact wkF_e | refine wkF_c rfl ?_)) (wkB_c rfl wkB_e) rfl ?_
  rintro ⟨z, f⟩ _ ⟨hz, hd, rfl⟩
  have hz : z * 2 ^ f = 32768 := hz
  have hd : dbl n f z = roomN n := hd
  simp only [go_sem, Nat.reduceBEq]
  refine Br.intro (fun hb => ?_) (fun hb => ?_) <;> (try simp only [hb, go_sem, Nat.reduceBEq])
  · have hb : z ≤ n := by simpa using hb
    obtain ⟨g, rfl, e1, e2⟩ := dbl_step hb hz hl
    have w : IntKind.i64.wrap (2 * ((z : Nat) : Int)) = ((z * 2 : Nat) : Int) := by rw [IntWalk.i64_in _ (by omega)]; omega
    simp only [w, go_sem]
    exact Again.intro (z * 2, g) (by first | omega | (simp only; omega)) ⟨e1, by rw [← e2]; exact hd, rfl⟩ (by repeat (first | exact wkF_e | refine wkF_c rfl ?_)) (wkB_c rfl wkB_e) rfl
  · have hb : ¬ z ≤ n := by simpa using hb
    rw [dbl_end hb] at hd
    exact ⟨by rw [hd], rfl⟩
set_option maxHeartbeats 800000 in
theorem iRebuilt (t : Tb) (ch : t.ch) (hl : liveN t.slots < 1024) (hks : ∀ e ∈ t.slots, e.key.str.size ≤ 1152921504606846976) (a1 a2 : Option Addr) (c1 c2 : Nat) (h0 h : Hp) (R : Bag) (m : My h0 h ((.row 1 (t.heads.flatMap idt), .slice a1 t.heads.length c1) :: (.row 10 (t.slots.flatMap Sl.dt), .slice a2 t.slots.length c2) :: R)) : ACalls Tryz.prog 128 #[.agg #[.bool t.hashed, .slice a1 t.heads.length c1, .slice a2 t.slots.length c2, .int .i64 t.next, .int .i64 t.count]] h (OwnT h0 t.build R) := by
  have hls := ch.len
  have hc := ch.cnt
  have hr := roomN_spec hl
  (refine enter Tryz.func128 rfl rfl (by kernel_rfl) [4] ?_; simp only [go_sem, Nat.reduceBEq])
  refine aloop (ι := Nat × Nat) (fun x => [(3, .val (.int .i64 (x.1 : Nat))), (1, .box 1 0), (2, .box 2 0)]) (fun _ => [(1, [.bool t.hashed, .slice a1 t.heads.length c1, .slice a2 t.slots.length c2, .int .i64 t.next, .int .i64 t.count]), (2, [.bool false, .slice none 0 0, .slice none 0 0, .int .i64 0, .int .i64 0])])
    (fun x h' => x.1 * 2 ^ x.2 = 32768 ∧ dbl (liveN t.slots) x.2 x.1 = roomN (liveN t.slots) ∧ h = h') (fun x => x.2) (8, 12) ⟨by decide, rfl, rfl⟩ (by repeat (first | exact wkF_e | refine wkF_c rfl ?_)) (wkB_c rfl (wkB_c rfl wkB_e)) rfl ?_
  rintro ⟨z, f⟩ _ ⟨hz, hd, rfl⟩
  have hz : z * 2 ^ f = 32768 := hz
  have hd : dbl (liveN t.slots) f z = roomN (liveN t.slots) := hd
  simp only [go_sem, Nat.reduceBEq]
  refine Br.intro (fun hb => ?_) (fun hb => ?_) <;> (try simp only [hb, go_sem, Nat.reduceBEq])
  · have hb : z ≤ liveN t.slots := by have := of_decide_eq_true hb; omega
    obtain ⟨g, rfl, e1, e2⟩ := dbl_step hb hz hl
    have w : IntKind.i64.wrap (((z : Nat) : Int) * 2) = ((z * 2 : Nat) : Int) := by rw [IntWalk.i64_in _ (by omega)]; omega
    simp only [w, go_sem]
    exact Again.intro (z * 2, g) (by first | omega | (simp only; omega)) ⟨e1, by rw [← e2]; exact hd, rfl⟩ (by repeat (first | exact wkF_e | refine wkF_c rfl ?_)) (wkB_c rfl (wkB_c rfl wkB_e)) rfl
  have hb : ¬ z ≤ liveN t.slots := by have := of_decide_eq_false hb; omega
  rw [dbl_end hb] at hd
  subst hd
  refine regionP_intro (lb := [16]) (hm' := []) 4 (by kernel_rfl) ?_
  simp only [go_sem, Nat.reduceBEq]
  refine (noHeads_c (roomN (liveN t.slots)) (by omega) _).mono ?_
  rintro _ h3 ⟨a3, c3, rfl, m3⟩
  simp only [go_sem, Nat.reduceBEq, Nat.reduceAdd, Nat.reduceLeDiff]
  refine prom_intro rfl fun b0 T hb0 => ?_
  simp only [proF_e, proF_v, proF_b, delb_e, delb_c, cond_true, cond_false, go_sem, Nat.reduceBEq]
  have m4 := m.add m3
  have m5 : My h0 (hset h3 b0 (.cells #[.bool true, .slice a3 (roomN (liveN t.slots)) c3, .slice none 0 0, .int .i64 t.next, .int .i64 0] T (0, 0))) ((.ptr [] (t.fresh.pushAll (t.slots.take 0)).dt [], .pointer (some ⟨b0, 0, none⟩)) :: (.row 10 ([] ++ (t.slots.drop 0).flatMap Sl.dt), .slice a2 t.slots.length c2) :: (.row 1 (t.heads.flatMap idt), .slice a1 t.heads.length c1) :: R) := by
    have := my_var (h0 := h0) (e := T) (es := t.fresh.dt) (us := [.bool true, .slice a3 (roomN (liveN t.slots)) c3, .slice none 0 0, .int .i64 t.next, .int .i64 0]) (tab_zip t.fresh (y := .slice none 0 0) (m4.nilrow (a := none)).swap) hb0 rfl
    exact this.swap.third.third
  refine aloop (ι := Nat × List Dt) (fun x => [(21, .val (.int .i64 (x.1 : Nat))), (20, .val (.int .i64 (t.slots.length : Nat))), (19, .val (.slice a2 t.slots.length c2)), (4, .val (.pointer (some ⟨b0, 0, none⟩))), (2, .box 2 0)]) (fun _ => [(2, [.bool false, .slice none 0 0, .slice none 0 0, .int .i64 0, .int .i64 0])])
    (fun x h' => x.1 ≤ t.slots.length ∧ x.2.length = x.1 * 10 ∧ My h0 h' ((.ptr [] (t.fresh.pushAll (t.slots.take x.1)).dt [], .pointer (some ⟨b0, 0, none⟩)) :: (.row 10 (x.2 ++ (t.slots.drop x.1).flatMap Sl.dt), .slice a2 t.slots.length c2) :: (.row 1 (t.heads.flatMap idt), .slice a1 t.heads.length c1) :: R)) (fun x => t.slots.length - x.1) (0, [])
    ⟨Nat.zero_le _, rfl, m5⟩ (by repeat (first | exact wkF_e | refine wkF_c rfl ?_)) (wkB_c rfl wkB_e) rfl ?_
  rintro ⟨i, A⟩ h6 ⟨hi, hA, m6⟩
  have hi : i ≤ t.slots.length := hi
  have hA : A.length = i * 10 := hA
  have m6 : My h0 h6 ((.ptr [] (t.fresh.pushAll (t.slots.take i)).dt [], .pointer (some ⟨b0, 0, none⟩)) :: (.row 10 (A ++ (t.slots.drop i).flatMap Sl.dt), .slice a2 t.slots.length c2) :: (.row 1 (t.heads.flatMap idt), .slice a1 t.heads.length c1) :: R) := m6
  have way := Tb.onWay.all ch hl i hi
  simp only [go_sem, Nat.reduceBEq]
  refine Br.intro (fun hb => ?_) (fun hb => ?_) <;> (try simp only [hb, go_sem, Nat.reduceBEq])
  · have hb : i < t.slots.length := by simpa using hb
    obtain ⟨e, he, _⟩ := get_lt hb
    have wsu := wrap_succ (i := i) (by omega)
    have hke := ch.keys i e he
    have hpa := Tb.pushAll_snoc (o := t.fresh) he
    rw [drop_cons he, List.flatMap_cons] at m6
    obtain ⟨ae, ne, m7⟩ := slot_open m6.swap
    obtain ⟨_, _, es, _, _, hat⟩ := m7.swap.row_shape (by decide) t.slots.length (by rw [List.length_append, List.length_append, srw_len, hA, fm_len Sl.dt_len, List.length_drop]; omega)
    cases es
    obtain ⟨b2, rfl⟩ := hat (by omega)
    simp only [ix_nat hb, go_sem, Nat.reduceBEq]
    refine hsem_srw tyS134 m7.swap (by omega) (by omega) ?_
    unfold slC
    cases hv : e.live with
    | true =>
      rw [hv, if_pos rfl] at hpa
      simp only [go_sem, Nat.reduceBEq, Nat.reduceAdd, Nat.reduceLeDiff]
      refine (iAddSlot Hold.ptr _ way.ch e.key (by have := hks e (List.mem_of_getElem? he); omega) e.val _ _ h0 _ _ m7.swap.third.third).mono ?_
      rintro _ h8 ⟨rfl, m8⟩
      rw [← hpa] at m8
      simp only [wsu, go_sem, Nat.reduceBEq]
      refine Again.intro (i + 1, A ++ srw e (.slice ae e.val.items.length ne)) (by first | omega | (simp only; omega)) ⟨hb, ?_, ?_⟩ (by repeat (first | exact wkF_e | refine wkF_c rfl ?_)) (wkB_c rfl wkB_e) rfl
      · simp only [List.length_append, srw_len, hA]
        omega
      · simp only [List.append_assoc]
        exact m8
    | false =>
      rw [hv, if_neg (by simp)] at hpa
      simp only [wsu, go_sem, Nat.reduceBEq, Nat.reduceAdd, Nat.reduceLeDiff]
      refine Again.intro (i + 1, A ++ srw e (.slice ae e.val.items.length ne)) (by first | omega | (simp only; omega)) ⟨hb, ?_, ?_⟩ (by repeat (first | exact wkF_e | refine wkF_c rfl ?_)) (wkB_c rfl wkB_e) rfl
      · simp only [List.length_append, srw_len, hA]
        omega
      · simp only [List.append_assoc]
        rw [hpa]
        exact m7.drop.swap
  · have hb : i = t.slots.length := by simp at hb; omega
    subst hb
    rw [List.take_length] at m6
    obtain ⟨a7, c7, a8, c8, m7⟩ := tb_open (t := t.build) Hold.ptr m6
    try simp only [go_sem, Nat.reduceBEq, Nat.reduceAdd, Nat.reduceLeDiff, Nat.reduceEqDiff, Int.reduceEq, not_false_eq_true, Int.reduceToNat]
    refine tb_ldraw (tb := t.build) Hold.ptr tyS36 m7.third rfl ?_
    try simp only [go_sem, Nat.reduceBEq, Nat.reduceAdd, Nat.reduceLeDiff]
    exact ⟨a7, c7, a8, c8, rfl, m7.third.drop.third.drop.third.drop⟩
end Go.Proofs.YtedfplodobpgfaaGreatDoor
namespace Go.Proofs.YtedfplodobpgfaaGreatDoor
set_option maxRecDepth 8000
open Go Go.Sx
set_option maxHeartbeats 800000 in
theorem sBuild (t : Tb) (ch : t.ch) (hl : liveN t.slots < 1024) (hks : ∀ e ∈ t.slots, e.key.str.size ≤ 1152921504606846976) (a1 a2 : Option Addr) (c1 c2 : Nat) (h0 h : Hp) (R : Bag) (m : My h0 h ((.row 1 (t.heads.flatMap idt), .slice a1 t.heads.length c1) :: (.row 10 (t.slots.flatMap Sl.dt), .slice a2 t.slots.length c2) :: R)) : ACalls Tryz.prog 115 #[.agg #[.bool t.hashed, .slice a1 t.heads.length c1, .slice a2 t.slots.length c2, .int .i64 t.next, .int .i64 t.count], .int .i64 (roomN (liveN t.slots) : Nat)] h (OwnT h0 t.build R) := by
  have hls := ch.len
  have hc := ch.cnt
  have hr := roomN_spec hl
  (refine enter Tryz.func115 rfl rfl (by kernel_rfl) [] ?_; simp only [go_sem, Nat.reduceBEq, Nat.reduceAdd, Nat.reduceLeDiff])
  refine aloop (ι := Nat × Value) (fun x => [(6, .val (.int .i64 (x.1 : Nat))), (1, .val (.int .i64 (roomN (liveN t.slots) : Nat))), (2, .box 2 0), (5, .box 5 0), (4, .box 4 0)])
    (fun x => [(2, [.bool t.hashed, .slice a1 t.heads.length c1, .slice a2 t.slots.length c2, .int .i64 t.next, .int .i64 t.count]), (5, [.bool true, x.2, .slice none 0 0, .int .i64 t.next, .int .i64 0]), (4, [.bool false, .slice none 0 0, .slice none 0 0, .int .i64 0, .int .i64 0])])
    (fun x h' => x.1 ≤ roomN (liveN t.slots) ∧ My h0 h' ((.row 1 ((List.replicate x.1 (-1)).flatMap idt), x.2) :: (.row 1 (t.heads.flatMap idt), .slice a1 t.heads.length c1) :: (.row 10 (t.slots.flatMap Sl.dt), .slice a2 t.slots.length c2) :: R)) (fun x => roomN (liveN t.slots) - x.1) (0, .slice none 0 0)
    ⟨Nat.zero_le _, m.nilrow⟩ (by repeat (first | exact wkF_e | refine wkF_c rfl ?_)) (wkB_c rfl (wkB_c rfl (wkB_c rfl wkB_e))) rfl ?_
  rintro ⟨n, sh⟩ h1 ⟨hn, m1⟩
  have hn : n ≤ roomN (liveN t.slots) := hn
  have m1 : My h0 h1 ((.row 1 ((List.replicate n (-1)).flatMap idt), sh) :: (.row 1 (t.heads.flatMap idt), .slice a1 t.heads.length c1) :: (.row 10 (t.slots.flatMap Sl.dt), .slice a2 t.slots.length c2) :: R) := m1
  have hrl : ((List.replicate n (-1 : Int)).flatMap idt).length = n * 1 := by rw [fm_len idt_len, List.length_replicate]
  obtain ⟨a3, c3, rfl, _⟩ := m1.row_shape (by decide) n hrl
  simp only [go_sem, Nat.reduceBEq]
  refine Br.intro (fun hb => ?_) (fun hb => ?_) <;> (try simp only [hb, go_sem, Nat.reduceBEq])
  · have hb : n < roomN (liveN t.slots) := by simpa using hb
    have wsu := wrap_succ (i := n) (by omega)
    refine hsem_my_lit (h0 := h0) (es := idt (-1)) (parts := [(0, .int .i64 (-1))]) slT22 (by decide) (by decide) (by decide) rfl rfl (by simp [Value.cells]) (bag := (.row 1 ((List.replicate n (-1)).flatMap idt), .slice a3 n c3) :: (.row 1 (t.heads.flatMap idt), .slice a1 t.heads.length c1) :: (.row 10 (t.slots.flatMap Sl.dt), .slice a2 t.slots.length c2) :: R) (m1.raw (u := .int .i64 (-1)) rfl) rfl rfl fun l4 h4 m4 => ?_
    simp only [go_sem, Nat.reduceBEq]
    refine hsem_my_append slT22 (by decide) rfl n 1 m4.swap hrl rfl (by show (n + 1) * 8 ≤ _; omega) (by omega) fun l5 h5 m5 => ?_
    have e5 : (List.replicate n (-1 : Int)).flatMap idt ++ idt (-1) = (List.replicate (n + 1) (-1 : Int)).flatMap idt := by rw [List.replicate_succ', List.flatMap_append, List.flatMap_cons, List.flatMap_nil, List.append_nil]
    rw [e5] at m5
    obtain ⟨a6, c6, rfl, _⟩ := m5.row_shape (by decide) (n + 1) (by rw [fm_len idt_len, List.length_replicate])
    simp only [wsu, go_sem, Nat.reduceBEq, Nat.reduceAdd, Nat.reduceLeDiff]
    exact Again.intro (n + 1, .slice a6 (n + 1) c6) (by first | omega | (simp only; omega)) ⟨hb, m5⟩ (by repeat (first | exact wkF_e | refine wkF_c rfl ?_)) (wkB_c rfl (wkB_c rfl (wkB_c rfl wkB_e))) rfl
  have hb : n = roomN (liveN t.slots) := by simp at hb; omega
  subst hb
  have ef : t.fresh.heads.length = roomN (liveN t.slots) := by
    show (List.replicate (roomN (liveN t.slots)) (-1 : Int)).length = _
    rw [List.length_replicate]
  refine aloop (ι := Nat × List Dt × (Option Addr × Nat) × (Option Addr × Nat)) (fun x => [(7, .val (.int .i64 (x.1 : Nat))), (2, .box 2 0), (5, .box 5 0), (4, .box 4 0)])
    (fun x => [(2, [.bool t.hashed, .slice a1 t.heads.length c1, .slice a2 t.slots.length c2, .int .i64 t.next, .int .i64 t.count]), (5, [.bool (t.fresh.pushAll (t.slots.take x.1)).hashed, .slice x.2.2.1.1 (t.fresh.pushAll (t.slots.take x.1)).heads.length x.2.2.1.2, .slice x.2.2.2.1 (t.fresh.pushAll (t.slots.take x.1)).slots.length x.2.2.2.2, .int .i64 (t.fresh.pushAll (t.slots.take x.1)).next, .int .i64 (t.fresh.pushAll (t.slots.take x.1)).count]), (4, [.bool false, .slice none 0 0, .slice none 0 0, .int .i64 0, .int .i64 0])])
    (fun x h' => x.1 ≤ t.slots.length ∧ x.2.1.length = x.1 * 10 ∧ My h0 h' ((.row 1 ((t.fresh.pushAll (t.slots.take x.1)).heads.flatMap idt), .slice x.2.2.1.1 (t.fresh.pushAll (t.slots.take x.1)).heads.length x.2.2.1.2) :: (.row 10 ((t.fresh.pushAll (t.slots.take x.1)).slots.flatMap Sl.dt), .slice x.2.2.2.1 (t.fresh.pushAll (t.slots.take x.1)).slots.length x.2.2.2.2) :: (.row 10 (x.2.1 ++ (t.slots.drop x.1).flatMap Sl.dt), .slice a2 t.slots.length c2) :: (.row 1 (t.heads.flatMap idt), .slice a1 t.heads.length c1) :: R)) (fun x => t.slots.length - x.1) (0, [], (a3, c3), (none, 0))
    ⟨Nat.zero_le _, rfl, by
      show My h0 h1 ((.row 1 (t.fresh.heads.flatMap idt), .slice a3 t.fresh.heads.length c3) :: _)
      rw [ef]
      exact ((m1.nilrow (a := none)).swap.perm ((List.Perm.swap _ _ _).cons _ |>.cons _))⟩ (by repeat (first | exact wkF_e | refine wkF_c rfl ?_)) (by
      show wkB _ [(2, _), (5, [.bool true, .slice a3 t.fresh.heads.length c3, .slice none 0 0, .int .i64 t.next, .int .i64 0]), (4, _)]
      rw [ef]
      exact wkB_c rfl (wkB_c rfl (wkB_c rfl wkB_e))) rfl ?_
  rintro ⟨i, A, ⟨a5, c5⟩, ⟨a6, c6⟩⟩ h6 ⟨hi, hA, m6⟩
  have hi : i ≤ t.slots.length := hi
  have hA : A.length = i * 10 := hA
  have m6 : My h0 h6 ((.row 1 ((t.fresh.pushAll (t.slots.take i)).heads.flatMap idt), .slice a5 (t.fresh.pushAll (t.slots.take i)).heads.length c5) :: (.row 10 ((t.fresh.pushAll (t.slots.take i)).slots.flatMap Sl.dt), .slice a6 (t.fresh.pushAll (t.slots.take i)).slots.length c6) :: (.row 10 (A ++ (t.slots.drop i).flatMap Sl.dt), .slice a2 t.slots.length c2) :: (.row 1 (t.heads.flatMap idt), .slice a1 t.heads.length c1) :: R) := m6
  have way := Tb.onWay.all ch hl i hi
  simp only [go_sem, Nat.reduceBEq]
  refine Br.intro (fun hb => ?_) (fun hb => ?_) <;> (try simp only [hb, go_sem, Nat.reduceBEq, Nat.reduceAdd, Nat.reduceLeDiff])
  · have hb : i < t.slots.length := by simpa using hb
    obtain ⟨e, he, _⟩ := get_lt hb
    have wsu := wrap_succ (i := i) (by omega)
    have hke := ch.keys i e he
    have hpa := Tb.pushAll_snoc (o := t.fresh) he
    rw [drop_cons he, List.flatMap_cons] at m6
    obtain ⟨ae, ne, m7⟩ := slot_open m6.third
    obtain ⟨_, _, es, _, _, hat⟩ := m7.swap.row_shape (by decide) t.slots.length (by rw [List.length_append, List.length_append, srw_len, hA, fm_len Sl.dt_len, List.length_drop]; omega)
    cases es
    obtain ⟨b2, rfl⟩ := hat (by omega)
    simp only [ix_nat hb, go_sem, Nat.reduceBEq, Nat.reduceAdd]
    refine hsem_srwL tyS4 m7.swap (by omega) (by omega) ?_
    cases hv : e.live with
    | true =>
      rw [hv, if_pos rfl] at hpa
      have hbs : (((t.fresh.pushAll (t.slots.take i)).push e.key e.val).bump e.key) = t.fresh.pushAll (t.slots.take (i + 1)) := by
        rw [Tb.bump_same (by show e.key.text = true ∨ e.key.num < (t.fresh.pushAll (t.slots.take i)).next; rw [way.next]; exact hke.2), ← hpa]
      simp only [go_sem, Nat.reduceBEq]
      refine regionD_intro (lb := [34, 36, 42]) (by kernel_rfl) ?_
      simp only [ix_nat hb, go_sem, Nat.reduceBEq, Nat.reduceAdd, Nat.reduceLeDiff]
      refine hsem_srwK tyS40 m7.swap (by omega) (by omega) ?_
      simp only [ix_nat hb, go_sem, Nat.reduceBEq, Nat.reduceAdd]
      refine hsem_srwV tyS44 m7.swap (by omega) (by omega) ?_
      simp only [go_sem, Nat.reduceBEq]
      refine (sPush (t.fresh.pushAll (t.slots.take i)) way.ch e.key (by have := hks e (List.mem_of_getElem? he); omega) hke.1 e.val _ _ _ _ _ _ h0 _ _ m7.fourth.fourth.third).mono ?_
      rintro _ h8 ⟨a7, c7, a8, c8, rfl, m8⟩
      rw [hbs] at m8 ⊢
      simp only [wsu, go_sem, Nat.reduceBEq, Nat.reduceAdd, Nat.reduceLeDiff]
      refine Again.intro (i + 1, A ++ srw e (.slice ae e.val.items.length ne), (a7, c7), (a8, c8)) (by first | omega | (simp only; omega)) ⟨hb, ?_, ?_⟩ (by repeat (first | exact wkF_e | refine wkF_c rfl ?_)) (wkB_c rfl (wkB_c rfl (wkB_c rfl wkB_e))) rfl
      · simp only [List.length_append, srw_len, hA]
        omega
      · simp only [List.append_assoc]
        exact m8
    | false =>
      rw [hv, if_neg (by simp)] at hpa
      simp only [wsu, go_sem, Nat.reduceBEq]
      refine Again.intro (i + 1, A ++ srw e (.slice ae e.val.items.length ne), (a5, c5), (a6, c6)) (by first | omega | (simp only; omega)) ⟨hb, ?_, ?_⟩ (by repeat (first | exact wkF_e | refine wkF_c rfl ?_)) (by simp only [hpa]; exact wkB_c rfl (wkB_c rfl (wkB_c rfl wkB_e))) rfl
      · simp only [List.length_append, srw_len, hA]
        omega
      · simp only [List.append_assoc]
        rw [hpa]
        exact m7.drop.third.third
  · have hb : i = t.slots.length := by simp at hb; omega
    subst hb
    rw [List.take_length] at m6
    simp only [List.take_length, go_sem]
    try simp only [go_sem, Nat.reduceBEq, Nat.reduceAdd, Nat.reduceLeDiff, Nat.reduceEqDiff, Int.reduceEq, not_false_eq_true, Int.reduceToNat]
    exact ⟨a5, c5, a6, c6, rfl, m6.third.drop.third.drop⟩
theorem keyOk_size {k : Ky} (h : keyOk k = true) : k.str.size ≤ 400 := by
  unfold keyOk at h
  cases ht : k.text with
  | true => rw [ht] at h; simp at h; omega
  | false => rw [ht] at h; simp at h; rw [h.1]; exact Nat.zero_le _
theorem ch_ks {t : Tb} (ch : t.ch) : ∀ e ∈ t.slots, e.key.str.size ≤ 1152921504606846976 := fun e he => by
  obtain ⟨i, hi, rfl⟩ := List.mem_iff_getElem.1 he
  have := keyOk_size (ch.keys i _ (List.getElem?_eq_getElem hi)).1
  omega
theorem ownT_set {h0 h' : Hp} {t : Tb} {i : Nat} {s : Sl} {x : V} {R : Bag} {a1 a2 : Option Addr} {c1 c2 : Nat} (hs : t.slots[i]? = some s) (m : My h0 h' ((.row 1 (t.heads.flatMap idt), .slice a1 t.heads.length c1) :: (.row 10 ((t.slots.take i ++ ⟨s.key, x, s.live, s.link⟩ :: t.slots.drop (i + 1)).flatMap Sl.dt), .slice a2 t.slots.length c2) :: R)) :
    OwnT h0 (t.setVal i x) R (.agg #[.bool t.hashed, .slice a1 t.heads.length c1, .slice a2 t.slots.length c2, .int .i64 t.next, .int .i64 t.count]) h' := by
  rw [Tb.setVal_eq hs]
  refine ⟨a1, c1, a2, c2, ?_, ?_⟩
  · show _ = Value.agg #[.bool t.hashed, .slice a1 t.heads.length c1, .slice a2 (t.slots.take i ++ ⟨s.key, x, s.live, s.link⟩ :: t.slots.drop (i + 1)).length c2, .int .i64 t.next, .int .i64 t.count]
    rw [set_len hs]
  · show My h0 h' ((.row 1 (t.heads.flatMap idt), .slice a1 t.heads.length c1) :: (.row 10 _, .slice a2 (t.slots.take i ++ ⟨s.key, x, s.live, s.link⟩ :: t.slots.drop (i + 1)).length c2) :: R)
    rw [set_len hs]
    exact m
theorem put_some {t : Tb} {k : Ky} {x : V} {i : Nat} (h : t.find k = some i) : t.put k x = t.setVal i x := by unfold Tb.put; rw [h]
theorem put_none {t : Tb} {k : Ky} {x : V} (h : t.find k = none) : t.put k x = (((t.hashIf k).growIf).push k x).bump k := by unfold Tb.put; rw [h]
theorem hashIf_yes {t : Tb} {k : Ky} (h : t.hashed = false) (h2 : ¬ k = ⟨false, (t.slots.length : Nat), ⟨#[]⟩⟩ ∨ t.slots.length = 1024) : t.hashIf k = t.build := if_pos ⟨h, h2⟩
theorem hashIf_no {t : Tb} {k : Ky} (h : t.hashed = true ∨ (k = ⟨false, (t.slots.length : Nat), ⟨#[]⟩⟩ ∧ ¬ t.slots.length = 1024)) : t.hashIf k = t := by
  refine if_neg fun q => ?_
  rcases h with h | h
  · rw [h] at q; exact absurd q.1 (by simp)
  · exact q.2.elim (fun n => n h.1) h.2
theorem growIf_yes {t : Tb} (h : t.hashed = true) (h2 : t.slots.length = t.heads.length) : t.growIf = t.build := if_pos ⟨h, h2⟩
theorem growIf_no {t : Tb} (h : ¬ (t.hashed = true ∧ t.slots.length = t.heads.length)) : t.growIf = t := if_neg h
theorem build_grow {t : Tb} (ch : t.ch) (hl : liveN t.slots < 1024) : t.build.growIf = t.build := by
  have w := ch.build hl
  have hr := roomN_spec hl
  have h2 := w.len
  rw [List.take_length] at h2
  have h3 := w.size
  exact growIf_no fun q => by omega
theorem build_hashed {t : Tb} (ch : t.ch) (hl : liveN t.slots < 1024) : t.build.hashed = true := (ch.build hl).hashed
theorem build_ne {t : Tb} (ch : t.ch) (hl : liveN t.slots < 1024) : ¬ t.build.slots.length = t.build.heads.length := by
  have w := ch.build hl
  have hr := roomN_spec hl
  have h2 := w.len
  rw [List.take_length] at h2
  have h3 := w.size
  omega
theorem bump_dt_text {t : Tb} {k : Ky} (h : k.text = true) : (t.bump k).dt = t.dt := by unfold Tb.bump; rw [h]; rfl
theorem bump_dt {t : Tb} {k : Ky} (h : k.text = false) : (t.bump k).dt = [.raw (.bool t.hashed), .row 1 (t.heads.flatMap idt), .row 10 (t.slots.flatMap Sl.dt), .raw (.int .i64 (max t.next (k.num + 1))), .raw (.int .i64 t.count)] := by unfold Tb.bump; rw [h]; rfl
theorem dec_len {a b : Nat} : decide (((a : Nat) : Int) = ((b : Nat) : Int)) = decide (a = b) := decide_eq_decide.2 (by omega)
set_option maxHeartbeats 1600000 in
theorem iPut (t : Tb) (ch : t.ch) (k : Ky) (ko : keyOk k = true) (x : V) (hl : t.find k = none → liveN t.slots < 1024) (ax a1 a2 : Option Addr) (cx c1 c2 : Nat) (h0 h : Hp) (R : Bag) (m : My h0 h ((.row 8 (x.items.flatMap edt), .slice ax x.items.length cx) :: (.row 1 (t.heads.flatMap idt), .slice a1 t.heads.length c1) :: (.row 10 (t.slots.flatMap Sl.dt), .slice a2 t.slots.length c2) :: R)) :
    ACalls Tryz.prog 64 #[.agg #[.bool t.hashed, .slice a1 t.heads.length c1, .slice a2 t.slots.length c2, .int .i64 t.next, .int .i64 t.count], .agg #[.bool k.text, .int .i64 k.num, .string k.str], .agg #[.int .i64 x.kind, .int .i64 x.num, .string x.str, .int .i64 x.next, .slice ax x.items.length cx]] h (OwnT h0 (t.put k x) R) := by
  have hls := ch.len
  have hk : k.str.size ≤ 1152921504606846976 := by have := keyOk_size ko; omega
  (refine enter Tryz.func64 rfl rfl (by kernel_rfl) [3] ?_; simp only [go_sem, Nat.reduceBEq])
  refine hsem_my_box (h0 := h0) (es := t.dt) (tab_zip t m.third.third) rfl fun b0 h1 m1 => ?_
  simp only [go_sem, Nat.reduceBEq]
  refine tb_load Hold.ptr tyS36 m1 rfl fun s u r1 r2 => ?_
  simp only [go_sem, Nat.reduceBEq, Nat.reduceAdd, Nat.reduceLeDiff]
  (refine (iFind t k ch hk _ _ _ r1 r2).mono ?_; rintro _ _ ⟨rfl, rfl⟩; simp only [go_sem, Nat.reduceBEq])
  obtain ⟨a3, c3, a4, c4, m2⟩ := tb_open Hold.ptr m1
  cases hf : t.find k with
  | some i =>
    obtain ⟨s, hs, _⟩ := Tb.find_live hf
    have hlt := (List.getElem?_eq_some_iff.1 hs).1
    rw [put_some hf]
    simp only [ixI_some, go_sem]
    refine Br.intro (fun hz => ?_) (fun hz => ?_) <;> (try simp only [hz, go_sem, Nat.reduceBEq, Nat.reduceAdd])
    case refine_2 => exact absurd (of_decide_eq_false hz) (by omega)
    obtain ⟨_, _, e5, _, _, hat⟩ := m2.swap.row_shape (by decide) t.slots.length (fm_len Sl.dt_len _)
    cases e5
    obtain ⟨b2, rfl⟩ := hat (by omega)
    refine Hold.ld1 (i := 2) Hold.ptr tyS34 m2.third rfl rfl ?_
    simp only [ix_nat hlt, go_sem, Nat.reduceBEq, Nat.reduceAdd, Nat.reduceLeDiff]
    obtain ⟨c6, hd6, hc6⟩ := hold_sval (b := b2) (cap := c4) hs
    have m3 : My h0 h1 ((.row 8 (x.items.flatMap edt), .slice ax x.items.length cx) :: (c6 s.val.dt, .slice (some ⟨b2, 0, none⟩) t.slots.length c4) :: (.ptr [] (traws t (.slice a3 t.heads.length c3) (.slice (some ⟨b2, 0, none⟩) t.slots.length c4)) [], .pointer (some ⟨b0, 0, none⟩)) :: (.row 1 (t.heads.flatMap idt), .slice a3 t.heads.length c3) :: R) := by
      rw [hc6, slot_self hs]
      exact m2.fourth.fourth.fourth.third
    refine var_store hd6 (w := x) (V.dt_len _) m3 (by omega) fun h3 m4 => ?_
    rw [hc6] at m4
    simp only [go_sem, Nat.reduceBEq]
    refine tb_ldraw (tb := t) Hold.ptr tyS36 m4.swap rfl ?_
    try simp only [go_sem, Nat.reduceBEq, Nat.reduceAdd, Nat.reduceLeDiff]
    exact ownT_set hs m4.swap.drop.swap
  | none =>
  have hlv := hl hf
  have hb := ch.build hlv
  rw [put_none hf]
  simp only [ixI_none, go_sem]
  refine Br.intro (fun hz => ?_) (fun hz => ?_) <;> (try simp only [hz, go_sem, Nat.reduceBEq, Nat.reduceAdd])
  case refine_1 => exact absurd (of_decide_eq_true hz) (by decide)
  refine regionD_intro (lb := [24]) (by kernel_rfl) ?_
  simp only [go_sem, Nat.reduceBEq]
  refine Hold.ld1 (i := 0) Hold.ptr tyS4 m2.third rfl rfl ?_
  by_cases ht : t.hashed = true
  · rw [hashIf_no (.inl ht)]
    simp only [ht, go_sem, Nat.reduceBEq]
    refine Hold.ld1 (i := 0) Hold.ptr tyS4 m2.third rfl rfl ?_
    simp only [ht, go_sem, Nat.reduceBEq, Nat.reduceAdd]
    refine Hold.ld1 (i := 2) Hold.ptr tyS34 m2.third rfl rfl ?_
    simp only [go_sem, Nat.reduceBEq]
    refine Hold.ld1 (i := 1) Hold.ptr tyS22 m2.third rfl rfl ?_
    simp only [dec_len, go_sem, Nat.reduceBEq]
    by_cases hg : t.slots.length = t.heads.length
    · rw [growIf_yes ht hg]
      simp only [decide_eq_true hg, go_sem, Nat.reduceBEq]
      try simp only [go_sem, Nat.reduceBEq, Nat.reduceAdd, Nat.reduceLeDiff, Nat.reduceEqDiff, Int.reduceEq, not_false_eq_true, Int.reduceToNat]
      refine tb_ldraw (tb := t) Hold.ptr tyS36 m2.third rfl ?_
      simp only [go_sem, Nat.reduceBEq]
      refine (iRebuilt t ch hlv (ch_ks ch) _ _ _ _ h0 _ _ m2).mono ?_
      rintro _ h5 ⟨a5, c5, a6, c6, rfl, m5⟩
      simp only [go_sem, Nat.reduceBEq]
      refine tb_store (tb := t.build) Hold.ptr tyS36 (traws_len _ _ _) m5 rfl fun h6 m6 => ?_
      have m7 := m6.swap
      try simp only [go_sem, Nat.reduceBEq, Nat.reduceAdd, Nat.reduceLeDiff]
      refine (iAddSlot Hold.ptr t.build hb.ch k hk x _ _ h0 _ _ m7).mono ?_
      rintro _ h8 ⟨rfl, m8⟩
      by_cases kt : k.text = true
      · simp only [kt, go_sem, Nat.reduceBEq]
        rw [← bump_dt_text kt] at m8
        obtain ⟨a7, c7, a8, c8, m9⟩ := tb_open (t := (t.build.push k x).bump k) Hold.ptr m8
        refine tb_ldraw (tb := (t.build.push k x).bump k) Hold.ptr tyS36 m9.third rfl ?_
        try simp only [go_sem, Nat.reduceBEq, Nat.reduceAdd, Nat.reduceLeDiff]
        exact ⟨a7, c7, a8, c8, rfl, m9.third.drop⟩
      · have kt : k.text = false := by simpa using kt
        have wk : IntKind.i64.wrap (k.num + 1) = k.num + 1 := by
          have := keyOk_num ko
          rw [kt] at this
          simp at this
          exact IntWalk.i64_in _ (by omega)
        simp only [kt, go_sem, Nat.reduceBEq, Nat.reduceAdd]
        refine Hold.ld1 (i := 3) Hold.ptr tyS3 m8 rfl rfl ?_
        simp only [wk, go_sem, Nat.reduceBEq]
        (refine (iMax _ _ _).mono ?_; rintro _ _ ⟨rfl, rfl⟩; simp only [go_sem, Nat.reduceBEq, Nat.reduceAdd])
        refine Hold.setC (d := .raw (.int .i64 (t.build.push k x).next)) Hold.ptr [.raw (.bool (t.build.push k x).hashed), .row 1 ((t.build.push k x).heads.flatMap idt), .row 10 ((t.build.push k x).slots.flatMap Sl.dt)] [.raw (.int .i64 (t.build.push k x).count)] tyS3 rfl rfl m8 rfl fun h9 m9 => ?_
        have m9 : My h0 h9 ((.ptr [] ((t.build.push k x).bump k).dt [], .pointer (some ⟨b0, 0, none⟩)) :: R) := by rw [bump_dt kt]; exact m9
        obtain ⟨a7, c7, a8, c8, m10⟩ := tb_open (t := (t.build.push k x).bump k) Hold.ptr m9
        simp only [go_sem, Nat.reduceBEq]
        refine tb_ldraw (tb := (t.build.push k x).bump k) Hold.ptr tyS36 m10.third rfl ?_
        try simp only [go_sem, Nat.reduceBEq, Nat.reduceAdd, Nat.reduceLeDiff]
        exact ⟨a7, c7, a8, c8, rfl, m10.third.drop⟩
    · rw [growIf_no fun q => hg q.2]
      simp only [decide_eq_false hg, go_sem, Nat.reduceBEq, Nat.reduceAdd, Nat.reduceLeDiff]
      try simp only [go_sem, Nat.reduceBEq, Nat.reduceAdd, Nat.reduceLeDiff, Nat.reduceEqDiff, Int.reduceEq, not_false_eq_true, Int.reduceToNat]
      refine (iAddSlot Hold.ptr t ch k hk x _ _ h0 _ _ m1.swap).mono ?_
      rintro _ h8 ⟨rfl, m8⟩
      by_cases kt : k.text = true
      · simp only [kt, go_sem, Nat.reduceBEq]
        rw [← bump_dt_text kt] at m8
        obtain ⟨a7, c7, a8, c8, m9⟩ := tb_open (t := (t.push k x).bump k) Hold.ptr m8
        refine tb_ldraw (tb := (t.push k x).bump k) Hold.ptr tyS36 m9.third rfl ?_
        try simp only [go_sem, Nat.reduceBEq, Nat.reduceAdd, Nat.reduceLeDiff]
        exact ⟨a7, c7, a8, c8, rfl, m9.third.drop⟩
      · have kt : k.text = false := by simpa using kt
        have wk : IntKind.i64.wrap (k.num + 1) = k.num + 1 := by
          have := keyOk_num ko
          rw [kt] at this
          simp at this
          exact IntWalk.i64_in _ (by omega)
        simp only [kt, go_sem, Nat.reduceBEq, Nat.reduceAdd]
        refine Hold.ld1 (i := 3) Hold.ptr tyS3 m8 rfl rfl ?_
        simp only [wk, go_sem, Nat.reduceBEq]
        (refine (iMax _ _ _).mono ?_; rintro _ _ ⟨rfl, rfl⟩; simp only [go_sem, Nat.reduceBEq, Nat.reduceAdd])
        refine Hold.setC (d := .raw (.int .i64 (t.push k x).next)) Hold.ptr [.raw (.bool (t.push k x).hashed), .row 1 ((t.push k x).heads.flatMap idt), .row 10 ((t.push k x).slots.flatMap Sl.dt)] [.raw (.int .i64 (t.push k x).count)] tyS3 rfl rfl m8 rfl fun h9 m9 => ?_
        have m9 : My h0 h9 ((.ptr [] ((t.push k x).bump k).dt [], .pointer (some ⟨b0, 0, none⟩)) :: R) := by rw [bump_dt kt]; exact m9
        obtain ⟨a7, c7, a8, c8, m10⟩ := tb_open (t := (t.push k x).bump k) Hold.ptr m9
        simp only [go_sem, Nat.reduceBEq]
        refine tb_ldraw (tb := (t.push k x).bump k) Hold.ptr tyS36 m10.third rfl ?_
        try simp only [go_sem, Nat.reduceBEq, Nat.reduceAdd, Nat.reduceLeDiff]
        exact ⟨a7, c7, a8, c8, rfl, m10.third.drop⟩
  · have ht : t.hashed = false := by simpa using ht
    simp only [ht, go_sem, Nat.reduceBEq, Nat.reduceAdd, Nat.reduceLeDiff]
    refine Hold.ld1 (i := 2) Hold.ptr tyS34 m2.third rfl rfl ?_
    simp only [go_sem, Nat.reduceBEq]
    (refine (iIntKey _ _).mono ?_; rintro _ _ ⟨rfl, rfl⟩; simp only [go_sem, Nat.reduceBEq])
    have kd : decide (k.text = false ∧ k.num = ((t.slots.length : Nat) : Int) ∧ k.str = ⟨#[]⟩) = decide (k = ⟨false, (t.slots.length : Nat), ⟨#[]⟩⟩) := key_dec k ⟨false, (t.slots.length : Nat), ⟨#[]⟩⟩
    simp only [kd, go_sem]
    by_cases hq : k = ⟨false, (t.slots.length : Nat), ⟨#[]⟩⟩
    · simp only [decide_eq_true hq, Bool.not_true, go_sem, Nat.reduceBEq, Nat.reduceAdd]
      refine Hold.ld1 (i := 2) Hold.ptr tyS34 m2.third rfl rfl ?_
      simp only [go_sem, Nat.reduceBEq]
      by_cases hn : t.slots.length = 1024
      · rw [hashIf_yes ht (.inr hn), build_grow ch hlv]
        simp only [decide_eq_true (show (1024 : Int) ≤ ((t.slots.length : Nat) : Int) by omega), go_sem, Nat.reduceBEq]
        try simp only [go_sem, Nat.reduceBEq, Nat.reduceAdd, Nat.reduceLeDiff, Nat.reduceEqDiff, Int.reduceEq, not_false_eq_true, Int.reduceToNat]
        refine tb_ldraw (tb := t) Hold.ptr tyS36 m2.third rfl ?_
        simp only [go_sem, Nat.reduceBEq]
        refine (iRebuilt t ch hlv (ch_ks ch) _ _ _ _ h0 _ _ m2).mono ?_
        rintro _ h5 ⟨a5, c5, a6, c6, rfl, m5⟩
        simp only [go_sem, Nat.reduceBEq]
        refine tb_store (tb := t.build) Hold.ptr tyS36 (traws_len _ _ _) m5 rfl fun h6 m6 => ?_
        have m7 := m6.swap
        obtain ⟨a9, c9, a10, c10, m9⟩ := tb_open Hold.ptr m6
        simp only [go_sem, Nat.reduceBEq]
        refine Hold.ld1 (i := 0) Hold.ptr tyS4 m9.third rfl rfl ?_
        simp only [build_hashed ch hlv, go_sem, Nat.reduceBEq, Nat.reduceAdd]
        refine Hold.ld1 (i := 2) Hold.ptr tyS34 m9.third rfl rfl ?_
        simp only [go_sem, Nat.reduceBEq]
        refine Hold.ld1 (i := 1) Hold.ptr tyS22 m9.third rfl rfl ?_
        simp only [dec_len, decide_eq_false (build_ne ch hlv), go_sem, Nat.reduceBEq, Nat.reduceAdd, Nat.reduceLeDiff]
        try simp only [go_sem, Nat.reduceBEq, Nat.reduceAdd, Nat.reduceLeDiff, Nat.reduceEqDiff, Int.reduceEq, not_false_eq_true, Int.reduceToNat]
        refine (iAddSlot Hold.ptr t.build hb.ch k hk x _ _ h0 _ _ m7).mono ?_
        rintro _ h8 ⟨rfl, m8⟩
        by_cases kt : k.text = true
        · simp only [kt, go_sem, Nat.reduceBEq]
          rw [← bump_dt_text kt] at m8
          obtain ⟨a7, c7, a8, c8, m9⟩ := tb_open (t := (t.build.push k x).bump k) Hold.ptr m8
          refine tb_ldraw (tb := (t.build.push k x).bump k) Hold.ptr tyS36 m9.third rfl ?_
          try simp only [go_sem, Nat.reduceBEq, Nat.reduceAdd, Nat.reduceLeDiff]
          exact ⟨a7, c7, a8, c8, rfl, m9.third.drop⟩
        · have kt : k.text = false := by simpa using kt
          have wk : IntKind.i64.wrap (k.num + 1) = k.num + 1 := by
            have := keyOk_num ko
            rw [kt] at this
            simp at this
            exact IntWalk.i64_in _ (by omega)
          simp only [kt, go_sem, Nat.reduceBEq, Nat.reduceAdd]
          refine Hold.ld1 (i := 3) Hold.ptr tyS3 m8 rfl rfl ?_
          simp only [wk, go_sem, Nat.reduceBEq]
          (refine (iMax _ _ _).mono ?_; rintro _ _ ⟨rfl, rfl⟩; simp only [go_sem, Nat.reduceBEq, Nat.reduceAdd])
          refine Hold.setC (d := .raw (.int .i64 (t.build.push k x).next)) Hold.ptr [.raw (.bool (t.build.push k x).hashed), .row 1 ((t.build.push k x).heads.flatMap idt), .row 10 ((t.build.push k x).slots.flatMap Sl.dt)] [.raw (.int .i64 (t.build.push k x).count)] tyS3 rfl rfl m8 rfl fun h9 m9 => ?_
          have m9 : My h0 h9 ((.ptr [] ((t.build.push k x).bump k).dt [], .pointer (some ⟨b0, 0, none⟩)) :: R) := by rw [bump_dt kt]; exact m9
          obtain ⟨a7, c7, a8, c8, m10⟩ := tb_open (t := (t.build.push k x).bump k) Hold.ptr m9
          simp only [go_sem, Nat.reduceBEq]
          refine tb_ldraw (tb := (t.build.push k x).bump k) Hold.ptr tyS36 m10.third rfl ?_
          try simp only [go_sem, Nat.reduceBEq, Nat.reduceAdd, Nat.reduceLeDiff]
          exact ⟨a7, c7, a8, c8, rfl, m10.third.drop⟩
      · rw [hashIf_no (.inr ⟨hq, hn⟩), growIf_no fun q => by rw [ht] at q; exact absurd q.1 (by simp)]
        simp only [decide_eq_false (show ¬ (1024 : Int) ≤ ((t.slots.length : Nat) : Int) by omega), go_sem, Nat.reduceBEq]
        refine Hold.ld1 (i := 0) Hold.ptr tyS4 m2.third rfl rfl ?_
        simp only [ht, go_sem, Nat.reduceBEq, Nat.reduceAdd, Nat.reduceLeDiff]
        try simp only [go_sem, Nat.reduceBEq, Nat.reduceAdd, Nat.reduceLeDiff, Nat.reduceEqDiff, Int.reduceEq, not_false_eq_true, Int.reduceToNat]
        refine (iAddSlot Hold.ptr t ch k hk x _ _ h0 _ _ m1.swap).mono ?_
        rintro _ h8 ⟨rfl, m8⟩
        by_cases kt : k.text = true
        · simp only [kt, go_sem, Nat.reduceBEq]
          rw [← bump_dt_text kt] at m8
          obtain ⟨a7, c7, a8, c8, m9⟩ := tb_open (t := (t.push k x).bump k) Hold.ptr m8
          refine tb_ldraw (tb := (t.push k x).bump k) Hold.ptr tyS36 m9.third rfl ?_
          try simp only [go_sem, Nat.reduceBEq, Nat.reduceAdd, Nat.reduceLeDiff]
          exact ⟨a7, c7, a8, c8, rfl, m9.third.drop⟩
        · have kt : k.text = false := by simpa using kt
          have wk : IntKind.i64.wrap (k.num + 1) = k.num + 1 := by
            have := keyOk_num ko
            rw [kt] at this
            simp at this
            exact IntWalk.i64_in _ (by omega)
          simp only [kt, go_sem, Nat.reduceBEq, Nat.reduceAdd]
          refine Hold.ld1 (i := 3) Hold.ptr tyS3 m8 rfl rfl ?_
          simp only [wk, go_sem, Nat.reduceBEq]
          (refine (iMax _ _ _).mono ?_; rintro _ _ ⟨rfl, rfl⟩; simp only [go_sem, Nat.reduceBEq, Nat.reduceAdd])
          refine Hold.setC (d := .raw (.int .i64 (t.push k x).next)) Hold.ptr [.raw (.bool (t.push k x).hashed), .row 1 ((t.push k x).heads.flatMap idt), .row 10 ((t.push k x).slots.flatMap Sl.dt)] [.raw (.int .i64 (t.push k x).count)] tyS3 rfl rfl m8 rfl fun h9 m9 => ?_
          have m9 : My h0 h9 ((.ptr [] ((t.push k x).bump k).dt [], .pointer (some ⟨b0, 0, none⟩)) :: R) := by rw [bump_dt kt]; exact m9
          obtain ⟨a7, c7, a8, c8, m10⟩ := tb_open (t := (t.push k x).bump k) Hold.ptr m9
          simp only [go_sem, Nat.reduceBEq]
          refine tb_ldraw (tb := (t.push k x).bump k) Hold.ptr tyS36 m10.third rfl ?_
          try simp only [go_sem, Nat.reduceBEq, Nat.reduceAdd, Nat.reduceLeDiff]
          exact ⟨a7, c7, a8, c8, rfl, m10.third.drop⟩
    · rw [hashIf_yes ht (.inl hq), build_grow ch hlv]
      simp only [decide_eq_false hq, Bool.not_false, go_sem, Nat.reduceBEq]
      try simp only [go_sem, Nat.reduceBEq, Nat.reduceAdd, Nat.reduceLeDiff, Nat.reduceEqDiff, Int.reduceEq, not_false_eq_true, Int.reduceToNat]
      refine tb_ldraw (tb := t) Hold.ptr tyS36 m2.third rfl ?_
      simp only [go_sem, Nat.reduceBEq]
      refine (iRebuilt t ch hlv (ch_ks ch) _ _ _ _ h0 _ _ m2).mono ?_
      rintro _ h5 ⟨a5, c5, a6, c6, rfl, m5⟩
      simp only [go_sem, Nat.reduceBEq]
      refine tb_store (tb := t.build) Hold.ptr tyS36 (traws_len _ _ _) m5 rfl fun h6 m6 => ?_
      have m7 := m6.swap
      obtain ⟨a9, c9, a10, c10, m9⟩ := tb_open Hold.ptr m6
      simp only [go_sem, Nat.reduceBEq]
      refine Hold.ld1 (i := 0) Hold.ptr tyS4 m9.third rfl rfl ?_
      simp only [build_hashed ch hlv, go_sem, Nat.reduceBEq, Nat.reduceAdd]
      refine Hold.ld1 (i := 2) Hold.ptr tyS34 m9.third rfl rfl ?_
      simp only [go_sem, Nat.reduceBEq]
      refine Hold.ld1 (i := 1) Hold.ptr tyS22 m9.third rfl rfl ?_
      simp only [dec_len, decide_eq_false (build_ne ch hlv), go_sem, Nat.reduceBEq, Nat.reduceAdd, Nat.reduceLeDiff]
      try simp only [go_sem, Nat.reduceBEq, Nat.reduceAdd, Nat.reduceLeDiff, Nat.reduceEqDiff, Int.reduceEq, not_false_eq_true, Int.reduceToNat]
      refine (iAddSlot Hold.ptr t.build hb.ch k hk x _ _ h0 _ _ m7).mono ?_
      rintro _ h8 ⟨rfl, m8⟩
      by_cases kt : k.text = true
      · simp only [kt, go_sem, Nat.reduceBEq]
        rw [← bump_dt_text kt] at m8
        obtain ⟨a7, c7, a8, c8, m9⟩ := tb_open (t := (t.build.push k x).bump k) Hold.ptr m8
        refine tb_ldraw (tb := (t.build.push k x).bump k) Hold.ptr tyS36 m9.third rfl ?_
        try simp only [go_sem, Nat.reduceBEq, Nat.reduceAdd, Nat.reduceLeDiff]
        exact ⟨a7, c7, a8, c8, rfl, m9.third.drop⟩
      · have kt : k.text = false := by simpa using kt
        have wk : IntKind.i64.wrap (k.num + 1) = k.num + 1 := by
          have := keyOk_num ko
          rw [kt] at this
          simp at this
          exact IntWalk.i64_in _ (by omega)
        simp only [kt, go_sem, Nat.reduceBEq, Nat.reduceAdd]
        refine Hold.ld1 (i := 3) Hold.ptr tyS3 m8 rfl rfl ?_
        simp only [wk, go_sem, Nat.reduceBEq]
        (refine (iMax _ _ _).mono ?_; rintro _ _ ⟨rfl, rfl⟩; simp only [go_sem, Nat.reduceBEq, Nat.reduceAdd])
        refine Hold.setC (d := .raw (.int .i64 (t.build.push k x).next)) Hold.ptr [.raw (.bool (t.build.push k x).hashed), .row 1 ((t.build.push k x).heads.flatMap idt), .row 10 ((t.build.push k x).slots.flatMap Sl.dt)] [.raw (.int .i64 (t.build.push k x).count)] tyS3 rfl rfl m8 rfl fun h9 m9 => ?_
        have m9 : My h0 h9 ((.ptr [] ((t.build.push k x).bump k).dt [], .pointer (some ⟨b0, 0, none⟩)) :: R) := by rw [bump_dt kt]; exact m9
        obtain ⟨a7, c7, a8, c8, m10⟩ := tb_open (t := (t.build.push k x).bump k) Hold.ptr m9
        simp only [go_sem, Nat.reduceBEq]
        refine tb_ldraw (tb := (t.build.push k x).bump k) Hold.ptr tyS36 m10.third rfl ?_
        try simp only [go_sem, Nat.reduceBEq, Nat.reduceAdd, Nat.reduceLeDiff]
        exact ⟨a7, c7, a8, c8, rfl, m10.third.drop⟩
/-- a table of the walk's own, and a Bool -/
def OwnT2 (h0 : Hp) (t : Tb) (ok : Bool) (R : Bag) (u : Value) (h' : Hp) : Prop := ∃ w, u = .tuple #[w, .bool ok] ∧ OwnT h0 t R w h'
set_option maxHeartbeats 1600000 in
theorem sSet (t : Tb) (ch : t.ch) (k : Ky) (ko : keyOk k = true) (x : V) (ax a1 a2 : Option Addr) (cx c1 c2 : Nat) (h0 h : Hp) (R : Bag) (m : My h0 h ((.row 8 (x.items.flatMap edt), .slice ax x.items.length cx) :: (.row 1 (t.heads.flatMap idt), .slice a1 t.heads.length c1) :: (.row 10 (t.slots.flatMap Sl.dt), .slice a2 t.slots.length c2) :: R)) :
    ACalls Tryz.prog 55 #[.agg #[.bool t.hashed, .slice a1 t.heads.length c1, .slice a2 t.slots.length c2, .int .i64 t.next, .int .i64 t.count], .agg #[.bool k.text, .int .i64 k.num, .string k.str], .agg #[.int .i64 x.kind, .int .i64 x.num, .string x.str, .int .i64 x.next, .slice ax x.items.length cx]] h (OwnT2 h0 (t.set k x) (t.roomy k) R) := by
  have hls := ch.len
  have hk : k.str.size ≤ 1152921504606846976 := by have := keyOk_size ko; omega
  (refine enter Tryz.func55 rfl rfl (by kernel_rfl) [] ?_; simp only [go_sem, Nat.reduceBEq, Nat.reduceAdd, Nat.reduceLeDiff])
  (refine (sFind7 t k ch hk _ _ _ m.swap.rd m.third.rd).mono ?_; rintro _ _ ⟨rfl, rfl⟩; simp only [go_sem, Nat.reduceBEq])
  cases hf : t.find k with
  | some i =>
    obtain ⟨s, hs, _⟩ := Tb.find_live hf
    have hlt := (List.getElem?_eq_some_iff.1 hs).1
    rw [set_yes (roomy_some hf), roomy_some hf, put_some hf]
    simp only [ixI_some, go_sem]
    refine Br.intro (fun hz => ?_) (fun hz => ?_) <;> (try simp only [hz, go_sem, Nat.reduceBEq, Nat.reduceAdd, Nat.reduceLeDiff])
    case refine_2 => exact absurd (of_decide_eq_false hz) (by omega)
    obtain ⟨_, _, e5, _, _, hat⟩ := m.third.row_shape (by decide) t.slots.length (fm_len Sl.dt_len _)
    cases e5
    obtain ⟨b2, rfl⟩ := hat (by omega)
    simp only [ix_nat hlt, go_sem, Nat.reduceBEq, Nat.reduceAdd]
    obtain ⟨c6, hd6, hc6⟩ := hold_sval (b := b2) (cap := c2) hs
    have m3 : My h0 h ((.row 8 (x.items.flatMap edt), .slice ax x.items.length cx) :: (c6 s.val.dt, .slice (some ⟨b2, 0, none⟩) t.slots.length c2) :: (.row 1 (t.heads.flatMap idt), .slice a1 t.heads.length c1) :: R) := by
      rw [hc6, slot_self hs]
      exact m.third.swap
    refine var_store hd6 (w := x) (V.dt_len _) m3 (by omega) fun h3 m4 => ?_
    rw [hc6] at m4
    simp only [go_sem, Nat.reduceBEq, Nat.reduceAdd, Nat.reduceLeDiff]
    exact ⟨_, rfl, ownT_set hs m4.swap⟩
  | none =>
  have hcn := ch.cnt
  simp only [ixI_none, go_sem]
  refine Br.intro (fun hz => ?_) (fun hz => ?_) <;> (try simp only [hz, go_sem, Nat.reduceBEq, Nat.reduceAdd, Nat.reduceLeDiff])
  case refine_1 => exact absurd (of_decide_eq_true hz) (by decide)
  by_cases hlv : liveN t.slots < 1024
  case neg =>
    have hr : t.roomy k = false := by rw [roomy_none hf]; exact decide_eq_false hlv
    rw [set_no hr, hr]
    simp only [decide_eq_true (show (1024 : Int) ≤ t.count by omega), go_sem, Nat.reduceBEq, Nat.reduceAdd, Nat.reduceLeDiff]
    exact ⟨_, rfl, _, _, _, _, rfl, m.drop⟩
  have hr : t.roomy k = true := by rw [roomy_none hf]; exact decide_eq_true hlv
  have hb := ch.build hlv
  rw [set_yes hr, hr, put_none hf]
  simp only [decide_eq_false (show ¬ (1024 : Int) ≤ t.count by omega), go_sem, Nat.reduceBEq]
  by_cases ht : t.hashed = true
  · rw [hashIf_no (.inl ht)]
    have SR := sRoom t ch hlv
    simp only [ht] at SR
    have SB := sBuild t ch hlv (ch_ks ch)
    simp only [ht] at SB
    have SP := sPush t ch k hk ko x
    simp only [ht] at SP
    simp only [ht, dec_len, go_sem, Nat.reduceBEq]
    by_cases hg : t.slots.length = t.heads.length
    · rw [growIf_yes ht hg]
      simp only [decide_eq_true hg, go_sem]
      try simp only [go_sem, Nat.reduceBEq, Nat.reduceAdd, Nat.reduceLeDiff, Nat.reduceEqDiff, Int.reduceEq, not_false_eq_true, Int.reduceToNat]
      refine regionD_intro (lb := [57, 58]) (by kernel_rfl) ?_
      simp only [go_sem, Nat.reduceBEq, Nat.reduceAdd, Nat.reduceLeDiff]
      (refine (SR _ _ _).mono ?_; rintro _ _ ⟨rfl, rfl⟩; simp only [go_sem, Nat.reduceBEq])
      refine (SB _ _ _ _ h0 _ _ m.third.third).mono ?_
      rintro _ h5 ⟨a5, c5, a6, c6, rfl, m5⟩
      have m7 := m5.third
      simp only [go_sem, Nat.reduceBEq, Nat.reduceAdd, Nat.reduceLeDiff]
      try simp only [go_sem, Nat.reduceBEq, Nat.reduceAdd, Nat.reduceLeDiff, Nat.reduceEqDiff, Int.reduceEq, not_false_eq_true, Int.reduceToNat]
      refine ((sPush t.build hb.ch k hk ko x) _ _ _ _ _ _ h0 _ _ m7).mono ?_
      rintro _ h8 ⟨a7, c7, a8, c8, rfl, m8⟩
      simp only [go_sem, Nat.reduceBEq, Nat.reduceAdd, Nat.reduceLeDiff]
      exact ⟨_, rfl, a7, c7, a8, c8, rfl, m8⟩
    · rw [growIf_no fun q => hg q.2]
      simp only [decide_eq_false hg, go_sem, Nat.reduceBEq, Nat.reduceAdd, Nat.reduceLeDiff]
      try simp only [go_sem, Nat.reduceBEq, Nat.reduceAdd, Nat.reduceLeDiff, Nat.reduceEqDiff, Int.reduceEq, not_false_eq_true, Int.reduceToNat]
      refine (SP _ _ _ _ _ _ h0 _ _ m).mono ?_
      rintro _ h8 ⟨a7, c7, a8, c8, rfl, m8⟩
      simp only [go_sem, Nat.reduceBEq, Nat.reduceAdd, Nat.reduceLeDiff]
      exact ⟨_, rfl, a7, c7, a8, c8, rfl, m8⟩
  · have ht : t.hashed = false := by simpa using ht
    have SR := sRoom t ch hlv
    simp only [ht] at SR
    have SB := sBuild t ch hlv (ch_ks ch)
    simp only [ht] at SB
    have SP := sPush t ch k hk ko x
    simp only [ht] at SP
    have SPB := sPush t.build hb.ch k hk ko x
    simp only [build_hashed ch hlv] at SPB
    have kd : decide (k.text = false ∧ k.num = ((t.slots.length : Nat) : Int) ∧ k.str = ⟨#[]⟩) = decide (k = ⟨false, (t.slots.length : Nat), ⟨#[]⟩⟩) := key_dec k ⟨false, (t.slots.length : Nat), ⟨#[]⟩⟩
    simp only [ht, kd, keyT40, go_sem, Nat.reduceBEq, Nat.reduceAdd, Nat.reduceLeDiff]
    by_cases hq : k = ⟨false, (t.slots.length : Nat), ⟨#[]⟩⟩
    · simp only [decide_eq_true hq, Bool.not_true, go_sem, Nat.reduceBEq]
      by_cases hn : t.slots.length = 1024
      · rw [hashIf_yes ht (.inr hn), build_grow ch hlv]
        simp only [decide_eq_true (show ((t.slots.length : Nat) : Int) = 1024 by omega), go_sem]
        try simp only [go_sem, Nat.reduceBEq, Nat.reduceAdd, Nat.reduceLeDiff, Nat.reduceEqDiff, Int.reduceEq, not_false_eq_true, Int.reduceToNat]
        refine regionD_intro (lb := [42, 43]) (by kernel_rfl) ?_
        simp only [go_sem, Nat.reduceBEq, Nat.reduceAdd, Nat.reduceLeDiff]
        (refine (SR _ _ _).mono ?_; rintro _ _ ⟨rfl, rfl⟩; simp only [go_sem, Nat.reduceBEq])
        refine (SB _ _ _ _ h0 _ _ m.third.third).mono ?_
        rintro _ h5 ⟨a5, c5, a6, c6, rfl, m5⟩
        have m7 := m5.third
        simp only [go_sem, Nat.reduceBEq, Nat.reduceAdd, Nat.reduceLeDiff]
        simp only [build_hashed ch hlv, dec_len, decide_eq_false (build_ne ch hlv), go_sem, Nat.reduceBEq, Nat.reduceAdd, Nat.reduceLeDiff]
        try simp only [go_sem, Nat.reduceBEq, Nat.reduceAdd, Nat.reduceLeDiff, Nat.reduceEqDiff, Int.reduceEq, not_false_eq_true, Int.reduceToNat]
        refine (SPB _ _ _ _ _ _ h0 _ _ m7).mono ?_
        rintro _ h8 ⟨a7, c7, a8, c8, rfl, m8⟩
        simp only [go_sem, Nat.reduceBEq, Nat.reduceAdd, Nat.reduceLeDiff]
        exact ⟨_, rfl, a7, c7, a8, c8, rfl, m8⟩
      · rw [hashIf_no (.inr ⟨hq, hn⟩), growIf_no fun q => by rw [ht] at q; exact absurd q.1 (by simp)]
        simp only [decide_eq_false (show ¬ ((t.slots.length : Nat) : Int) = 1024 by omega), go_sem, Nat.reduceBEq, Nat.reduceAdd, Nat.reduceLeDiff]
        try simp only [go_sem, Nat.reduceBEq, Nat.reduceAdd, Nat.reduceLeDiff, Nat.reduceEqDiff, Int.reduceEq, not_false_eq_true, Int.reduceToNat]
        refine (SP _ _ _ _ _ _ h0 _ _ m).mono ?_
        rintro _ h8 ⟨a7, c7, a8, c8, rfl, m8⟩
        simp only [go_sem, Nat.reduceBEq, Nat.reduceAdd, Nat.reduceLeDiff]
        exact ⟨_, rfl, a7, c7, a8, c8, rfl, m8⟩
    · rw [hashIf_yes ht (.inl hq), build_grow ch hlv]
      simp only [decide_eq_false hq, Bool.not_false, go_sem, Nat.reduceBEq]
      try simp only [go_sem, Nat.reduceBEq, Nat.reduceAdd, Nat.reduceLeDiff, Nat.reduceEqDiff, Int.reduceEq, not_false_eq_true, Int.reduceToNat]
      refine regionD_intro (lb := [42, 43]) (by kernel_rfl) ?_
      simp only [go_sem, Nat.reduceBEq, Nat.reduceAdd, Nat.reduceLeDiff]
      (refine (SR _ _ _).mono ?_; rintro _ _ ⟨rfl, rfl⟩; simp only [go_sem, Nat.reduceBEq])
      refine (SB _ _ _ _ h0 _ _ m.third.third).mono ?_
      rintro _ h5 ⟨a5, c5, a6, c6, rfl, m5⟩
      have m7 := m5.third
      simp only [go_sem, Nat.reduceBEq, Nat.reduceAdd, Nat.reduceLeDiff]
      simp only [build_hashed ch hlv, dec_len, decide_eq_false (build_ne ch hlv), go_sem, Nat.reduceBEq, Nat.reduceAdd, Nat.reduceLeDiff]
      try simp only [go_sem, Nat.reduceBEq, Nat.reduceAdd, Nat.reduceLeDiff, Nat.reduceEqDiff, Int.reduceEq, not_false_eq_true, Int.reduceToNat]
      refine (SPB _ _ _ _ _ _ h0 _ _ m7).mono ?_
      rintro _ h8 ⟨a7, c7, a8, c8, rfl, m8⟩
      simp only [go_sem, Nat.reduceBEq, Nat.reduceAdd, Nat.reduceLeDiff]
      exact ⟨_, rfl, a7, c7, a8, c8, rfl, m8⟩
theorem kill_at {ss : List Sl} {i : Nat} {s : Sl} (u : Sl) (hs : ss[i]? = some s) : (ss.take i ++ u :: ss.drop (i + 1))[i]? = some u ∧ (ss.take i ++ u :: ss.drop (i + 1)).take i = ss.take i ∧ (ss.take i ++ u :: ss.drop (i + 1)).drop (i + 1) = ss.drop (i + 1) := by
  have hi := (List.getElem?_eq_some_iff.1 hs).1
  have hl : (ss.take i).length = i := by rw [List.length_take]; omega
  refine ⟨?_, ?_, ?_⟩
  · rw [List.getElem?_append_right (by omega), hl, Nat.sub_self]
    rfl
  · exact List.take_left' hl
  · rw [show i + 1 = i + 1 from rfl, ← List.drop_drop, List.drop_left' hl]
    rfl
theorem ownT_kill {h0 h' : Hp} {t : Tb} {i : Nat} {s : Sl} {R : Bag} {a1 a2 : Option Addr} {c1 c2 : Nat} (hs : t.slots[i]? = some s) (m : My h0 h' ((.row 1 (t.heads.flatMap idt), .slice a1 t.heads.length c1) :: (.row 10 ((t.slots.take i ++ ⟨s.key, V.zero, false, s.link⟩ :: t.slots.drop (i + 1)).flatMap Sl.dt), .slice a2 t.slots.length c2) :: R)) :
    OwnT h0 (t.kill i) R (.agg #[.bool t.hashed, .slice a1 t.heads.length c1, .slice a2 t.slots.length c2, .int .i64 t.next, .int .i64 (t.count - 1)]) h' := by
  rw [Tb.kill_eq hs]
  refine ⟨a1, c1, a2, c2, ?_, ?_⟩
  · show _ = Value.agg #[.bool t.hashed, .slice a1 t.heads.length c1, .slice a2 (t.slots.take i ++ ⟨s.key, V.zero, false, s.link⟩ :: t.slots.drop (i + 1)).length c2, .int .i64 t.next, .int .i64 (t.count - 1)]
    rw [set_len hs]
  · show My h0 h' ((.row 1 (t.heads.flatMap idt), .slice a1 t.heads.length c1) :: (.row 10 _, .slice a2 (t.slots.take i ++ ⟨s.key, V.zero, false, s.link⟩ :: t.slots.drop (i + 1)).length c2) :: R)
    rw [set_len hs]
    exact m
theorem pop_wrap {t : Tb} (c : t.ch) : IntKind.i64.wrap (t.count - 1) = t.count - 1 := by
  have h1 := c.cnt
  have h2 := c.len
  have h3 := liveN_le t.slots
  exact IntWalk.i64_in _ (by omega)
theorem drop_some {t : Tb} {k : Ky} {i : Nat} (h : t.find k = some i) : t.drop k = t.kill i := by unfold Tb.drop; rw [h]
theorem drop_none {t : Tb} {k : Ky} (h : t.find k = none) : t.drop k = t := by unfold Tb.drop; rw [h]
end Go.Proofs.YtedfplodobpgfaaGreatDoor
namespace Go.Proofs.YtedfplodobpgfaaGreatDoor
set_option maxRecDepth 8000
open Go Go.Sx
/-- a table and a Bool, made anew -/
def MadeT2 (h : Hp) (t : Tb) (ok : Bool) (u : Value) (h' : Hp) : Prop := ∃ a c a' c', u = .tuple #[.agg #[.bool t.hashed, .slice a t.heads.length c, .slice a' t.slots.length c', .int .i64 t.next, .int .i64 t.count], .bool ok] ∧ My h h' [(.row 1 (t.heads.flatMap idt), .slice a t.heads.length c), (.row 10 (t.slots.flatMap Sl.dt), .slice a' t.slots.length c')]
theorem roomy_of {t : Tb} {k : Ky} (hl : t.find k = none → liveN t.slots < 1024) : t.roomy k = true := by
  cases hf : t.find k with
  | some i => exact roomy_some hf
  | none => rw [roomy_none hf]; exact decide_eq_true (hl hf)
theorem arr_false1 {v : V} (h : v.valid = false) : v.isArr = false := by unfold V.isArr; rw [h]; rfl
theorem arr_false2 {v : V} (h : ¬ v.kind = 4) : v.isArr = false := by unfold V.isArr; rw [decide_eq_false h, Bool.and_false]
theorem arr_true {v : V} (h : v.valid = true) (h4 : v.kind = 4) : v.isArr = true := by unfold V.isArr; rw [h, decide_eq_true h4]; rfl
theorem newTab_c (h : Hp) : ACalls Tryz.prog 148 #[] h (Pu (.agg #[.bool false, .slice none 0 0, .slice none 0 0, .int .i64 0, .int .i64 0]) h) := by
  (refine enter Tryz.func148 rfl rfl (by kernel_rfl) [] ?_; simp only [go_sem, Nat.reduceBEq, Nat.reduceAdd, Nat.reduceLeDiff])
  exact ⟨rfl, rfl⟩
end Go.Proofs.YtedfplodobpgfaaGreatDoor
namespace Go.Proofs.YtedfplodobpgfaaGreatDoor
set_option maxRecDepth 8000
open Go Go.Sx
set_option maxHeartbeats 800000 in
theorem iTableSet (t : Tb) (k : Ky) (v : V) (hb : t.bulk ≤ 1099511627776) (hk : k.str.size ≤ 1152921504606846976) (hv : v.bulk ≤ 1099511627776) (s u sl : Value) (h : Hp) (r1 : RdI h t.heads s) (r2 : RdT h t.slots u) (r3 : RdE h v.items sl) (hE : Env h) : ACalls Tryz.prog 17 #[.agg #[.bool t.hashed, s, u, .int .i64 t.next, .int .i64 t.count], .agg #[.bool k.text, .int .i64 k.num, .string k.str], .agg #[.int .i64 v.kind, .int .i64 v.num, .string v.str, .int .i64 v.next, sl]] h (MadeT2 h (tsetOf t k v).1 (tsetOf t k v).2) := by
  have hvb := V.bulk_eq v
  obtain ⟨a0, c0, _, rfl, _⟩ := r3.rows (by decide) v.items.length (fm_len edt_len _)
  (refine enter Tryz.func17 rfl rfl (by kernel_rfl) [] ?_; simp only [go_sem, Nat.reduceBEq, Nat.reduceAdd, Nat.reduceLeDiff])
  refine (copyTable_c t hb _ _ _ r1 r2).mono ?_
  rintro _ h1 ⟨a1, c1, a2, c2, rfl, m1⟩
  simp only [go_sem, Nat.reduceBEq, Nat.reduceAdd, Nat.reduceLeDiff]
  refine (iIsTable t hb _ _ _ (r1.mono m1.ext) (r2.mono m1.ext) (hE.ext m1.ext)).mono ?_
  rintro _ h2 ⟨rfl, e2⟩
  have m := m1.mono e2
  cases hT : t.isTab with
  | false =>
    simp only [Bool.not_false, go_sem, Nat.reduceBEq, Nat.reduceAdd, Nat.reduceLeDiff]
    rw [tset_no1 hT]
    exact ⟨_, _, _, _, rfl, m⟩
  | true =>
  simp only [Bool.not_true, go_sem, Nat.reduceBEq, Nat.reduceAdd, Nat.reduceLeDiff]
  refine (iIsKey k _ (hE.ext m.ext)).mono ?_
  rintro _ h3 ⟨rfl, e3⟩
  have m := m.mono e3
  cases hK : keyOk k with
  | false =>
    simp only [Bool.not_false, go_sem, Nat.reduceBEq, Nat.reduceAdd, Nat.reduceLeDiff]
    rw [tset_no2 hK]
    exact ⟨_, _, _, _, rfl, m⟩
  | true =>
  have ch := tab_ch hT
  have hcn := ch.cnt
  have hll := liveN_le t.slots
  have hls := ch.len
  rw [tset_yes hT hK]
  simp only [Bool.not_true, go_sem, Nat.reduceBEq, Nat.reduceAdd, Nat.reduceLeDiff]
  try simp only [go_sem, Nat.reduceBEq, Nat.reduceAdd, Nat.reduceLeDiff, Nat.reduceEqDiff, Int.reduceEq, not_false_eq_true, Int.reduceToNat]
  (refine (iFind t k ch hk _ _ _ m.rd m.swap.rd).mono ?_; rintro _ _ ⟨rfl, rfl⟩; simp only [go_sem, Nat.reduceBEq])
  cases hf : t.find k with
  | some i =>
    have hro := roomy_some hf
    rw [set_yes hro, hro]
    simp only [ixI_some, decide_eq_false (show ¬ ((i : Nat) : Int) < 0 by omega), go_sem]
    refine regionD_intro (lb := [32, 33, 34]) (by kernel_rfl) ?_
    simp only [go_sem, Nat.reduceBEq, Nat.reduceAdd, Nat.reduceLeDiff]
    refine (copyValue_c v (by omega) _ _ (r3.mono m.ext)).mono ?_
    rintro _ h4 ⟨a4, c4, rfl, m4⟩
    simp only [go_sem, Nat.reduceBEq]
    refine (iPut t ch k hK v (fun q => by rw [hf] at q; cases q) _ _ _ _ _ _ h _ [] (m.add m4)).mono ?_
    rintro _ h5 ⟨a5, c5, a6, c6, rfl, m5⟩
    simp only [go_sem, Nat.reduceBEq, Nat.reduceAdd, Nat.reduceLeDiff]
    exact ⟨_, _, _, _, rfl, m5⟩
  | none =>
    simp only [ixI_none, go_sem]
    refine Br.intro (fun hz => ?_) (fun hz => ?_) <;> (try simp only [hz, go_sem, Nat.reduceBEq])
    case refine_2 => exact absurd (of_decide_eq_false hz) (by decide)
    by_cases hc : t.count = 1024
    · have hro : t.roomy k = false := by rw [roomy_none hf]; exact decide_eq_false (by omega)
      rw [set_no hro, hro]
      simp only [decide_eq_true hc, go_sem, Nat.reduceBEq, Nat.reduceAdd, Nat.reduceLeDiff]
      exact ⟨_, _, _, _, rfl, m⟩
    · have hro : t.roomy k = true := by rw [roomy_none hf]; exact decide_eq_true (by omega)
      rw [set_yes hro, hro]
      simp only [decide_eq_false hc, go_sem]
      refine regionD_intro (lb := [32, 33, 34]) (by kernel_rfl) ?_
      simp only [go_sem, Nat.reduceBEq, Nat.reduceAdd, Nat.reduceLeDiff]
      refine (copyValue_c v (by omega) _ _ (r3.mono m.ext)).mono ?_
      rintro _ h4 ⟨a4, c4, rfl, m4⟩
      simp only [go_sem, Nat.reduceBEq]
      refine (iPut t ch k hK v (fun _ => by omega) _ _ _ _ _ _ h _ [] (m.add m4)).mono ?_
      rintro _ h5 ⟨a5, c5, a6, c6, rfl, m5⟩
      simp only [go_sem, Nat.reduceBEq, Nat.reduceAdd, Nat.reduceLeDiff]
      exact ⟨_, _, _, _, rfl, m5⟩
set_option maxHeartbeats 800000 in
theorem sTableSet (t : Tb) (k : Ky) (v : V) (hb : t.bulk ≤ 1099511627776) (hk : k.str.size ≤ 1152921504606846976) (hv : v.bulk ≤ 1099511627776) (s u sl : Value) (h : Hp) (r1 : RdI h t.heads s) (r2 : RdT h t.slots u) (r3 : RdE h v.items sl) : ACalls Tryz.prog 13 #[.agg #[.bool t.hashed, s, u, .int .i64 t.next, .int .i64 t.count], .agg #[.bool k.text, .int .i64 k.num, .string k.str], .agg #[.int .i64 v.kind, .int .i64 v.num, .string v.str, .int .i64 v.next, sl]] h (MadeT2 h (tsetOf t k v).1 (tsetOf t k v).2) := by
  have hvb := V.bulk_eq v
  obtain ⟨a0, c0, _, rfl, _⟩ := r3.rows (by decide) v.items.length (fm_len edt_len _)
  (refine enter Tryz.func13 rfl rfl (by kernel_rfl) [] ?_; simp only [go_sem, Nat.reduceBEq, Nat.reduceAdd, Nat.reduceLeDiff])
  refine (l7Copy_c t hb _ _ _ r1 r2).mono ?_
  rintro _ h1 ⟨a1, c1, a2, c2, rfl, m1⟩
  simp only [go_sem, Nat.reduceBEq, Nat.reduceAdd, Nat.reduceLeDiff]
  refine (sIsTable t hb _ _ _ (r1.mono m1.ext) (r2.mono m1.ext)).mono ?_
  rintro _ h2 ⟨rfl, e2⟩
  have m := m1.mono e2
  cases hT : t.isTab with
  | false =>
    simp only [Bool.not_false, go_sem, Nat.reduceBEq, Nat.reduceAdd, Nat.reduceLeDiff]
    rw [tset_no1 hT]
    exact ⟨_, _, _, _, rfl, m⟩
  | true =>
  simp only [Bool.not_true, go_sem, Nat.reduceBEq, Nat.reduceAdd, Nat.reduceLeDiff]
  refine (sIsKey k _ hk).mono ?_
  rintro _ h3 ⟨rfl, e3⟩
  have m := m.mono e3
  cases hK : keyOk k with
  | false =>
    simp only [Bool.not_false, go_sem, Nat.reduceBEq, Nat.reduceAdd, Nat.reduceLeDiff]
    rw [tset_no2 hK]
    exact ⟨_, _, _, _, rfl, m⟩
  | true =>
  have ch := tab_ch hT
  rw [tset_yes hT hK]
  simp only [Bool.not_true, go_sem, Nat.reduceBEq]
  try simp only [go_sem, Nat.reduceBEq, Nat.reduceAdd, Nat.reduceLeDiff, Nat.reduceEqDiff, Int.reduceEq, not_false_eq_true, Int.reduceToNat]
  refine regionD_intro (lb := [20, 21, 22]) (by kernel_rfl) ?_
  simp only [go_sem, Nat.reduceBEq, Nat.reduceAdd, Nat.reduceLeDiff]
  refine (l5Copy_c v (by omega) _ _ (r3.mono m.ext)).mono ?_
  rintro _ h4 ⟨a4, c4, rfl, m4⟩
  simp only [go_sem, Nat.reduceBEq]
  refine (sSet t ch k hK v _ _ _ _ _ _ h _ [] (m.add m4)).mono ?_
  rintro _ h5 ⟨_, rfl, a5, c5, a6, c6, rfl, m5⟩
  simp only [go_sem, Nat.reduceBEq, Nat.reduceAdd, Nat.reduceLeDiff]
  exact ⟨_, _, _, _, rfl, m5⟩
end Go.Proofs.YtedfplodobpgfaaGreatDoor
namespace Go.Proofs.YtedfplodobpgfaaGreatDoor
set_option maxRecDepth 8000
open Go Go.Sx
theorem rg9 : List.range 9 = [0, 1, 2, 3, 4, 5, 6, 7, 8] := by decide
theorem rg9b : List.range' 9 (9 - 9) = [] := by decide
theorem iHandle (i : Nat) (h : Hp) : ACalls Tryz.prog 161 #[.int .i64 (i : Nat)] h (Pu (.agg #[.int .i64 5, .int .i64 (i : Nat), .string ⟨#[]⟩, .int .i64 0, .slice none 0 0]) h) := by
  (refine enter Tryz.func161 rfl rfl (by kernel_rfl) [] ?_; simp only [go_sem, Nat.reduceBEq, Nat.reduceAdd, Nat.reduceLeDiff])
  exact ⟨rfl, rfl⟩
set_option maxHeartbeats 1600000 in
theorem iAlloc (l : List Bk) (t : Tb) (hl : l.length ≤ 1099511627776) (hc : ∀ b ∈ l, 0 ≤ b.count) (a1 a2 a : Option Addr) (n1 n2 n bp : Nat) (R : Bag) (h0 h : Hp) (m : My h0 h ((.row 1 (t.heads.flatMap idt), .slice a1 t.heads.length n1) :: (.row 10 (t.slots.flatMap Sl.dt), .slice a2 t.slots.length n2) :: HpB l a n bp R)) : ACalls Tryz.prog 149 #[.pointer (some ⟨bp, 0, none⟩), .agg #[.bool t.hashed, .slice a1 t.heads.length n1, .slice a2 t.slots.length n2, .int .i64 t.next, .int .i64 t.count]] h (HpR h0 (hnd (freeN l)) (allocH l t) bp R) := by
  have m : My h0 h ((.row 1 (t.heads.flatMap idt), .slice a1 t.heads.length n1) :: (.row 10 (t.slots.flatMap Sl.dt), .slice a2 t.slots.length n2) :: (.row 6 (l.flatMap Bk.dt), .slice a l.length n) :: (.ptr [] [.raw (.slice a l.length n)] [], .pointer (some ⟨bp, 0, none⟩)) :: R) := m
  obtain ⟨_, _, es, _, _, hat⟩ := m.third.row_shape (by decide) l.length (fm_len Bk.dt_len _)
  cases es
  (refine enter Tryz.func149 rfl rfl (by kernel_rfl) [] ?_; simp only [go_sem, Nat.reduceBEq])
  refine Hold.ld1 (i := 0) Hold.ptr tyS58 m.fourth rfl rfl ?_
  try simp only [go_sem, Nat.reduceBEq]
  refine aloop (ι := Nat) (fun i => [(12, .val (.int .i64 (i : Nat))), (11, .val (.int .i64 (l.length : Nat))), (10, .val (.slice a l.length n)), (4, .box 4 0), (3, .box 3 0), (0, .val (.pointer (some ⟨bp, 0, none⟩)))])
    (fun _ => [(4, [.int .i64 0, .int .i64 0, .string ⟨#[]⟩, .int .i64 0, .slice none 0 0]), (3, [.bool t.hashed, .slice a1 t.heads.length n1, .slice a2 t.slots.length n2, .int .i64 t.next, .int .i64 t.count])])
    (fun i h' => i ≤ l.length ∧ h' = h ∧ ∀ (j : Nat) (b : Bk), j < i → l[j]? = some b → 0 < b.count) (fun i => l.length - i) 0
    ⟨Nat.zero_le _, rfl, fun j b hj => by omega⟩ (by repeat (first | exact wkF_e | refine wkF_c rfl ?_)) (wkB_c rfl (wkB_c rfl wkB_e)) rfl ?_
  rintro i hx ⟨hi, rfl, pr⟩
  have hi : i ≤ l.length := hi
  have pr : ∀ (j : Nat) (b : Bk), j < i → l[j]? = some b → 0 < b.count := pr
  try simp only [go_sem, Nat.reduceBEq]
  refine Br.intro (fun hq => ?_) (fun hq => ?_) <;> (try simp only [hq, go_sem, Nat.reduceBEq])
  · have hq : i < l.length := by simpa using hq
    obtain ⟨b, rfl⟩ := hat (by omega)
    obtain ⟨e, he, hm⟩ := get_lt hq
    have wsu := wrap_succ (i := i) (by omega)
    have hce := hc e hm
    obtain ⟨_, _, _, eqs, _, hr6, hat6⟩ := m.third.rd.rows (by decide) l.length (fm_len Bk.dt_len _)
    cases eqs
    obtain ⟨b6, o6, eq6, hat6⟩ := hat6 (by omega)
    cases eq6
    simp only [ix_nat hq, go_sem, Nat.reduceBEq]
    refine hsem_blk tyS107 hat6 hr6 he (by omega) fun s2 u2 rh ru => ?_
    obtain ⟨a3, c3, _, rfl, _⟩ := rh.rows (by decide) e.tab.heads.length (fm_len idt_len _)
    obtain ⟨a4, c4, _, rfl, _⟩ := ru.rows (by decide) e.tab.slots.length (fm_len Sl.dt_len _)
    try simp only [go_sem, Nat.reduceBEq, Nat.reduceAdd, Nat.reduceLeDiff]
    by_cases hz : e.count = 0
    · have hfr : freeN l = i := freeN_is pr hi fun b hb => by
        rw [he] at hb
        cases hb
        omega
      simp only [decide_eq_true hz, go_sem]
      refine regionD_intro (lb := [25]) (by kernel_rfl) ?_
      simp only [go_sem, Nat.reduceBEq]
      refine Hold.ld1 (i := 0) Hold.ptr tyS58 m.fourth rfl rfl ?_
      obtain ⟨c, hd, hcu⟩ := hold_bk (l := l) (b := b) (cap := n) hq
      have m2 : My h0 hx ((.row 1 (t.heads.flatMap idt), .slice a1 t.heads.length n1) :: (.row 10 (t.slots.flatMap Sl.dt), .slice a2 t.slots.length n2) :: (c (blk l i).dt, .slice (some ⟨b, 0, none⟩) l.length n) :: (.ptr [] [.raw (.slice (some ⟨b, 0, none⟩) l.length n)] [], .pointer (some ⟨bp, 0, none⟩)) :: R) := by
        rw [hcu, set_blk hq]
        exact m
      simp only [ix_nat hq, go_sem, Nat.reduceBEq, Nat.reduceAdd, Nat.reduceLeDiff]
      refine bk_store hd (u := ⟨1, t⟩) tyS107 (Bk.dt_len _) m2 (by omega) fun h4 m4 => ?_
      rw [hcu] at m4
      try simp only [go_sem, Nat.reduceBEq]
      (refine (iHandle i _).mono ?_; rintro _ _ ⟨rfl, rfl⟩; simp only [go_sem, Nat.reduceBEq, Nat.reduceAdd, Nat.reduceLeDiff])
      refine ⟨none, 0, some ⟨b, 0, none⟩, n, by rw [hfr]; rfl, ?_⟩
      rw [allocH_in (by rw [hfr]; exact hq), hfr]
      unfold HpB
      rw [List.length_set]
      exact m4.nilrow
    · simp only [decide_eq_false hz, wsu, go_sem, Nat.reduceBEq]
      refine Again.intro (i + 1) (by first | omega | (simp only; omega)) ⟨hq, rfl, fun j b hj hb => ?_⟩ (by repeat (first | exact wkF_e | refine wkF_c rfl ?_)) (wkB_c rfl (wkB_c rfl wkB_e)) rfl
      by_cases hji : j = i
      · subst hji
        rw [he] at hb
        cases hb
        omega
      · exact pr j b (by omega) hb
  · have hq : i = l.length := by simp at hq; omega
    subst hq
    have hfr : freeN l = l.length := freeN_is pr hi fun b hb => by simp at hb
    have hw1 : IntKind.i64.wrap (((l.length + 1 : Nat) : Int) - 1) = ((l.length : Nat) : Int) := by rw [IntWalk.i64_in _ (by omega)]; omega
    refine regionS_at (lb := [36]) (pl := [35]) (only hx bp) only_refl 9 9 9 10 [9, 10, 11] [9, 10, 11] (by kernel_rfl) ?_
    simp only [rg9, rg9b, pkO_c, pkO_n, pk_s, List.getElem?_toArray, List.getElem?_cons_succ, List.getElem?_cons_zero, go_sem, Nat.reduceBEq]
    refine Hold.still1 (i := 0) Hold.ptr tyS58 m.fourth rfl rfl ?_
    try simp only [go_sem, Nat.reduceBEq, Nat.reduceAdd, Nat.reduceLeDiff]
    refine hsem_my_litE (h0 := h0) (es := Bk.dt ⟨1, t⟩) (parts := [(0, .agg #[.int .i64 1, .bool t.hashed, .slice a1 t.heads.length n1, .slice a2 t.slots.length n2, .int .i64 t.next, .int .i64 t.count])]) slT58 (by decide) (by decide) (by decide) rfl rfl (by simp [Value.cells]) (bag := HpB l a n bp R) ?_ rfl (Bk.dt_len _) fun l4 h4 m4 e4 => ?_
    · simp only [flat, List.flatMap_cons, List.flatMap_nil, List.append_nil, cells_agg]
      exact bk_zip ⟨1, t⟩ m
    have m4 : My h0 h4 ((.row 6 (Bk.dt ⟨1, t⟩), l4) :: (.row 6 (l.flatMap Bk.dt), .slice a l.length n) :: (.ptr [] [.raw (.slice a l.length n)] [], .pointer (some ⟨bp, 0, none⟩)) :: R) := m4
    obtain ⟨ob, hob⟩ := Hold.there (x := [.raw (.slice a l.length n)]) Hold.ptr m.fourth
    try simp only [go_sem, Nat.reduceBEq]
    refine ⟨only_of hob e4, ?_⟩
    refine hsem_my_appendK slT58 (by decide) rfl l.length 1 m4.swap bp (fun B kB => Hold.mem (x := [.raw (.slice a l.length n)]) Hold.ptr kB) (fm_len Bk.dt_len _) (Bk.dt_len _) (by show (l.length + 1) * 80 ≤ _; omega) (by omega) fun l5 h5 m5 e5 => ?_
    have e45 : h5 bp = hx bp := by rw [e5, hob, e4 _ _ hob]
    have m5 : My h0 h5 ((.row 6 (l.flatMap Bk.dt ++ Bk.dt ⟨1, t⟩), l5) :: (.ptr [] [.raw (.slice a l.length n)] [], .pointer (some ⟨bp, 0, none⟩)) :: R) := m5
    rw [show l.flatMap Bk.dt ++ Bk.dt ⟨1, t⟩ = (l ++ [(⟨1, t⟩ : Bk)]).flatMap Bk.dt by rw [List.flatMap_append, List.flatMap_cons, List.flatMap_nil, List.append_nil]] at m5
    obtain ⟨a6, c6, rfl, _⟩ := m5.row_shape (by decide) (l.length + 1) (by rw [fm_len Bk.dt_len, List.length_append, List.length_singleton])
    try simp only [go_sem]
    refine ⟨only_ext e45, ?_⟩
    try simp only [go_sem, Nat.reduceBEq, Nat.reduceAdd, Nat.reduceLeDiff, Nat.reduceEqDiff, Int.reduceEq, not_false_eq_true, Int.reduceToNat]
    refine ⟨?_, ?_⟩ <;> (
      try simp only [go_sem, Nat.reduceBEq]
      refine Hold.put1 Hold.ptr (d := .raw (.slice a l.length n)) tyS58 rfl rfl m5.swap rfl fun h6 m6 => ?_
      try simp only [go_sem, Nat.reduceBEq]
      refine Hold.ld1 (i := 0) Hold.ptr tyS58 m6 rfl rfl ?_
      try simp only [hw1, go_sem, Nat.reduceBEq]
      (refine (iHandle l.length _).mono ?_; rintro _ _ ⟨rfl, rfl⟩; simp only [go_sem, Nat.reduceBEq, Nat.reduceAdd, Nat.reduceLeDiff])
      refine ⟨none, 0, a6, c6, by rw [hfr]; rfl, ?_⟩
      rw [allocH_out hfr]
      unfold HpB
      rw [List.length_append, List.length_singleton]
      exact m6.swap.nilrow)
set_option maxHeartbeats 1600000 in
theorem sAlloc (l : List Bk) (t : Tb) (hl : l.length ≤ 1099511627776) (hc : ∀ b ∈ l, 0 ≤ b.count) (a1 a2 a : Option Addr) (n1 n2 n bp : Nat) (R : Bag) (h0 h : Hp) (m : My h0 h ((.row 1 (t.heads.flatMap idt), .slice a1 t.heads.length n1) :: (.row 10 (t.slots.flatMap Sl.dt), .slice a2 t.slots.length n2) :: HpB l a n bp R)) : ACalls Tryz.prog 145 #[.pointer (some ⟨bp, 0, none⟩), .agg #[.bool t.hashed, .slice a1 t.heads.length n1, .slice a2 t.slots.length n2, .int .i64 t.next, .int .i64 t.count]] h (HpR h0 (hnd (freeN l)) (allocH l t) bp R) := by
  have m : My h0 h ((.row 1 (t.heads.flatMap idt), .slice a1 t.heads.length n1) :: (.row 10 (t.slots.flatMap Sl.dt), .slice a2 t.slots.length n2) :: (.row 6 (l.flatMap Bk.dt), .slice a l.length n) :: (.ptr [] [.raw (.slice a l.length n)] [], .pointer (some ⟨bp, 0, none⟩)) :: R) := m
  obtain ⟨_, _, es, _, _, hat⟩ := m.third.row_shape (by decide) l.length (fm_len Bk.dt_len _)
  cases es
  (refine enter Tryz.func145 rfl rfl (by kernel_rfl) [] ?_; simp only [go_sem, Nat.reduceBEq])
  refine aloop (ι := Nat) (fun i => [(5, .val (.int .i64 (i : Nat))), (4, .box 4 0), (3, .box 3 0), (0, .val (.pointer (some ⟨bp, 0, none⟩)))])
    (fun _ => [(4, [.int .i64 0, .int .i64 0, .string ⟨#[]⟩, .int .i64 0, .slice none 0 0]), (3, [.bool t.hashed, .slice a1 t.heads.length n1, .slice a2 t.slots.length n2, .int .i64 t.next, .int .i64 t.count])])
    (fun i h' => i ≤ l.length ∧ h' = h ∧ ∀ (j : Nat) (b : Bk), j < i → l[j]? = some b → 0 < b.count) (fun i => l.length - i) 0
    ⟨Nat.zero_le _, rfl, fun j b hj => by omega⟩ (by repeat (first | exact wkF_e | refine wkF_c rfl ?_)) (wkB_c rfl (wkB_c rfl wkB_e)) rfl ?_
  rintro i hx ⟨hi, rfl, pr⟩
  have hi : i ≤ l.length := hi
  have pr : ∀ (j : Nat) (b : Bk), j < i → l[j]? = some b → 0 < b.count := pr
  try simp only [go_sem, Nat.reduceBEq]
  refine Hold.ld1 (i := 0) Hold.ptr tyS58 m.fourth rfl rfl ?_
  by_cases hq : i < l.length
  · have dq : decide (((i : Nat) : Int) < ((l.length : Nat) : Int)) = true := decide_eq_true (by omega)
    have dn : decide (((i : Nat) : Int) = ((l.length : Nat) : Int)) = false := decide_eq_false (by omega)
    obtain ⟨b, rfl⟩ := hat (by omega)
    obtain ⟨e, he, hm⟩ := get_lt hq
    have ebk : blk l i = e := by
      have := blk_at hq
      rw [he] at this
      exact (Option.some.inj this).symm
    have wsu := wrap_succ (i := i) (by omega)
    have hce := hc e hm
    simp only [dq, go_sem, Nat.reduceBEq]
    refine Hold.ld1 (i := 0) Hold.ptr tyS58 m.fourth rfl rfl ?_
    simp only [ix_nat hq, go_sem, Nat.reduceBEq]
    refine bcnt_ld hq tyS3 m.third (by omega) ?_
    rw [ebk]
    try simp only [go_sem, Nat.reduceBEq]
    refine Br.intro (fun hp => ?_) (fun hp => ?_) <;> (try simp only [hp, go_sem, Nat.reduceBEq])
    · have hp : 0 < e.count := by simpa using hp
      try simp only [wsu, go_sem]
      refine Again.intro (i + 1) (by first | omega | (simp only; omega)) ⟨hq, rfl, fun j b hj hb => ?_⟩ (by repeat (first | exact wkF_e | refine wkF_c rfl ?_)) (wkB_c rfl (wkB_c rfl wkB_e)) rfl
      by_cases hji : j = i
      · subst hji
        rw [he] at hb
        cases hb
        exact hp
      · exact pr j b (by omega) hb
    · have hp : ¬ 0 < e.count := by simpa using hp
      have hfr : freeN l = i := freeN_is pr hi fun b hb => by
        rw [he] at hb
        cases hb
        exact hp
      try simp only [go_sem, Nat.reduceBEq, Nat.reduceAdd, Nat.reduceLeDiff, Nat.reduceEqDiff, Int.reduceEq, not_false_eq_true, Int.reduceToNat]
      refine Hold.ld1 (i := 0) Hold.ptr tyS58 m.fourth rfl rfl ?_
      simp only [dn, go_sem, Nat.reduceBEq]
      have hqq := hq
      refine regionD_intro (lb := [48]) (by kernel_rfl) ?_
      simp only [go_sem, Nat.reduceBEq]
      refine Hold.ld1 (i := 0) Hold.ptr tyS58 m.fourth rfl rfl ?_
      obtain ⟨c, hd, hcu⟩ := hold_bk (l := l) (b := b) (cap := n) hqq
      have m2 : My h0 hx ((.row 1 (t.heads.flatMap idt), .slice a1 t.heads.length n1) :: (.row 10 (t.slots.flatMap Sl.dt), .slice a2 t.slots.length n2) :: (c (blk l i).dt, .slice (some ⟨b, 0, none⟩) (l).length n) :: (.ptr [] [.raw (.slice (some ⟨b, 0, none⟩) (l).length n)] [], .pointer (some ⟨bp, 0, none⟩)) :: R) := by
        rw [hcu, set_blk hqq]
        exact m
      try simp only [go_sem, Nat.reduceBEq, Nat.reduceAdd, Nat.reduceLeDiff]
      simp only [ix_nat hqq, go_sem, Nat.reduceBEq]
      refine bk_store hd (u := ⟨1, t⟩) tyS107 (Bk.dt_len _) m2 (by omega) fun h4 m4 => ?_
      rw [hcu] at m4
      try simp only [go_sem, Nat.reduceBEq, Nat.reduceAdd, Nat.reduceLeDiff]
      refine ⟨none, 0, some ⟨b, 0, none⟩, n, by rw [hfr]; rfl, ?_⟩
      rw [allocH_in (by rw [hfr]; exact hq), hfr]
      unfold HpB
      rw [List.length_set]
      exact m4.nilrow
  · have hq : i = l.length := by omega
    subst hq
    have hfr : freeN l = l.length := freeN_is pr hi fun b hb => by simp at hb
    have dq : decide (((l.length : Nat) : Int) < ((l.length : Nat) : Int)) = false := decide_eq_false (by omega)
    simp only [dq, go_sem, Nat.reduceBEq]
    refine Hold.ld1 (i := 0) Hold.ptr tyS58 m.fourth rfl rfl ?_
    have dn : decide (((l.length : Nat) : Int) = ((l.length : Nat) : Int)) = true := decide_eq_true rfl
    simp only [go_sem, Nat.reduceBEq]
    refine Hold.ld1 (i := 0) Hold.ptr tyS58 m.fourth rfl rfl ?_
    try simp only [go_sem, Nat.reduceBEq]
    refine hsem_my_lit (h0 := h0) (es := Bk.dt bk0) (parts := [(0, .agg #[.int .i64 0, .bool false, .slice none 0 0, .slice none 0 0, .int .i64 0, .int .i64 0])]) slT58 (by decide) (by decide) (by decide) rfl rfl (by simp [Value.cells]) (bag := (.row 1 (t.heads.flatMap idt), .slice a1 t.heads.length n1) :: (.row 10 (t.slots.flatMap Sl.dt), .slice a2 t.slots.length n2) :: HpB l a n bp R) ?_ rfl (Bk.dt_len _) fun l4 h4 m4 => ?_
    · simp only [flat, List.flatMap_cons, List.flatMap_nil, List.append_nil, cells_agg]
      exact bk_zip bk0 ((m.nilrow (z := 10)).nilrow (z := 1))
    have m4 : My h0 h4 ((.row 6 (Bk.dt bk0), l4) :: (.row 1 (t.heads.flatMap idt), .slice a1 t.heads.length n1) :: (.row 10 (t.slots.flatMap Sl.dt), .slice a2 t.slots.length n2) :: (.row 6 (l.flatMap Bk.dt), .slice a l.length n) :: (.ptr [] [.raw (.slice a l.length n)] [], .pointer (some ⟨bp, 0, none⟩)) :: R) := m4
    try simp only [go_sem, Nat.reduceBEq]
    refine hsem_my_append slT58 (by decide) rfl l.length 1 m4.fourth (fm_len Bk.dt_len _) (Bk.dt_len _) (by show (l.length + 1) * 80 ≤ _; omega) (by omega) fun l5 h5 m5 => ?_
    have m5 : My h0 h5 ((.row 6 (l.flatMap Bk.dt ++ Bk.dt bk0), l5) :: (.row 1 (t.heads.flatMap idt), .slice a1 t.heads.length n1) :: (.row 10 (t.slots.flatMap Sl.dt), .slice a2 t.slots.length n2) :: (.ptr [] [.raw (.slice a l.length n)] [], .pointer (some ⟨bp, 0, none⟩)) :: R) := m5
    rw [show l.flatMap Bk.dt ++ Bk.dt bk0 = (l ++ [bk0]).flatMap Bk.dt by rw [List.flatMap_append, List.flatMap_cons, List.flatMap_nil, List.append_nil]] at m5
    obtain ⟨a6, c6, rfl, _, _, hat6⟩ := m5.row_shape (by decide) (l ++ [bk0]).length (fm_len Bk.dt_len _)
    have hlb : (l ++ [bk0]).length = l.length + 1 := by rw [List.length_append, List.length_singleton]
    obtain ⟨b, rfl⟩ := hat6 (by omega)
    have hqq : l.length < (l ++ [bk0]).length := by omega
    try simp only [go_sem, Nat.reduceBEq]
    refine Hold.put1 Hold.ptr (d := .raw (.slice a l.length n)) tyS58 rfl rfl m5.fourth rfl fun h6 m6 => ?_
    have m6 := m6.swap.fourth.fourth
    try simp only [go_sem]
    refine regionD_intro (lb := [48]) (by kernel_rfl) ?_
    simp only [go_sem, Nat.reduceBEq]
    refine Hold.ld1 (i := 0) Hold.ptr tyS58 m6.fourth rfl rfl ?_
    obtain ⟨c, hd, hcu⟩ := hold_bk (l := (l ++ [bk0])) (b := b) (cap := c6) hqq
    have m2 : My h0 h6 ((.row 1 (t.heads.flatMap idt), .slice a1 t.heads.length n1) :: (.row 10 (t.slots.flatMap Sl.dt), .slice a2 t.slots.length n2) :: (c (blk (l ++ [bk0]) l.length).dt, .slice (some ⟨b, 0, none⟩) ((l ++ [bk0])).length c6) :: (.ptr [] [.raw (.slice (some ⟨b, 0, none⟩) ((l ++ [bk0])).length c6)] [], .pointer (some ⟨bp, 0, none⟩)) :: R) := by
      rw [hcu, set_blk hqq]
      exact m6
    try simp only [go_sem, Nat.reduceBEq, Nat.reduceAdd, Nat.reduceLeDiff]
    simp only [ix_nat hqq, go_sem, Nat.reduceBEq]
    refine bk_store hd (u := ⟨1, t⟩) tyS107 (Bk.dt_len _) m2 (by omega) fun h4 m4 => ?_
    rw [hcu] at m4
    try simp only [go_sem, Nat.reduceBEq, Nat.reduceAdd, Nat.reduceLeDiff]
    refine ⟨none, 0, some ⟨b, 0, none⟩, c6, by rw [hfr]; rfl, ?_⟩
    rw [app_set, hlb] at m4
    rw [allocH_out hfr]
    unfold HpB
    rw [List.length_append, List.length_singleton]
    exact m4.nilrow
def StoreI (v : V) : Prop := v.valid = true → v.bulk ≤ 1048576 → ∀ (l : List Bk), l.length + 2 * v.bulk ≤ 1099511627775 → (∀ b ∈ l, 0 ≤ b.count) → ∀ (sl : Value) (a : Option Addr) (n bp : Nat) (R : Bag) (h0 h : Hp), RdE h0 v.items sl → My h0 h (HpB l a n bp R) → ACalls Tryz.prog 101 #[.pointer (some ⟨bp, 0, none⟩), .agg #[.int .i64 v.kind, .int .i64 v.num, .string v.str, .int .i64 v.next, sl]] h (HpR h0 (sto v l).2 (sto v l).1 bp R)
set_option maxHeartbeats 1600000 in
theorem iStore_s (v : V) (ih : ∀ e ∈ v.items, StoreI e.2) : StoreI v := by
  intro hv hbv l hl hc sl a n bp R h0 h rd m
  have hvb := V.bulk_eq v
  have hlb := V.bulks_len v.items
  obtain ⟨av, cv, xs, rfl, hcv, hr, hat⟩ := rd.rows (by decide) v.items.length (fm_len edt_len _)
  (refine enter Tryz.func101 rfl rfl (by kernel_rfl) [] ?_; simp only [go_sem, Nat.reduceBEq])
  by_cases h4 : v.kind = 4
  case neg =>
    rw [sto_other h4]
    simp only [decide_eq_false h4, Bool.not_false, go_sem, Nat.reduceBEq, Nat.reduceAdd, Nat.reduceLeDiff]
    refine (copyValue_c v (by omega) _ _ (rd.mono m.ext)).mono ?_
    rintro _ h2 ⟨a3, c3, rfl, m2⟩
    simp only [go_sem, Nat.reduceBEq, Nat.reduceAdd, Nat.reduceLeDiff]
    exact ⟨_, _, a, n, rfl, m.add m2⟩
  obtain ⟨hlen, hits⟩ := valid_mem hv h4
  rw [sto_arr h4]
  simp only [decide_eq_true h4, Bool.not_true, go_sem]
  (refine (newTab_c _).mono ?_; rintro _ _ ⟨rfl, rfl⟩; simp only [go_sem, Nat.reduceBEq, Nat.reduceAdd, Nat.reduceLeDiff])
  try simp only [go_sem, Nat.reduceBEq, Nat.reduceAdd, Nat.reduceLeDiff, Nat.reduceEqDiff, Int.reduceEq, not_false_eq_true, Int.reduceToNat]
  refine aloop (ι := Nat × (Option Addr × Nat) × (Option Addr × Nat) × (Option Addr × Nat)) (fun x => [(17, .val (.int .i64 (x.1 : Nat))), (16, .val (.int .i64 (v.items.length : Nat))), (15, .val (.slice av v.items.length cv)), (5, .box 5 0), (4, .box 4 0), (3, .box 3 0), (0, .val (.pointer (some ⟨bp, 0, none⟩)))])
    (fun x => [(5, [.bool (stoE (v.items.take x.1) l tb0).2.hashed, .slice x.2.1.1 (stoE (v.items.take x.1) l tb0).2.heads.length x.2.1.2, .slice x.2.2.1.1 (stoE (v.items.take x.1) l tb0).2.slots.length x.2.2.1.2, .int .i64 (stoE (v.items.take x.1) l tb0).2.next, .int .i64 (stoE (v.items.take x.1) l tb0).2.count]), (4, [.int .i64 0, .int .i64 0, .string ⟨#[]⟩, .int .i64 0, .slice none 0 0]), (3, [.int .i64 v.kind, .int .i64 v.num, .string v.str, .int .i64 v.next, .slice av v.items.length cv])])
    (fun x h' => x.1 ≤ v.items.length ∧ My h0 h' ((.row 1 ((stoE (v.items.take x.1) l tb0).2.heads.flatMap idt), .slice x.2.1.1 (stoE (v.items.take x.1) l tb0).2.heads.length x.2.1.2) :: (.row 10 ((stoE (v.items.take x.1) l tb0).2.slots.flatMap Sl.dt), .slice x.2.2.1.1 (stoE (v.items.take x.1) l tb0).2.slots.length x.2.2.1.2) :: HpB (stoE (v.items.take x.1) l tb0).1 x.2.2.2.1 x.2.2.2.2 bp R)) (fun x => v.items.length - x.1) (0, (none, 0), (none, 0), (a, n))
    ⟨Nat.zero_le _, by simp only [List.take_zero, stoE_nil]; exact (m.nilrow (z := 10)).nilrow (z := 1)⟩ (by repeat (first | exact wkF_e | refine wkF_c rfl ?_)) (by simp only [List.take_zero, stoE_nil]; exact (wkB_c rfl (wkB_c rfl (wkB_c rfl wkB_e)))) rfl ?_
  rintro ⟨i, ⟨a1, n1⟩, ⟨a2, n2⟩, ⟨a0, n0⟩⟩ h1 ⟨hi, m1⟩
  have hi : i ≤ v.items.length := hi
  have m1 : My h0 h1 ((.row 1 ((stoE (v.items.take i) l tb0).2.heads.flatMap idt), .slice a1 (stoE (v.items.take i) l tb0).2.heads.length n1) :: (.row 10 ((stoE (v.items.take i) l tb0).2.slots.flatMap Sl.dt), .slice a2 (stoE (v.items.take i) l tb0).2.slots.length n2) :: HpB (stoE (v.items.take i) l tb0).1 a0 n0 bp R) := m1
  obtain ⟨ch, hroom⟩ := stoE_at l (fun e he => (hits e he).1) hlen i
  have hbl := (stoE_bulk (v.items.take i) l tb0).2
  have hcl := stoE_cnt (v.items.take i) l tb0 hc
  try simp only [go_sem, Nat.reduceBEq]
  refine Br.intro (fun hq => ?_) (fun hq => ?_) <;> (try simp only [hq, go_sem, Nat.reduceBEq, Nat.reduceAdd, Nat.reduceLeDiff])
  · have hq : i < v.items.length := by simpa using hq
    obtain ⟨b3, o3, rfl, hat3⟩ := hat (by omega)
    obtain ⟨e, he, hm⟩ := get_lt hq
    have wsu := wrap_succ (i := i) (by omega)
    have hsn := stoE_snoc he l tb0
    have hbm := bulks_at he
    obtain ⟨hk1, hv1⟩ := hits e hm
    simp only [ix_nat hq, go_sem, Nat.reduceBEq]
    refine hpure_base m1.ext (hsem_entry tyS141 hat3 hr he rfl fun s2 rd2 => ?_)
    obtain ⟨a5, c5, _, rfl, _⟩ := rd2.rows (by decide) e.2.items.length (fm_len edt_len _)
    try simp only [go_sem, Nat.reduceBEq, Nat.reduceAdd, Nat.reduceLeDiff]
    refine regionD_intro (lb := [21, 23, 26]) (by kernel_rfl) ?_
    simp only [go_sem, Nat.reduceBEq, Nat.reduceAdd, Nat.reduceLeDiff]
    refine (ih e hm hv1 (by omega) _ (by omega) hcl _ a0 n0 bp _ h0 _ rd2 m1.fourth.fourth).mono ?_
    rintro _ h2 ⟨a6, c6, a7, n7, rfl, m2⟩
    try simp only [go_sem, Nat.reduceBEq]
    refine (iPut _ ch e.1 hk1 _ (fun _ => hroom hq) _ _ _ _ _ _ h0 _ (HpB _ a7 n7 bp R) m2.fifth.fifth.third).mono ?_
    rintro _ h3 ⟨a8, c8, a9, c9, rfl, m3⟩
    try simp only [wsu, go_sem, Nat.reduceBEq, Nat.reduceAdd, Nat.reduceLeDiff]
    exact Again.intro (i + 1, (a8, c8), (a9, c9), (a7, n7)) (by first | omega | (simp only; omega)) ⟨hq, by simp only [hsn]; exact m3⟩ (by repeat (first | exact wkF_e | refine wkF_c rfl ?_)) (by simp only [hsn]; exact (wkB_c rfl (wkB_c rfl (wkB_c rfl wkB_e)))) rfl
  · have hq : i = v.items.length := by simp at hq; omega
    subst hq
    rw [List.take_length] at m1 ch hbl hcl
    simp only [List.take_length, go_sem]
    try simp only [go_sem, Nat.reduceBEq, Nat.reduceAdd, Nat.reduceLeDiff, Nat.reduceEqDiff, Int.reduceEq, not_false_eq_true, Int.reduceToNat]
    refine (iAlloc _ ((stoE v.items l tb0).2.withN v.next) (by omega) hcl a1 a2 a0 n1 n2 n0 bp R h0 _ m1).mono ?_
    rintro _ h3 ⟨a8, c8, a9, n9, rfl, m3⟩
    try simp only [go_sem, Nat.reduceBEq, Nat.reduceAdd, Nat.reduceLeDiff]
    exact ⟨_, _, a9, n9, rfl, m3⟩
theorem iStore : ∀ v, StoreI v := V.ind iStore_s
def StoreS (v : V) : Prop := v.valid = true → v.bulk ≤ 1048576 → ∀ (l : List Bk), l.length + 2 * v.bulk ≤ 1099511627775 → (∀ b ∈ l, 0 ≤ b.count) → ∀ (av : Option Addr) (cv : Nat) (a : Option Addr) (n bp : Nat) (R : Bag) (h0 h : Hp), My h0 h ((.row 8 (v.items.flatMap edt), .slice av v.items.length cv) :: HpB l a n bp R) → ACalls Tryz.prog 99 #[.pointer (some ⟨bp, 0, none⟩), .agg #[.int .i64 v.kind, .int .i64 v.num, .string v.str, .int .i64 v.next, .slice av v.items.length cv]] h (HpR h0 (sto v l).2 (sto v l).1 bp R)
set_option maxHeartbeats 1600000 in
theorem sStore_s (v : V) (ih : ∀ e ∈ v.items, StoreS e.2) : StoreS v := by
  intro hv hbv l hl hc av cv a n bp R h0 h m
  have hvb := V.bulk_eq v
  have hlb := V.bulks_len v.items
  (refine enter Tryz.func99 rfl rfl (by kernel_rfl) [] ?_; simp only [go_sem, Nat.reduceBEq])
  by_cases h4 : v.kind = 4
  case neg =>
    rw [sto_other h4]
    simp only [decide_eq_false h4, Bool.not_false, go_sem, Nat.reduceBEq, Nat.reduceAdd, Nat.reduceLeDiff]
    exact ⟨_, _, a, n, rfl, m⟩
  obtain ⟨hlen, hits⟩ := valid_mem hv h4
  rw [sto_arr h4]
  simp only [decide_eq_true h4, Bool.not_true, go_sem, Nat.reduceBEq, Nat.reduceAdd, Nat.reduceLeDiff]
  try simp only [go_sem, Nat.reduceBEq, Nat.reduceAdd, Nat.reduceLeDiff, Nat.reduceEqDiff, Int.reduceEq, not_false_eq_true, Int.reduceToNat]
  refine aloop (ι := Nat × (Option Addr × Nat) × (Option Addr × Nat) × (Option Addr × Nat) × List Dt) (fun x => [(6, .val (.int .i64 (x.1 : Nat))), (5, .box 5 0), (4, .box 4 0), (3, .box 3 0), (0, .val (.pointer (some ⟨bp, 0, none⟩)))])
    (fun x => [(5, [.bool (stoE (v.items.take x.1) l tb0).2.hashed, .slice x.2.1.1 (stoE (v.items.take x.1) l tb0).2.heads.length x.2.1.2, .slice x.2.2.1.1 (stoE (v.items.take x.1) l tb0).2.slots.length x.2.2.1.2, .int .i64 (stoE (v.items.take x.1) l tb0).2.next, .int .i64 (stoE (v.items.take x.1) l tb0).2.count]), (4, [.int .i64 0, .int .i64 0, .string ⟨#[]⟩, .int .i64 0, .slice none 0 0]), (3, [.int .i64 v.kind, .int .i64 v.num, .string v.str, .int .i64 v.next, .slice av v.items.length cv])])
    (fun x h' => x.1 ≤ v.items.length ∧ x.2.2.2.2.length = x.1 * 8 ∧ My h0 h' ((.row 8 (x.2.2.2.2 ++ (v.items.drop x.1).flatMap edt), .slice av v.items.length cv) :: (.row 1 ((stoE (v.items.take x.1) l tb0).2.heads.flatMap idt), .slice x.2.1.1 (stoE (v.items.take x.1) l tb0).2.heads.length x.2.1.2) :: (.row 10 ((stoE (v.items.take x.1) l tb0).2.slots.flatMap Sl.dt), .slice x.2.2.1.1 (stoE (v.items.take x.1) l tb0).2.slots.length x.2.2.1.2) :: HpB (stoE (v.items.take x.1) l tb0).1 x.2.2.2.1.1 x.2.2.2.1.2 bp R)) (fun x => v.items.length - x.1) (0, (none, 0), (none, 0), (a, n), [])
    ⟨Nat.zero_le _, rfl, by simp only [List.take_zero, stoE_nil]; exact ((m.nilrow (z := 10)).nilrow (z := 1)).third⟩ (by repeat (first | exact wkF_e | refine wkF_c rfl ?_)) (by simp only [List.take_zero, stoE_nil]; exact (wkB_c rfl (wkB_c rfl (wkB_c rfl wkB_e)))) rfl ?_
  rintro ⟨i, ⟨a1, n1⟩, ⟨a2, n2⟩, ⟨a0, n0⟩, A⟩ h1 ⟨hi, hA, m1⟩
  have hi : i ≤ v.items.length := hi
  have hA : A.length = i * 8 := hA
  have m1 : My h0 h1 ((.row 8 (A ++ (v.items.drop i).flatMap edt), .slice av v.items.length cv) :: (.row 1 ((stoE (v.items.take i) l tb0).2.heads.flatMap idt), .slice a1 (stoE (v.items.take i) l tb0).2.heads.length n1) :: (.row 10 ((stoE (v.items.take i) l tb0).2.slots.flatMap Sl.dt), .slice a2 (stoE (v.items.take i) l tb0).2.slots.length n2) :: HpB (stoE (v.items.take i) l tb0).1 a0 n0 bp R) := m1
  obtain ⟨ch, hroom⟩ := stoE_at l (fun e he => (hits e he).1) hlen i
  have hbl := (stoE_bulk (v.items.take i) l tb0).2
  have hcl := stoE_cnt (v.items.take i) l tb0 hc
  try simp only [go_sem, Nat.reduceBEq]
  refine Br.intro (fun hq => ?_) (fun hq => ?_) <;> (try simp only [hq, go_sem, Nat.reduceBEq, Nat.reduceAdd, Nat.reduceLeDiff])
  · have hq : i < v.items.length := by simpa using hq
    obtain ⟨e, he, hm⟩ := get_lt hq
    have wsu := wrap_succ (i := i) (by omega)
    have hsn := stoE_snoc he l tb0
    have hbm := bulks_at he
    obtain ⟨hk1, hv1⟩ := hits e hm
    rw [drop_cons he, List.flatMap_cons] at m1
    obtain ⟨ae, ne, m2⟩ := entry_open m1
    have m2 := m2.swap
    obtain ⟨_, _, es, _, _, hat⟩ := m2.row_shape (by decide) v.items.length (by rw [List.length_append, List.length_append, erw_len, hA, fm_len edt_len, List.length_drop]; omega)
    cases es
    obtain ⟨b2, rfl⟩ := hat (by omega)
    obtain ⟨hx, mA, mB⟩ := m2.part
    refine regionD_still (lb := [20, 22, 29]) (pl := [26]) hx mB.ext (by kernel_rfl) ?_
    simp only [ix_nat hq, go_sem, Nat.reduceBEq, Nat.reduceAdd, Nat.reduceLeDiff]
    refine hsem_erwK tyS40 mA (by omega) (by omega) ?_
    simp only [ix_nat hq, go_sem, Nat.reduceBEq, Nat.reduceAdd]
    refine hsem_erwV tyS44 m2 (by omega) (by omega) ?_
    try simp only [go_sem, Nat.reduceBEq]
    refine (ih e hm hv1 (by omega) _ (by omega) hcl ae ne a0 n0 bp _ hx _ mB.fifth.fifth.third).mono ?_
    rintro _ h2 ⟨a6, c6, a7, n7, rfl, m3⟩
    try simp only [go_sem, Nat.reduceBEq]
    refine ⟨m3.ext, ?_⟩
    refine (sSet _ ch e.1 hk1 _ _ _ _ _ _ _ hx _ (HpB _ a7 n7 bp R) m3.fifth.fifth.third).mono ?_
    rintro _ h3 ⟨_, rfl, a8, c8, a9, c9, rfl, m4⟩
    rw [set_yes (roomy_of (fun _ => hroom hq))] at m4 ⊢
    have m5 := (mA.add m4).perm List.perm_append_comm
    try simp only [wsu, go_sem, Nat.reduceBEq, Nat.reduceAdd, Nat.reduceLeDiff]
    refine ⟨m4.ext, ?_⟩
    try simp only [wsu, go_sem, Nat.reduceBEq, Nat.reduceAdd, Nat.reduceLeDiff, Nat.reduceEqDiff, Int.reduceEq, not_false_eq_true, Int.reduceToNat]
    exact Again.intro (i + 1, (a8, c8), (a9, c9), (a7, n7), A ++ erw e (.slice ae e.2.items.length ne)) (by first | omega | (simp only; omega)) ⟨hq, by simp only [List.length_append, erw_len, hA]; omega, by simp only [hsn, List.append_assoc]; exact m5⟩ (by repeat (first | exact wkF_e | refine wkF_c rfl ?_)) (by simp only [hsn]; exact (wkB_c rfl (wkB_c rfl (wkB_c rfl wkB_e)))) rfl
  · have hq : i = v.items.length := by simp at hq; omega
    subst hq
    rw [List.take_length] at m1 ch hbl hcl
    simp only [List.take_length, go_sem]
    try simp only [go_sem, Nat.reduceBEq, Nat.reduceAdd, Nat.reduceLeDiff, Nat.reduceEqDiff, Int.reduceEq, not_false_eq_true, Int.reduceToNat]
    refine (sAlloc _ ((stoE v.items l tb0).2.withN v.next) (by omega) hcl a1 a2 a0 n1 n2 n0 bp R h0 _ m1.drop).mono ?_
    rintro _ h3 ⟨a8, c8, a9, n9, rfl, m3⟩
    try simp only [go_sem, Nat.reduceBEq, Nat.reduceAdd, Nat.reduceLeDiff]
    exact ⟨_, _, a9, n9, rfl, m3⟩
theorem sStore : ∀ v, StoreS v := V.ind sStore_s
/-- a heap, a value and a Bool, made anew -/
def MadeH3 (h : Hp) (l : List Bk) (w : V) (ok : Bool) (u : Value) (h' : Hp) : Prop := ∃ a c b d, u = .tuple #[.agg #[.slice a l.length c], .agg #[.int .i64 w.kind, .int .i64 w.num, .string w.str, .int .i64 w.next, .slice b w.items.length d], .bool ok] ∧ My h h' [(.row 6 (l.flatMap Bk.dt), .slice a l.length c), (.row 8 (w.items.flatMap edt), .slice b w.items.length d)]
set_option maxHeartbeats 800000 in
theorem iStoreValue (l : List Bk) (v : V) (hb : szG Bk.bulk l ≤ 1048576) (hbv : v.bulk ≤ 1048576) (s sl : Value) (h : Hp) (r1 : RdB h l s) (rd : RdE h v.items sl) (hE : Env h) : ACalls Tryz.prog 42 #[.agg #[s], .agg #[.int .i64 v.kind, .int .i64 v.num, .string v.str, .int .i64 v.next, sl]] h (MadeH3 h (storeOf l v).1 (storeOf l v).2.1 (storeOf l v).2.2) := by
  have hlen := szG_len (w := Bk.bulk) l
  have hvb := V.bulk_eq v
  obtain ⟨a1, c1, xs1, rfl, hc1, hr1, hat1⟩ := r1.rows (by decide) l.length (fm_len Bk.dt_len _)
  obtain ⟨av, cv, _, rfl, _⟩ := rd.rows (by decide) v.items.length (fm_len edt_len _)
  (refine enter Tryz.func42 rfl rfl (by kernel_rfl) [7,8] ?_; simp only [go_sem, Nat.reduceBEq, Nat.reduceLeDiff])
  refine (iCopyHeap l (by omega) _ _ r1).mono ?_
  rintro _ h1 ⟨a3, c3, rfl, m1⟩
  simp only [go_sem, Nat.reduceBEq]
  refine hsem_my_alloc (z := [.slice none 0 0]) (by kernel_rfl) rfl m1 fun bp h2 m2 => ?_
  try simp only [go_sem, Nat.reduceBEq]
  refine Hold.store Hold.ptr (es := [.raw (.slice a3 l.length c3)]) tyS60 (m2.raw (u := .slice a3 l.length c3) rfl) rfl rfl rfl rfl fun h3 m3 => ?_
  have m3 : My h h3 (HpB l a3 c3 bp []) := m3.swap
  try simp only [go_sem, Nat.reduceBEq, Nat.reduceLeDiff]
  refine (iIsHeap l hb _ _ (r1.mono m3.ext) (hE.ext m3.ext)).mono ?_
  rintro _ h4 ⟨rfl, e4⟩
  have m4 : My h h4 (HpB l a3 c3 bp []) := m3.mono e4
  cases hH : heapB l with
  | false =>
    simp only [Bool.not_false, go_sem, Nat.reduceBEq]
    refine regionD_still (lb := []) (pl := [19]) _ (Ext.refl _) (by kernel_rfl) ?_
    simp only [go_sem, Nat.reduceBEq]
    refine Hold.loadN Hold.ptr (i := 0) (ds := [.raw (.slice a3 l.length c3)]) tyS60 m4.swap rfl rfl rfl fun ys r => ?_
    obtain rfl : ys = [.slice a3 l.length c3] := RdL.of_raws (us := [.slice a3 l.length c3]) r
    try simp only [go_sem]
    (refine (iNull _).mono ?_; rintro _ _ ⟨rfl, rfl⟩; simp only [go_sem, Nat.reduceBEq, Nat.reduceAdd, Nat.reduceLeDiff])
    try refine ⟨Ext.refl _, ?_⟩
    try simp only [go_sem, Nat.reduceBEq, Nat.reduceAdd, Nat.reduceLeDiff, Nat.reduceEqDiff, Int.reduceEq, not_false_eq_true, Int.reduceToNat]
    rw [store_no1 hH]
    exact ⟨_, _, none, 0, rfl, m4.swap.drop.nilrow.swap⟩
  | true =>
  have ho := heapB_iff.1 hH
  simp only [Bool.not_true, go_sem, Nat.reduceBEq, Nat.reduceAdd, Nat.reduceLeDiff]
  refine (iIsValue v (by omega) _ _ (rd.mono m4.ext) (hE.ext m4.ext)).mono ?_
  rintro _ h5 ⟨rfl, e5⟩
  have m5 : My h h5 (HpB l a3 c3 bp []) := m4.mono e5
  cases hD : v.valid with
  | false =>
    simp only [Bool.not_false, go_sem, Nat.reduceBEq]
    refine regionD_still (lb := []) (pl := [19]) _ (Ext.refl _) (by kernel_rfl) ?_
    simp only [go_sem, Nat.reduceBEq]
    refine Hold.loadN Hold.ptr (i := 0) (ds := [.raw (.slice a3 l.length c3)]) tyS60 m5.swap rfl rfl rfl fun ys r => ?_
    obtain rfl : ys = [.slice a3 l.length c3] := RdL.of_raws (us := [.slice a3 l.length c3]) r
    try simp only [go_sem]
    (refine (iNull _).mono ?_; rintro _ _ ⟨rfl, rfl⟩; simp only [go_sem, Nat.reduceBEq, Nat.reduceAdd, Nat.reduceLeDiff])
    try refine ⟨Ext.refl _, ?_⟩
    try simp only [go_sem, Nat.reduceBEq, Nat.reduceAdd, Nat.reduceLeDiff, Nat.reduceEqDiff, Int.reduceEq, not_false_eq_true, Int.reduceToNat]
    rw [store_no2 hD]
    exact ⟨_, _, none, 0, rfl, m5.swap.drop.nilrow.swap⟩
  | true =>
  have hcn : ∀ b ∈ l, 0 ≤ b.count := fun b hb => by
    obtain ⟨i, hi⟩ := List.getElem?_of_mem hb
    exact (ho.hIn.cnt i b hi).1
  simp only [Bool.not_true, go_sem, Nat.reduceBEq, Nat.reduceAdd, Nat.reduceLeDiff]
  refine (iStore v hD hbv l (by omega) hcn _ a3 c3 bp [] h _ rd m5).mono ?_
  rintro _ h7 ⟨b7, d7, a7, c7, rfl, m7⟩
  try simp only [go_sem, Nat.reduceBEq]
  rw [store_yes hH hD]
  generalize sto v l = st at *
  obtain ⟨l9, w⟩ := st
  refine hsem_my_alloc (z := [.int .i64 0, .int .i64 0, .string ⟨#[]⟩, .int .i64 0, .slice none 0 0]) (by kernel_rfl) rfl m7 fun b8 h8 m8 => ?_
  try simp only [go_sem, Nat.reduceBEq]
  refine var_store (w := w) (sl := .slice b7 w.items.length d7) Hold.ptr rfl m8.swap rfl fun h9 m9 => ?_
  try simp only [go_sem]
  refine regionD_still (lb := []) (pl := [24]) _ (Ext.refl _) (by kernel_rfl) ?_
  simp only [go_sem, Nat.reduceBEq]
  refine Hold.loadN Hold.ptr (i := 0) (ds := [.raw (.slice a7 l9.length c7)]) tyS60 m9.third rfl rfl rfl fun ys r => ?_
  obtain rfl : ys = [.slice a7 l9.length c7] := RdL.of_raws (us := [.slice a7 l9.length c7]) r
  try simp only [go_sem, Nat.reduceBEq]
  refine var_take Hold.ptr m9 rfl fun an nn m10 => ?_
  try simp only [go_sem, Nat.reduceBEq, Nat.reduceAdd, Nat.reduceLeDiff]
  exact ⟨_, _, _, _, rfl, m10.third.drop.swap⟩
set_option maxHeartbeats 800000 in
theorem sStoreValue (l : List Bk) (v : V) (hb : szG Bk.bulk l ≤ 1048576) (hbv : v.bulk ≤ 1048576) (s sl : Value) (h : Hp) (r1 : RdB h l s) (rd : RdE h v.items sl) : ACalls Tryz.prog 41 #[.agg #[s], .agg #[.int .i64 v.kind, .int .i64 v.num, .string v.str, .int .i64 v.next, sl]] h (MadeH3 h (storeOf l v).1 (storeOf l v).2.1 (storeOf l v).2.2) := by
  have hlen := szG_len (w := Bk.bulk) l
  have hvb := V.bulk_eq v
  obtain ⟨a1, c1, xs1, rfl, hc1, hr1, hat1⟩ := r1.rows (by decide) l.length (fm_len Bk.dt_len _)
  obtain ⟨av, cv, _, rfl, _⟩ := rd.rows (by decide) v.items.length (fm_len edt_len _)
  (refine enter Tryz.func41 rfl rfl (by kernel_rfl) [7,8] ?_; simp only [go_sem, Nat.reduceBEq, Nat.reduceLeDiff])
  refine (sCopyHeap l (by omega) _ _ r1).mono ?_
  rintro _ h1 ⟨a3, c3, rfl, m1⟩
  simp only [go_sem, Nat.reduceBEq]
  refine hsem_my_alloc (z := [.slice none 0 0]) (by kernel_rfl) rfl m1 fun bp h2 m2 => ?_
  try simp only [go_sem, Nat.reduceBEq]
  refine Hold.store Hold.ptr (es := [.raw (.slice a3 l.length c3)]) tyS60 (m2.raw (u := .slice a3 l.length c3) rfl) rfl rfl rfl rfl fun h3 m3 => ?_
  have m3 : My h h3 (HpB l a3 c3 bp []) := m3.swap
  try simp only [go_sem, Nat.reduceBEq, Nat.reduceLeDiff]
  refine (sIsHeap l hb _ _ (r1.mono m3.ext)).mono ?_
  rintro _ h4 ⟨rfl, e4⟩
  have m4 : My h h4 (HpB l a3 c3 bp []) := m3.mono e4
  cases hH : heapB l with
  | false =>
    simp only [Bool.not_false, go_sem, Nat.reduceBEq]
    refine Hold.loadN Hold.ptr (i := 0) (ds := [.raw (.slice a3 l.length c3)]) tyS60 m4.swap rfl rfl rfl fun ys r => ?_
    obtain rfl : ys = [.slice a3 l.length c3] := RdL.of_raws (us := [.slice a3 l.length c3]) r
    try simp only [go_sem, Nat.reduceBEq, Nat.reduceAdd, Nat.reduceLeDiff]
    rw [store_no1 hH]
    exact ⟨_, _, none, 0, rfl, m4.swap.drop.nilrow.swap⟩
  | true =>
  have ho := heapB_iff.1 hH
  simp only [Bool.not_true, go_sem, Nat.reduceBEq, Nat.reduceAdd, Nat.reduceLeDiff]
  refine (sIsValue v (by omega) _ _ (rd.mono m4.ext)).mono ?_
  rintro _ h5 ⟨rfl, e5⟩
  have m5 : My h h5 (HpB l a3 c3 bp []) := m4.mono e5
  cases hD : v.valid with
  | false =>
    simp only [Bool.not_false, go_sem, Nat.reduceBEq]
    refine Hold.loadN Hold.ptr (i := 0) (ds := [.raw (.slice a3 l.length c3)]) tyS60 m5.swap rfl rfl rfl fun ys r => ?_
    obtain rfl : ys = [.slice a3 l.length c3] := RdL.of_raws (us := [.slice a3 l.length c3]) r
    try simp only [go_sem, Nat.reduceBEq, Nat.reduceAdd, Nat.reduceLeDiff]
    rw [store_no2 hD]
    exact ⟨_, _, none, 0, rfl, m5.swap.drop.nilrow.swap⟩
  | true =>
  have hcn : ∀ b ∈ l, 0 ≤ b.count := fun b hb => by
    obtain ⟨i, hi⟩ := List.getElem?_of_mem hb
    exact (ho.hIn.cnt i b hi).1
  simp only [Bool.not_true, go_sem, Nat.reduceBEq, Nat.reduceAdd, Nat.reduceLeDiff]
  refine (l5Copy_c v (by omega) _ _ (rd.mono m5.ext)).mono ?_
  rintro _ h6 ⟨a6, c6, rfl, m6⟩
  try simp only [go_sem, Nat.reduceBEq]
  refine (sStore v hD hbv l (by omega) hcn a6 c6 a3 c3 bp [] h _ (m5.add m6)).mono ?_
  rintro _ h7 ⟨b7, d7, a7, c7, rfl, m7⟩
  try simp only [go_sem, Nat.reduceBEq]
  rw [store_yes hH hD]
  generalize sto v l = st at *
  obtain ⟨l9, w⟩ := st
  refine hsem_my_alloc (z := [.int .i64 0, .int .i64 0, .string ⟨#[]⟩, .int .i64 0, .slice none 0 0]) (by kernel_rfl) rfl m7 fun b8 h8 m8 => ?_
  try simp only [go_sem, Nat.reduceBEq]
  refine var_store (w := w) (sl := .slice b7 w.items.length d7) Hold.ptr rfl m8.swap rfl fun h9 m9 => ?_
  try simp only [go_sem]
  refine regionD_still (lb := []) (pl := [25]) _ (Ext.refl _) (by kernel_rfl) ?_
  simp only [go_sem, Nat.reduceBEq]
  refine Hold.loadN Hold.ptr (i := 0) (ds := [.raw (.slice a7 l9.length c7)]) tyS60 m9.third rfl rfl rfl fun ys r => ?_
  obtain rfl : ys = [.slice a7 l9.length c7] := RdL.of_raws (us := [.slice a7 l9.length c7]) r
  try simp only [go_sem, Nat.reduceBEq]
  refine var_take Hold.ptr m9 rfl fun an nn m10 => ?_
  try simp only [go_sem, Nat.reduceBEq, Nat.reduceAdd, Nat.reduceLeDiff]
  exact ⟨_, _, _, _, rfl, m10.third.drop.swap⟩
end Go.Proofs.YtedfplodobpgfaaGreatDoor
namespace Go.Proofs.YtedfplodobpgfaaGreatDoor
set_option maxRecDepth 8000
open Go Go.Sx
def SzSlot (e : Sl) : Prop := ∀ (ys : List Value) (l : Int) (h : Hp), RdL h (Sl.dt e) ys → 0 ≤ l → l ≤ 1048576 → ACalls Tryz.prog 109 #[.agg ys.toArray, .int .i64 l] h (Pu (.int .i64 (less l (Sl.bulk e))) h)
theorem szSlotS_s (es : List Sl) (ih : ∀ e ∈ es, SzSlot e) (hl : es.length ≤ maxLen) (sl : Value) (l : Int) (h : Hp) (rd : Rd h (.row 10 (es.flatMap Sl.dt)) sl) (l0 : 0 ≤ l) (l1 : l ≤ 1048576) :
    ACalls Tryz.prog 50 #[sl, .int .i64 l] h (Pu (.int .i64 (less l (szG Sl.bulk es))) h) := by
  obtain ⟨a, c, xs, rfl, hc, hr, hat⟩ := rd.rows (by decide) es.length (fm_len Sl.dt_len es)
  (refine enter Tryz.func50 rfl rfl (by kernel_rfl) [] ?_; simp only [go_sem, Nat.reduceBEq])
  simp only [less_wrap l0 l1 hl, go_sem]
  refine Br.intro (fun hb => ?_) (fun hb => ?_) <;> (try simp only [hb, go_sem, Nat.reduceBEq])
  · have hb : l - (es.length : Int) < 0 := by simpa using hb
    exact ⟨by unfold szG; rw [less_neg (by unfold less; split <;> omega)], rfl⟩
  · have hb : ¬ l - (es.length : Int) < 0 := by simpa using hb
    have e0 : l - (es.length : Int) = less l (es.length + gsum Sl.bulk (es.take 0)) := by unfold less; simp [gsum]; omega
    rw [e0]
    refine aloop (ι := Nat) (fun i => [(5, .val (.int .i64 (i : Nat))), (1, .val (.int .i64 (less l (es.length + gsum Sl.bulk (es.take i))))), (0, .val (.slice a es.length c))]) (fun _ => []) (fun i h' => i ≤ es.length ∧ 0 ≤ less l (es.length + gsum Sl.bulk (es.take i)) ∧ h = h') (fun i => es.length - i) 0
      ⟨Nat.zero_le _, by rw [← e0]; omega, rfl⟩ (by repeat (first | exact wkF_e | refine wkF_c rfl ?_)) wkB_e rfl ?_
    intro i h1 hx
    have hx : i ≤ es.length ∧ 0 ≤ less l (es.length + gsum Sl.bulk (es.take i)) ∧ h = h1 := hx
    have hi := hx.1
    have hf := hx.2.1
    have he := hx.2.2
    clear hx
    subst he
    simp only [go_sem, Nat.reduceBEq]
    refine Br.intro (fun hb => ?_) (fun hb => ?_) <;> (try simp only [hb, go_sem, Nat.reduceBEq])
    · have hb : i < es.length := by simpa using hb
      obtain ⟨b, off, rfl, hat'⟩ := hat (by omega)
      obtain ⟨e, he, hm⟩ := get_lt hb
      simp only [ix_nat hb, go_sem, Nat.reduceBEq]
      refine hsem_row (f := Sl.dt) (o := 0) (ds := Sl.dt e) Sl.dt_len tyS129 hat' hr he (Nat.le_refl _) (by rw [List.drop_zero, List.take_of_length_le (by rw [Sl.dt_len]; exact Nat.le_refl _)]) ?_ fun ys r1 => ?_
      · omega
      simp only [go_sem, Nat.reduceBEq]
      (refine (ih e hm _ _ _ r1 hf (less_le l1)).mono ?_; rintro _ _ ⟨rfl, rfl⟩; simp only [go_sem, Nat.reduceBEq])
      rw [less_add hf, Nat.add_assoc, ← gsum_snoc he]
      refine Br.intro (fun hc => ?_) (fun hc => ?_) <;> (try simp only [hc, go_sem, Nat.reduceBEq])
      · have hc : less l (es.length + gsum Sl.bulk (es.take (i + 1))) < 0 := by simpa using hc
        refine ⟨?_, rfl⟩
        unfold szG
        rw [gsum_split Sl.bulk es (i + 1), ← Nat.add_assoc, less_neg hc]
      · have hc : 0 ≤ less l (es.length + gsum Sl.bulk (es.take (i + 1))) := by simpa using hc
        rw [wrap_succ (i := i) (by unfold maxLen at hl; omega)]
        exact Again.intro (i + 1) (by first | omega | (simp only; omega)) ⟨hb, hc, rfl⟩ (by repeat (first | exact wkF_e | refine wkF_c rfl ?_)) wkB_e rfl
    · have hb : i = es.length := by simp at hb; omega
      subst hb
      refine ⟨?_, rfl⟩
      rw [List.take_length]
      rfl
end Go.Proofs.YtedfplodobpgfaaGreatDoor
namespace Go.Proofs.YtedfplodobpgfaaGreatDoor
set_option maxRecDepth 8000
open Go Go.Sx
def EqSlot (e : Sl) : Prop := ∀ (h : Hp) (ys zs : List Value), RdL h (Sl.dt e) ys → RdL h (Sl.dt e) zs → ACalls Tryz.prog 131 #[.agg ys.toArray, .agg zs.toArray] h (Pu (.bool true) h)
theorem eqSlotS_s (l : List (Sl)) (ih : ∀ e ∈ l, EqSlot e) (hl : l.length ≤ 4611686018427387904) (s1 s2 : Value) (h : Hp) (r1 : Rd h (.row 10 (l.flatMap Sl.dt)) s1) (r2 : Rd h (.row 10 (l.flatMap Sl.dt)) s2) :
    ACalls Tryz.prog 67 #[s1, s2] h (Pu (.bool true) h) := by
  obtain ⟨a1, c1, xs1, rfl, hc1, hr1, hat1⟩ := r1.rows (by decide) l.length (fm_len Sl.dt_len l)
  obtain ⟨a2, c2, xs2, rfl, hc2, hr2, hat2⟩ := r2.rows (by decide) l.length (fm_len Sl.dt_len l)
  (refine enter Tryz.func67 rfl rfl (by kernel_rfl) [] ?_; simp only [go_sem, Nat.reduceBEq])
  refine aloop (ι := Nat) (fun i => [(5, .val (.int .i64 (i : Nat))), (0, .val (.slice a1 l.length c1)), (1, .val (.slice a2 l.length c2))]) (fun _ => []) (fun i h' => i ≤ l.length ∧ h' = h) (fun i => l.length - i) 0 ⟨Nat.zero_le _, rfl⟩ (by repeat (first | exact wkF_e | refine wkF_c rfl ?_)) wkB_e rfl ?_
  rintro i _ ⟨hi, rfl⟩
  simp only [go_sem, Nat.reduceBEq]
  refine Br.intro (fun hb => ?_) (fun hb => ?_) <;> (try simp only [hb, go_sem, Nat.reduceBEq])
  · have hb : i < l.length := by simpa using hb
    obtain ⟨b1, o1, rfl, hat1'⟩ := hat1 (by omega)
    obtain ⟨b2, o2, rfl, hat2'⟩ := hat2 (by omega)
    obtain ⟨e, he, hm⟩ := get_lt hb
    have wsu := wrap_succ (i := i) (by omega)
    refine regionD_intro (lb := []) (by kernel_rfl) ?_
    simp only [ix_nat hb, go_sem, Nat.reduceBEq]
    refine hsem_row (f := Sl.dt) (o := 0) (ds := Sl.dt e) Sl.dt_len tyS134 hat1' hr1 he (Nat.le_refl _) (by rw [List.drop_zero, List.take_of_length_le (Nat.le_of_eq (Sl.dt_len e))]) ?_ fun ys1 q1 => ?_
    · omega
    simp only [ix_nat hb, go_sem, Nat.reduceBEq]
    refine hsem_row (f := Sl.dt) (o := 0) (ds := Sl.dt e) Sl.dt_len tyS134 hat2' hr2 he (Nat.le_refl _) (by rw [List.drop_zero, List.take_of_length_le (Nat.le_of_eq (Sl.dt_len e))]) ?_ fun ys2 q2 => ?_
    · omega
    simp only [go_sem, Nat.reduceBEq]
    (refine (ih e hm _ _ _ q1 q2).mono ?_; rintro _ _ ⟨rfl, rfl⟩; simp only [go_sem, Nat.reduceBEq])
    simp only [wsu, go_sem]
    exact Again.intro (i + 1) (by first | omega | (simp only; omega)) ⟨hb, rfl⟩ (by repeat (first | exact wkF_e | refine wkF_c rfl ?_)) wkB_e rfl
  · exact ⟨rfl, rfl⟩
def ToSlot (e : Sl) : Prop := ∀ (h : Hp) (ys : List Value), RdL h (Sl.dt e) ys → ACalls Tryz.prog 118 #[.agg ys.toArray] h fun u h' => ∃ us, u = .agg us.toArray ∧ us.length = 10 ∧ My h h' ((Sl.dt e).zip us)
theorem toSlotS_s (l : List (Sl)) (ih : ∀ e ∈ l, ToSlot e) (hl : l.length ≤ 1048576) (sl : Value) (h : Hp) (rd : Rd h (.row 10 (l.flatMap Sl.dt)) sl) :
    ACalls Tryz.prog 58 #[sl] h fun u h' => My h h' [(.row 10 (l.flatMap Sl.dt), u)] := by
  obtain ⟨a, c, xs, rfl, hc, hr, hat⟩ := rd.rows (by decide) l.length (fm_len Sl.dt_len l)
  (refine enter Tryz.func58 rfl rfl (by kernel_rfl) [] ?_; simp only [go_sem, Nat.reduceBEq])
  refine hsem_my_make slT34 (by decide) rfl rfl hl (by decide) (My.nil (Ext.refl h)) fun bo h1 m1 => ?_
  simp only [go_sem, Nat.reduceBEq]
  generalize hzz : SlT.zero _ = zz at m1
  refine aloop (ι := Nat) (fun i => [(4, .val (.int .i64 (i : Nat))), (3, .val (.slice (some ⟨bo, 0, none⟩) l.length l.length)), (0, .val (.slice a l.length c))]) (fun _ => []) (fun i h' => i ≤ l.length ∧ My h h' [(.row 10 ((l.take i).flatMap Sl.dt ++ zeros zz (l.length - i)), .slice (some ⟨bo, 0, none⟩) l.length l.length)]) (fun i => l.length - i) 0
    ⟨Nat.zero_le _, m1⟩ (by repeat (first | exact wkF_e | refine wkF_c rfl ?_)) wkB_e rfl ?_
  rintro i h2 ⟨hi, m2⟩
  have hi : i ≤ l.length := hi
  have m2 : My h h2 [(.row 10 ((l.take i).flatMap Sl.dt ++ zeros zz (l.length - i)), .slice (some ⟨bo, 0, none⟩) l.length l.length)] := m2
  simp only [go_sem, Nat.reduceBEq]
  refine Br.intro (fun hb => ?_) (fun hb => ?_) <;> (try simp only [hb, go_sem, Nat.reduceBEq])
  · have hb : i < l.length := by simpa using hb
    obtain ⟨b, o, rfl, hat'⟩ := hat (by omega)
    have hat2 := hat'.mono m2.ext
    have hr2 := hr.mono m2.ext
    obtain ⟨e, he, hm⟩ := get_lt hb
    have wsu := wrap_succ (i := i) (by omega)
    simp only [ix_nat hb, go_sem, Nat.reduceBEq]
    refine hsem_row (f := Sl.dt) (o := 0) (ds := Sl.dt e) Sl.dt_len tyS129 hat2 hr2 he (Nat.le_refl _) (by rw [List.drop_zero, List.take_of_length_le (Nat.le_of_eq (Sl.dt_len e))]) ?_ fun ys1 q1 => ?_
    · omega
    simp only [go_sem, Nat.reduceBEq]
    refine (ih e hm _ _ q1).mono ?_
    rintro _ h3 ⟨us, rfl, hus, n3⟩
    simp only [ix_nat hb, go_sem, Nat.reduceBEq]
    have m3 := m2.add n3
    rw [zeros_sub zz hb] at m3
    refine hsem_my_put tyS134 m3 (by omega) (by rw [List.length_map, ← hzz]; rfl) (Sl.dt_len e) hus ?_ fun h4 m4 => ?_
    · rw [fm_len Sl.dt_len, List.length_take, Nat.min_eq_left hi]
    simp only [wsu, go_sem, Nat.reduceBEq]
    refine Again.intro (i + 1) (by first | omega | (simp only; omega)) ⟨hb, ?_⟩ (by repeat (first | exact wkF_e | refine wkF_c rfl ?_)) wkB_e rfl
    rw [take_snoc he, List.flatMap_append, List.flatMap_cons, List.flatMap_nil, List.append_nil, List.append_assoc]
    exact m4
  · have hb : i = l.length := by simp at hb; omega
    subst hb
    rw [List.take_length, Nat.sub_self] at m2
    simpa [zeros] using m2
end Go.Proofs.YtedfplodobpgfaaGreatDoor
namespace Go.Proofs.YtedfplodobpgfaaGreatDoor
set_option maxRecDepth 8000
open Go Go.Sx
def EqEntry (e : Ky × V) : Prop := ∀ (h : Hp) (ys zs : List Value), RdL h (edt e) ys → RdL h (edt e) zs → ACalls Tryz.prog 132 #[.agg ys.toArray, .agg zs.toArray] h (Pu (.bool true) h)
theorem eqEntryS_s (l : List (Ky × V)) (ih : ∀ e ∈ l, EqEntry e) (hl : l.length ≤ 4611686018427387904) (s1 s2 : Value) (h : Hp) (r1 : Rd h (.row 8 (l.flatMap edt)) s1) (r2 : Rd h (.row 8 (l.flatMap edt)) s2) :
    ACalls Tryz.prog 68 #[s1, s2] h (Pu (.bool true) h) := by
  obtain ⟨a1, c1, xs1, rfl, hc1, hr1, hat1⟩ := r1.rows (by decide) l.length (fm_len edt_len l)
  obtain ⟨a2, c2, xs2, rfl, hc2, hr2, hat2⟩ := r2.rows (by decide) l.length (fm_len edt_len l)
  (refine enter Tryz.func68 rfl rfl (by kernel_rfl) [] ?_; simp only [go_sem, Nat.reduceBEq])
  refine aloop (ι := Nat) (fun i => [(5, .val (.int .i64 (i : Nat))), (0, .val (.slice a1 l.length c1)), (1, .val (.slice a2 l.length c2))]) (fun _ => []) (fun i h' => i ≤ l.length ∧ h' = h) (fun i => l.length - i) 0 ⟨Nat.zero_le _, rfl⟩ (by repeat (first | exact wkF_e | refine wkF_c rfl ?_)) wkB_e rfl ?_
  rintro i _ ⟨hi, rfl⟩
  simp only [go_sem, Nat.reduceBEq]
  refine Br.intro (fun hb => ?_) (fun hb => ?_) <;> (try simp only [hb, go_sem, Nat.reduceBEq])
  · have hb : i < l.length := by simpa using hb
    obtain ⟨b1, o1, rfl, hat1'⟩ := hat1 (by omega)
    obtain ⟨b2, o2, rfl, hat2'⟩ := hat2 (by omega)
    obtain ⟨e, he, hm⟩ := get_lt hb
    have wsu := wrap_succ (i := i) (by omega)
    refine regionD_intro (lb := []) (by kernel_rfl) ?_
    simp only [ix_nat hb, go_sem, Nat.reduceBEq]
    refine hsem_row (f := edt) (o := 0) (ds := edt e) edt_len tyS141 hat1' hr1 he (Nat.le_refl _) (by rw [List.drop_zero, List.take_of_length_le (Nat.le_of_eq (edt_len e))]) ?_ fun ys1 q1 => ?_
    · omega
    simp only [ix_nat hb, go_sem, Nat.reduceBEq]
    refine hsem_row (f := edt) (o := 0) (ds := edt e) edt_len tyS141 hat2' hr2 he (Nat.le_refl _) (by rw [List.drop_zero, List.take_of_length_le (Nat.le_of_eq (edt_len e))]) ?_ fun ys2 q2 => ?_
    · omega
    simp only [go_sem, Nat.reduceBEq]
    (refine (ih e hm _ _ _ q1 q2).mono ?_; rintro _ _ ⟨rfl, rfl⟩; simp only [go_sem, Nat.reduceBEq])
    simp only [wsu, go_sem]
    exact Again.intro (i + 1) (by first | omega | (simp only; omega)) ⟨hb, rfl⟩ (by repeat (first | exact wkF_e | refine wkF_c rfl ?_)) wkB_e rfl
  · exact ⟨rfl, rfl⟩
def ToEntry (e : Ky × V) : Prop := ∀ (h : Hp) (ys : List Value), RdL h (edt e) ys → ACalls Tryz.prog 119 #[.agg ys.toArray] h fun u h' => ∃ us, u = .agg us.toArray ∧ us.length = 8 ∧ My h h' ((edt e).zip us)
theorem toEntryS_s (l : List (Ky × V)) (ih : ∀ e ∈ l, ToEntry e) (hl : l.length ≤ 1048576) (sl : Value) (h : Hp) (rd : Rd h (.row 8 (l.flatMap edt)) sl) :
    ACalls Tryz.prog 59 #[sl] h fun u h' => My h h' [(.row 8 (l.flatMap edt), u)] := by
  obtain ⟨a, c, xs, rfl, hc, hr, hat⟩ := rd.rows (by decide) l.length (fm_len edt_len l)
  (refine enter Tryz.func59 rfl rfl (by kernel_rfl) [] ?_; simp only [go_sem, Nat.reduceBEq])
  refine hsem_my_make slT42 (by decide) rfl rfl hl (by decide) (My.nil (Ext.refl h)) fun bo h1 m1 => ?_
  simp only [go_sem, Nat.reduceBEq]
  generalize hzz : SlT.zero _ = zz at m1
  refine aloop (ι := Nat) (fun i => [(4, .val (.int .i64 (i : Nat))), (3, .val (.slice (some ⟨bo, 0, none⟩) l.length l.length)), (0, .val (.slice a l.length c))]) (fun _ => []) (fun i h' => i ≤ l.length ∧ My h h' [(.row 8 ((l.take i).flatMap edt ++ zeros zz (l.length - i)), .slice (some ⟨bo, 0, none⟩) l.length l.length)]) (fun i => l.length - i) 0
    ⟨Nat.zero_le _, m1⟩ (by repeat (first | exact wkF_e | refine wkF_c rfl ?_)) wkB_e rfl ?_
  rintro i h2 ⟨hi, m2⟩
  have hi : i ≤ l.length := hi
  have m2 : My h h2 [(.row 8 ((l.take i).flatMap edt ++ zeros zz (l.length - i)), .slice (some ⟨bo, 0, none⟩) l.length l.length)] := m2
  simp only [go_sem, Nat.reduceBEq]
  refine Br.intro (fun hb => ?_) (fun hb => ?_) <;> (try simp only [hb, go_sem, Nat.reduceBEq])
  · have hb : i < l.length := by simpa using hb
    obtain ⟨b, o, rfl, hat'⟩ := hat (by omega)
    have hat2 := hat'.mono m2.ext
    have hr2 := hr.mono m2.ext
    obtain ⟨e, he, hm⟩ := get_lt hb
    have wsu := wrap_succ (i := i) (by omega)
    simp only [ix_nat hb, go_sem, Nat.reduceBEq]
    refine hsem_row (f := edt) (o := 0) (ds := edt e) edt_len tyS132 hat2 hr2 he (Nat.le_refl _) (by rw [List.drop_zero, List.take_of_length_le (Nat.le_of_eq (edt_len e))]) ?_ fun ys1 q1 => ?_
    · omega
    simp only [go_sem, Nat.reduceBEq]
    refine (ih e hm _ _ q1).mono ?_
    rintro _ h3 ⟨us, rfl, hus, n3⟩
    simp only [ix_nat hb, go_sem, Nat.reduceBEq]
    have m3 := m2.add n3
    rw [zeros_sub zz hb] at m3
    refine hsem_my_put tyS141 m3 (by omega) (by rw [List.length_map, ← hzz]; rfl) (edt_len e) hus ?_ fun h4 m4 => ?_
    · rw [fm_len edt_len, List.length_take, Nat.min_eq_left hi]
    simp only [wsu, go_sem, Nat.reduceBEq]
    refine Again.intro (i + 1) (by first | omega | (simp only; omega)) ⟨hb, ?_⟩ (by repeat (first | exact wkF_e | refine wkF_c rfl ?_)) wkB_e rfl
    rw [take_snoc he, List.flatMap_append, List.flatMap_cons, List.flatMap_nil, List.append_nil, List.append_assoc]
    exact m4
  · have hb : i = l.length := by simp at hb; omega
    subst hb
    rw [List.take_length, Nat.sub_self] at m2
    simpa [zeros] using m2
end Go.Proofs.YtedfplodobpgfaaGreatDoor
namespace Go.Proofs.YtedfplodobpgfaaGreatDoor
set_option maxRecDepth 8000
open Go Go.Sx
def EqKey (e : Ky) : Prop := ∀ (h : Hp) (ys zs : List Value), RdL h (Ky.dt e) ys → RdL h (Ky.dt e) zs → ACalls Tryz.prog 108 #[.agg ys.toArray, .agg zs.toArray] h (Pu (.bool true) h)
theorem eqKeyS_s (l : List (Ky)) (ih : ∀ e ∈ l, EqKey e) (hl : l.length ≤ 4611686018427387904) (s1 s2 : Value) (h : Hp) (r1 : Rd h (.row 3 (l.flatMap Ky.dt)) s1) (r2 : Rd h (.row 3 (l.flatMap Ky.dt)) s2) :
    ACalls Tryz.prog 47 #[s1, s2] h (Pu (.bool true) h) := by
  obtain ⟨a1, c1, xs1, rfl, hc1, hr1, hat1⟩ := r1.rows (by decide) l.length (fm_len Ky.dt_len l)
  obtain ⟨a2, c2, xs2, rfl, hc2, hr2, hat2⟩ := r2.rows (by decide) l.length (fm_len Ky.dt_len l)
  (refine enter Tryz.func47 rfl rfl (by kernel_rfl) [] ?_; simp only [go_sem, Nat.reduceBEq])
  refine aloop (ι := Nat) (fun i => [(5, .val (.int .i64 (i : Nat))), (0, .val (.slice a1 l.length c1)), (1, .val (.slice a2 l.length c2))]) (fun _ => []) (fun i h' => i ≤ l.length ∧ h' = h) (fun i => l.length - i) 0 ⟨Nat.zero_le _, rfl⟩ (by repeat (first | exact wkF_e | refine wkF_c rfl ?_)) wkB_e rfl ?_
  rintro i _ ⟨hi, rfl⟩
  simp only [go_sem, Nat.reduceBEq]
  refine Br.intro (fun hb => ?_) (fun hb => ?_) <;> (try simp only [hb, go_sem, Nat.reduceBEq])
  · have hb : i < l.length := by simpa using hb
    obtain ⟨b1, o1, rfl, hat1'⟩ := hat1 (by omega)
    obtain ⟨b2, o2, rfl, hat2'⟩ := hat2 (by omega)
    obtain ⟨e, he, hm⟩ := get_lt hb
    have wsu := wrap_succ (i := i) (by omega)
    refine regionD_intro (lb := []) (by kernel_rfl) ?_
    simp only [ix_nat hb, go_sem, Nat.reduceBEq]
    refine hsem_row (f := Ky.dt) (o := 0) (ds := Ky.dt e) Ky.dt_len tyS40 hat1' hr1 he (Nat.le_refl _) (by rw [List.drop_zero, List.take_of_length_le (Nat.le_of_eq (Ky.dt_len e))]) ?_ fun ys1 q1 => ?_
    · omega
    simp only [ix_nat hb, go_sem, Nat.reduceBEq]
    refine hsem_row (f := Ky.dt) (o := 0) (ds := Ky.dt e) Ky.dt_len tyS40 hat2' hr2 he (Nat.le_refl _) (by rw [List.drop_zero, List.take_of_length_le (Nat.le_of_eq (Ky.dt_len e))]) ?_ fun ys2 q2 => ?_
    · omega
    simp only [go_sem, Nat.reduceBEq]
    (refine (ih e hm _ _ _ q1 q2).mono ?_; rintro _ _ ⟨rfl, rfl⟩; simp only [go_sem, Nat.reduceBEq])
    simp only [wsu, go_sem]
    exact Again.intro (i + 1) (by first | omega | (simp only; omega)) ⟨hb, rfl⟩ (by repeat (first | exact wkF_e | refine wkF_c rfl ?_)) wkB_e rfl
  · exact ⟨rfl, rfl⟩
def ToKey (e : Ky) : Prop := ∀ (h : Hp) (ys : List Value), RdL h (Ky.dt e) ys → ACalls Tryz.prog 15 #[.agg ys.toArray] h fun u h' => ∃ us, u = .agg us.toArray ∧ us.length = 3 ∧ My h h' ((Ky.dt e).zip us)
theorem toKeyS_s (l : List (Ky)) (ih : ∀ e ∈ l, ToKey e) (hl : l.length ≤ 1048576) (sl : Value) (h : Hp) (rd : Rd h (.row 3 (l.flatMap Ky.dt)) sl) :
    ACalls Tryz.prog 45 #[sl] h fun u h' => My h h' [(.row 3 (l.flatMap Ky.dt), u)] := by
  obtain ⟨a, c, xs, rfl, hc, hr, hat⟩ := rd.rows (by decide) l.length (fm_len Ky.dt_len l)
  (refine enter Tryz.func45 rfl rfl (by kernel_rfl) [] ?_; simp only [go_sem, Nat.reduceBEq])
  refine hsem_my_make slT82 (by decide) rfl rfl hl (by decide) (My.nil (Ext.refl h)) fun bo h1 m1 => ?_
  simp only [go_sem, Nat.reduceBEq]
  generalize hzz : SlT.zero _ = zz at m1
  refine aloop (ι := Nat) (fun i => [(4, .val (.int .i64 (i : Nat))), (3, .val (.slice (some ⟨bo, 0, none⟩) l.length l.length)), (0, .val (.slice a l.length c))]) (fun _ => []) (fun i h' => i ≤ l.length ∧ My h h' [(.row 3 ((l.take i).flatMap Ky.dt ++ zeros zz (l.length - i)), .slice (some ⟨bo, 0, none⟩) l.length l.length)]) (fun i => l.length - i) 0
    ⟨Nat.zero_le _, m1⟩ (by repeat (first | exact wkF_e | refine wkF_c rfl ?_)) wkB_e rfl ?_
  rintro i h2 ⟨hi, m2⟩
  have hi : i ≤ l.length := hi
  have m2 : My h h2 [(.row 3 ((l.take i).flatMap Ky.dt ++ zeros zz (l.length - i)), .slice (some ⟨bo, 0, none⟩) l.length l.length)] := m2
  simp only [go_sem, Nat.reduceBEq]
  refine Br.intro (fun hb => ?_) (fun hb => ?_) <;> (try simp only [hb, go_sem, Nat.reduceBEq])
  · have hb : i < l.length := by simpa using hb
    obtain ⟨b, o, rfl, hat'⟩ := hat (by omega)
    have hat2 := hat'.mono m2.ext
    have hr2 := hr.mono m2.ext
    obtain ⟨e, he, hm⟩ := get_lt hb
    have wsu := wrap_succ (i := i) (by omega)
    simp only [ix_nat hb, go_sem, Nat.reduceBEq]
    refine hsem_row (f := Ky.dt) (o := 0) (ds := Ky.dt e) Ky.dt_len tyS27 hat2 hr2 he (Nat.le_refl _) (by rw [List.drop_zero, List.take_of_length_le (Nat.le_of_eq (Ky.dt_len e))]) ?_ fun ys1 q1 => ?_
    · omega
    simp only [go_sem, Nat.reduceBEq]
    refine (ih e hm _ _ q1).mono ?_
    rintro _ h3 ⟨us, rfl, hus, n3⟩
    simp only [ix_nat hb, go_sem, Nat.reduceBEq]
    have m3 := m2.add n3
    rw [zeros_sub zz hb] at m3
    refine hsem_my_put tyS40 m3 (by omega) (by rw [List.length_map, ← hzz]; rfl) (Ky.dt_len e) hus ?_ fun h4 m4 => ?_
    · rw [fm_len Ky.dt_len, List.length_take, Nat.min_eq_left hi]
    simp only [wsu, go_sem, Nat.reduceBEq]
    refine Again.intro (i + 1) (by first | omega | (simp only; omega)) ⟨hb, ?_⟩ (by repeat (first | exact wkF_e | refine wkF_c rfl ?_)) wkB_e rfl
    rw [take_snoc he, List.flatMap_append, List.flatMap_cons, List.flatMap_nil, List.append_nil, List.append_assoc]
    exact m4
  · have hb : i = l.length := by simp at hb; omega
    subst hb
    rw [List.take_length, Nat.sub_self] at m2
    simpa [zeros] using m2
end Go.Proofs.YtedfplodobpgfaaGreatDoor
namespace Go.Proofs.YtedfplodobpgfaaGreatDoor
set_option maxRecDepth 8000
open Go Go.Sx
theorem eqKey_c (k : Ky) (h : Hp) : ACalls Tryz.prog 108 #[.agg #[.bool k.text, .int .i64 k.num, .string k.str], .agg #[.bool k.text, .int .i64 k.num, .string k.str]] h (Pu (.bool true) h) := by
  (refine enter Tryz.func108 rfl rfl (by kernel_rfl) [] ?_; simp only [go_sem, Nat.reduceBEq])
  try simp only [decide_true, Bool.not_true, go_sem, Nat.reduceBEq, Nat.reduceAdd, Nat.reduceLeDiff, Nat.reduceEqDiff, Int.reduceEq, not_false_eq_true, Int.reduceToNat]
  exact ⟨rfl, rfl⟩
def EqV (v : V) : Prop := (V.bulks v.items ≤ 4611686018427387904) → ∀ (h : Hp) (s1 s2 : Value), RdE h v.items s1 → RdE h v.items s2 →
  ACalls Tryz.prog 19 #[.agg #[.int .i64 v.kind, .int .i64 v.num, .string v.str, .int .i64 v.next, s1], .agg #[.int .i64 v.kind, .int .i64 v.num, .string v.str, .int .i64 v.next, s2]] h (Pu (.bool true) h)
theorem bulks_mem : ∀ {es : List (Ky × V)} {e : Ky × V}, e ∈ es → e.2.bulk ≤ V.bulks es
  | (k, v) :: r, e, he => by
    simp only [V.bulks]
    cases he with
    | head => simp only; omega
    | tail _ he => have := bulks_mem he; omega
theorem bulks_len : ∀ es : List (Ky × V), es.length ≤ V.bulks es
  | [] => Nat.le_refl _
  | (k, v) :: r => by
    have := bulks_len r
    simp only [V.bulks, List.length_cons]
    omega
theorem eqEntry_c (e : Ky × V) (ih : EqV e.2) (hb : V.bulks e.2.items ≤ 4611686018427387904) : EqEntry e := by
  intro h ys zs r1 r2
  obtain ⟨s1, rfl, q1⟩ := RdL_entry r1
  obtain ⟨s2, rfl, q2⟩ := RdL_entry r2
  (refine enter Tryz.func132 rfl rfl (by kernel_rfl) [] ?_; simp only [go_sem, Nat.reduceBEq, Nat.reduceAdd, Nat.reduceLeDiff])
  (refine (eqKey_c e.1 _).mono ?_; rintro _ _ ⟨rfl, rfl⟩; simp only [go_sem, Nat.reduceBEq, Nat.reduceAdd, Nat.reduceLeDiff])
  try simp only [Bool.not_true, go_sem, Nat.reduceBEq, Nat.reduceAdd, Nat.reduceLeDiff, Nat.reduceEqDiff, Int.reduceEq, not_false_eq_true, Int.reduceToNat]
  (refine (ih hb _ _ _ q1 q2).mono ?_; rintro _ _ ⟨rfl, rfl⟩; simp only [go_sem, Nat.reduceBEq])
  try simp only [Bool.not_true, go_sem, Nat.reduceBEq, Nat.reduceAdd, Nat.reduceLeDiff, Nat.reduceEqDiff, Int.reduceEq, not_false_eq_true, Int.reduceToNat]
  exact ⟨rfl, rfl⟩
theorem eqValue_c : ∀ v, EqV v := V.ind fun v ih hb h s1 s2 r1 r2 => by
  (refine enter Tryz.func19 rfl rfl (by kernel_rfl) [] ?_; simp only [go_sem, Nat.reduceBEq])
  try simp only [decide_true, Bool.not_true, go_sem, Nat.reduceBEq, Nat.reduceAdd, Nat.reduceLeDiff, Nat.reduceEqDiff, Int.reduceEq, not_false_eq_true, Int.reduceToNat]
  have hl := bulks_len v.items
  (refine (eqEntryS_s v.items (fun e he => eqEntry_c e (ih e he) (by have := bulks_mem he; rw [V.bulk_eq] at this; omega)) (by omega) _ _ _ r1 r2).mono ?_; rintro _ _ ⟨rfl, rfl⟩; simp only [go_sem, Nat.reduceBEq])
  try simp only [Bool.not_true, go_sem, Nat.reduceBEq, Nat.reduceAdd, Nat.reduceLeDiff, Nat.reduceEqDiff, Int.reduceEq, not_false_eq_true, Int.reduceToNat]
  exact ⟨rfl, rfl⟩
theorem eqVal_c (v : V) (hb : v.bulk ≤ 4611686018427387904) (h : Hp) (ys zs : List Value) (r1 : RdL h v.dt ys) (r2 : RdL h v.dt zs) : ACalls Tryz.prog 19 #[.agg ys.toArray, .agg zs.toArray] h (Pu (.bool true) h) := by
  obtain ⟨s1, rfl, q1⟩ := RdL_val r1
  obtain ⟨s2, rfl, q2⟩ := RdL_val r2
  exact eqValue_c v (by rw [V.bulk_eq] at hb; omega) _ _ _ q1 q2
theorem toKey_c (k : Ky) (h : Hp) : ACalls Tryz.prog 15 #[.agg #[.bool k.text, .int .i64 k.num, .string k.str]] h (Pu (.agg #[.bool k.text, .int .i64 k.num, .string k.str]) h) := by
  (refine enter Tryz.func15 rfl rfl (by kernel_rfl) [] ?_; simp only [go_sem, Nat.reduceBEq, Nat.reduceAdd, Nat.reduceLeDiff])
  exact ⟨rfl, rfl⟩
def ToV (v : V) : Prop := v.bulk ≤ 1048576 → ∀ (h : Hp) (sl : Value), RdE h v.items sl →
  ACalls Tryz.prog 16 #[.agg #[.int .i64 v.kind, .int .i64 v.num, .string v.str, .int .i64 v.next, sl]] h fun u h' => ∃ s, u = .agg #[.int .i64 v.kind, .int .i64 v.num, .string v.str, .int .i64 v.next, s] ∧ My h h' [(.row 8 (v.items.flatMap edt), s)]
theorem toEntry_c (e : Ky × V) (ih : ToV e.2) (hb : e.2.bulk ≤ 1048576) : ToEntry e := by
  intro h ys r1
  obtain ⟨s1, rfl, q1⟩ := RdL_entry r1
  (refine enter Tryz.func119 rfl rfl (by kernel_rfl) [] ?_; simp only [go_sem, Nat.reduceBEq, Nat.reduceAdd, Nat.reduceLeDiff])
  (refine (toKey_c e.1 _).mono ?_; rintro _ _ ⟨rfl, rfl⟩; simp only [go_sem, Nat.reduceBEq, Nat.reduceAdd, Nat.reduceLeDiff])
  refine (ih hb _ _ q1).mono ?_
  rintro _ h2 ⟨s, rfl, m⟩
  obtain ⟨a, c, rfl, _⟩ := m.row_shape (by decide) e.2.items.length (fm_len edt_len _)
  simp only [go_sem, Nat.reduceBEq, Nat.reduceAdd, Nat.reduceLeDiff]
  refine ⟨_, rfl, rfl, ?_⟩
  simp only [edt_eq, List.zip_cons_cons, List.zip_nil_right, My.raw_iff, one_bool, one_int, one_str, and_self, true_and]
  exact m
theorem toValue_c : ∀ v, ToV v := V.ind fun v ih hb h sl rd => by
  (refine enter Tryz.func16 rfl rfl (by kernel_rfl) [] ?_; simp only [go_sem, Nat.reduceBEq, Nat.reduceAdd, Nat.reduceLeDiff])
  have h1 := V.bulk_eq v
  have hl := bulks_len v.items
  refine (toEntryS_s v.items (fun e he => toEntry_c e (ih e he) (by have := bulks_mem he; omega)) (by omega) _ _ rd).mono ?_
  rintro u h2 m
  obtain ⟨a, c, rfl, _⟩ := m.row_shape (by decide) v.items.length (fm_len edt_len _)
  simp only [go_sem, Nat.reduceBEq, Nat.reduceAdd, Nat.reduceLeDiff]
  exact ⟨_, rfl, m⟩
theorem toV_c (v : V) (hb : v.bulk ≤ 1048576) (h : Hp) (sl : Value) (rd : RdE h v.items sl) :
  ACalls Tryz.prog 16 #[.agg #[.int .i64 v.kind, .int .i64 v.num, .string v.str, .int .i64 v.next, sl]] h fun u h' => ∃ a c, u = .agg #[.int .i64 v.kind, .int .i64 v.num, .string v.str, .int .i64 v.next, .slice a v.items.length c] ∧ My h h' [(.row 8 (v.items.flatMap edt), .slice a v.items.length c)] := by
  refine (toValue_c v hb h sl rd).mono ?_
  rintro _ h2 ⟨s, rfl, m⟩
  obtain ⟨a, c, rfl, _⟩ := m.row_shape (by decide) v.items.length (fm_len edt_len _)
  exact ⟨a, c, rfl, m⟩
theorem toKeyS_c (l : List Ky) (hl : l.length ≤ 1048576) (sl : Value) (h : Hp) (rd : Rd h (.row 3 (l.flatMap Ky.dt)) sl) :
    ACalls Tryz.prog 45 #[sl] h fun u h' => My h h' [(.row 3 (l.flatMap Ky.dt), u)] := by
  refine toKeyS_s l (fun e _ h ys r => ?_) hl sl h rd
  rw [RdL_key r]
  refine (toKey_c e h).mono ?_
  rintro _ _ ⟨rfl, rfl⟩
  refine ⟨_, rfl, rfl, ?_⟩
  simp only [Ky.dt, List.zip_cons_cons, List.zip_nil_right, My.raw_iff, one_bool, one_int, one_str, and_self, true_and]
  exact My.nil (Ext.refl _)
theorem eqKeyS_c (l : List Ky) (hl : l.length ≤ 1048576) (s1 s2 : Value) (h : Hp) (r1 : Rd h (.row 3 (l.flatMap Ky.dt)) s1) (r2 : Rd h (.row 3 (l.flatMap Ky.dt)) s2) :
    ACalls Tryz.prog 47 #[s1, s2] h (Pu (.bool true) h) := by
  refine eqKeyS_s l (fun e _ h ys zs q1 q2 => ?_) (by omega) s1 s2 h r1 r2
  rw [RdL_key q1, RdL_key q2]
  exact eqKey_c e h
end Go.Proofs.YtedfplodobpgfaaGreatDoor
namespace Go.Proofs.YtedfplodobpgfaaGreatDoor
set_option maxRecDepth 8000
open Go Go.Sx
theorem szKey_c (k : Ky) (hk : k.ok) (l : Int) (h0 : 0 ≤ l) (h1 : l ≤ 1048576) (h : Hp) : ACalls Tryz.prog 11 #[.agg #[.bool k.text, .int .i64 k.num, .string k.str], .int .i64 l] h (Pu (.int .i64 (less l k.str.size)) h) := by
  (refine enter Tryz.func11 rfl rfl (by kernel_rfl) [] ?_; simp only [go_sem, Nat.reduceBEq])
  simp only [less_wrap h0 h1 hk.2, go_sem]
  refine Br.intro (fun hb => ?_) (fun hb => ?_) <;> (try simp only [hb, go_sem, Nat.reduceBEq])
  · have hb : l - (k.str.size : Int) < 0 := by simpa using hb
    exact ⟨by unfold less; rw [if_neg (by omega)], rfl⟩
  · have hb : ¬ l - (k.str.size : Int) < 0 := by simpa using hb
    exact ⟨by unfold less; rw [if_pos (by omega)], rfl⟩
def SzV (v : V) : Prop := v.ok → ∀ (sl : Value) (l : Int) (h : Hp), RdE h v.items sl → 0 ≤ l → l ≤ 1048576 →
  ACalls Tryz.prog 12 #[.agg #[.int .i64 v.kind, .int .i64 v.num, .string v.str, .int .i64 v.next, sl], .int .i64 l] h (Pu (.int .i64 (less l v.bulk)) h)
theorem szEntry_c (e : Ky × V) (ih : SzV e.2) (h1 : e.1.ok) (h2 : e.2.ok) (sl : Value) (l : Int) (h : Hp) (rd : RdE h e.2.items sl) (l0 : 0 ≤ l) (l1 : l ≤ 1048576) :
    ACalls Tryz.prog 110 #[.agg #[.bool e.1.text, .int .i64 e.1.num, .string e.1.str, .int .i64 e.2.kind, .int .i64 e.2.num, .string e.2.str, .int .i64 e.2.next, sl], .int .i64 l] h (Pu (.int .i64 (less l (e.1.str.size + e.2.bulk))) h) := by
  (refine enter Tryz.func110 rfl rfl (by kernel_rfl) [] ?_; simp only [go_sem, Nat.reduceBEq, Nat.reduceAdd, Nat.reduceLeDiff])
  (refine (szKey_c _ h1 _ l0 l1 _).mono ?_; rintro _ _ ⟨rfl, rfl⟩; simp only [go_sem, Nat.reduceBEq])
  refine Br.intro (fun hb => ?_) (fun hb => ?_) <;> (try simp only [hb, go_sem, Nat.reduceBEq, Nat.reduceAdd, Nat.reduceLeDiff])
  · have hb : less l e.1.str.size < 0 := by simpa using hb
    exact ⟨by rw [less_neg hb], rfl⟩
  · have hb : 0 ≤ less l e.1.str.size := by simpa using hb
    (refine (ih h2 _ _ _ rd hb (less_le l1)).mono ?_; rintro _ _ ⟨rfl, rfl⟩; simp only [go_sem, Nat.reduceBEq])
    rw [less_add hb]
    refine Br.intro (fun hc => ?_) (fun hc => ?_) <;> (try simp only [hc, go_sem, Nat.reduceBEq])
    · have hc : less l (e.1.str.size + e.2.bulk) < 0 := by simpa using hc
      exact ⟨by rw [less_is hc], rfl⟩
    · exact ⟨rfl, rfl⟩
def wsum (es : List (Ky × V)) : Nat := (es.map fun e => e.1.str.size + e.2.bulk).sum
theorem wsum_snoc {es : List (Ky × V)} {i : Nat} {e : Ky × V} (hi : es[i]? = some e) : wsum (es.take (i + 1)) = wsum (es.take i) + (e.1.str.size + e.2.bulk) := by
  rw [List.take_add_one, hi]; simp [wsum]
theorem wsum_split (es : List (Ky × V)) (k : Nat) : wsum es = wsum (es.take k) + wsum (es.drop k) := by
  unfold wsum; rw [← List.sum_append, ← List.map_append, List.take_append_drop]
theorem bulks_eq : ∀ es : List (Ky × V), V.bulks es = es.length + wsum es
  | [] => rfl
  | (k, v) :: r => by simp only [V.bulks, bulks_eq r, wsum, List.length_cons, List.map_cons, List.sum_cons]; omega
theorem szEntryS_c (es : List (Ky × V)) (ih : ∀ e ∈ es, SzV e.2) (ok : V.oks es) (hl : es.length ≤ maxLen) (sl : Value) (l : Int) (h : Hp) (rd : RdE h es sl) (l0 : 0 ≤ l) (l1 : l ≤ 1048576) :
    ACalls Tryz.prog 51 #[sl, .int .i64 l] h (Pu (.int .i64 (less l (V.bulks es))) h) := by
  obtain ⟨a, c, xs, rfl, hc, hr, hat⟩ := rd.rows (by decide) es.length (fm_len edt_len es)
  (refine enter Tryz.func51 rfl rfl (by kernel_rfl) [] ?_; simp only [go_sem, Nat.reduceBEq])
  simp only [less_wrap l0 l1 hl, go_sem]
  refine Br.intro (fun hb => ?_) (fun hb => ?_) <;> (try simp only [hb, go_sem, Nat.reduceBEq])
  · have hb : l - (es.length : Int) < 0 := by simpa using hb
    exact ⟨by rw [bulks_eq, less_neg (by unfold less; split <;> omega)], rfl⟩
  · have hb : ¬ l - (es.length : Int) < 0 := by simpa using hb
    have e0 : l - (es.length : Int) = less l (es.length + wsum (es.take 0)) := by unfold less; simp [wsum]; omega
    rw [e0]
    refine aloop (ι := Nat) (fun i => [(5, .val (.int .i64 (i : Nat))), (1, .val (.int .i64 (less l (es.length + wsum (es.take i))))), (0, .val (.slice a es.length c))]) (fun _ => []) (fun i h' => i ≤ es.length ∧ 0 ≤ less l (es.length + wsum (es.take i)) ∧ h = h') (fun i => es.length - i) 0
      ⟨Nat.zero_le _, by rw [← e0]; omega, rfl⟩ (by repeat (first | exact wkF_e | refine wkF_c rfl ?_)) wkB_e rfl ?_
    intro i h1 hx
    have hx : i ≤ es.length ∧ 0 ≤ less l (es.length + wsum (es.take i)) ∧ h = h1 := hx
    have hi := hx.1
    have hf := hx.2.1
    have he := hx.2.2
    clear hx
    subst he
    simp only [go_sem, Nat.reduceBEq]
    refine Br.intro (fun hb => ?_) (fun hb => ?_) <;> (try simp only [hb, go_sem, Nat.reduceBEq])
    · have hb : i < es.length := by simpa using hb
      obtain ⟨b, off, rfl, hat'⟩ := hat (by omega)
      obtain ⟨e, he, hm⟩ := get_lt hb
      have hok := V.oks_mem ok hm
      simp only [ix_nat hb, go_sem, Nat.reduceBEq]
      refine hsem_entry tyS132 hat' hr he rfl fun sl' rd' => ?_
      simp only [go_sem, Nat.reduceBEq]
      (refine (szEntry_c e (ih e hm) hok.1 hok.2 sl' _ _ rd' hf (less_le l1)).mono ?_; rintro _ _ ⟨rfl, rfl⟩; simp only [go_sem, Nat.reduceBEq])
      rw [less_add hf, Nat.add_assoc, ← wsum_snoc he]
      refine Br.intro (fun hc => ?_) (fun hc => ?_) <;> (try simp only [hc, go_sem, Nat.reduceBEq])
      · have hc : less l (es.length + wsum (es.take (i + 1))) < 0 := by simpa using hc
        refine ⟨?_, rfl⟩
        rw [bulks_eq, wsum_split es (i + 1), ← Nat.add_assoc, less_neg hc]
      · have hc : 0 ≤ less l (es.length + wsum (es.take (i + 1))) := by simpa using hc
        rw [wrap_succ (i := i) (by unfold maxLen at hl; omega)]
        exact Again.intro (i + 1) (by first | omega | (simp only; omega)) ⟨hb, hc, rfl⟩ (by repeat (first | exact wkF_e | refine wkF_c rfl ?_)) wkB_e rfl
    · have hb : i = es.length := by simp at hb; omega
      subst hb
      refine ⟨?_, rfl⟩
      rw [List.take_length, bulks_eq]
theorem szValue_c : ∀ v, SzV v := V.ind fun v ih ok sl l h rd l0 l1 => by
  (refine enter Tryz.func12 rfl rfl (by kernel_rfl) [] ?_; simp only [go_sem, Nat.reduceBEq])
  simp only [less_wrap l0 l1 (V.ok_str ok), go_sem]
  refine Br.intro (fun hb => ?_) (fun hb => ?_) <;> (try simp only [hb, go_sem, Nat.reduceBEq])
  · have hb : l - (v.str.size : Int) < 0 := by simpa using hb
    exact ⟨by rw [V.bulk_eq, less_neg (by unfold less; split <;> omega)], rfl⟩
  · have hb : ¬ l - (v.str.size : Int) < 0 := by simpa using hb
    have e0 : l - (v.str.size : Int) = less l v.str.size := by unfold less; split <;> omega
    rw [e0]
    (refine (szEntryS_c v.items ih (V.ok_items ok) (V.ok_len ok) sl _ _ rd (by omega) (less_le l1)).mono ?_; rintro _ _ ⟨rfl, rfl⟩; simp only [go_sem, Nat.reduceBEq])
    rw [less_add (by omega), ← V.bulk_eq]
    refine Br.intro (fun hc => ?_) (fun hc => ?_) <;> (try simp only [hc, go_sem, Nat.reduceBEq])
    · have hc : less l v.bulk < 0 := by simpa using hc
      exact ⟨by rw [less_is hc], rfl⟩
    · exact ⟨rfl, rfl⟩
end Go.Proofs.YtedfplodobpgfaaGreatDoor
namespace Go.Proofs.YtedfplodobpgfaaGreatDoor
set_option maxRecDepth 8000
open Go Go.Sx
theorem dig_byte (k : Nat) : IntKind.u8.wrap (IntKind.i64.wrap (48 + ((k : Nat) : Int).tmod 10)) = (((UInt8.ofNat (48 + k % 10)).toNat : Nat) : Int) := by
  have h1 : ((k : Nat) : Int).tmod 10 = ((k % 10 : Nat) : Int) := by rw [Int.tmod_eq_emod_of_nonneg (by omega)]; rfl
  rw [h1, IntWalk.i64_in _ (by omega)]
  have h2 : (UInt8.ofNat (48 + k % 10)).toNat = 48 + k % 10 := by
    rw [UInt8.toNat_ofNat']; omega
  rw [h2]
  have : k % 10 < 10 := Nat.mod_lt _ (by omega)
  generalize k % 10 = r at *
  have h3 : ∀ r : Nat, r < 10 → IntKind.u8.wrap (48 + (r : Int)) = ((48 + r : Nat) : Int) := by decide
  exact h3 r this
theorem quo10 (k : Nat) (hk : k ≤ 4611686018427387904) : IntKind.i64.wrap (((k : Nat) : Int).tdiv 10) = ((k / 10 : Nat) : Int) := by
  have h1 : ((k : Nat) : Int).tdiv 10 = ((k / 10 : Nat) : Int) := by rw [Int.tdiv_eq_ediv_of_nonneg (by omega)]; rfl
  rw [h1, IntWalk.i64_in _ (by omega)]
theorem markText_c (k : Nat) (hk : k ≤ 4611686018427387904) (h : Hp) : ACalls Tryz.prog 97 #[.int .i64 (k : Nat)] h (Is (.string (mtext k)) h) := by
  (refine enter Tryz.func97 rfl rfl (by kernel_rfl) [] ?_; simp only [go_sem, Nat.reduceBEq])
  refine Br.intro (fun hb => ?_) (fun hb => ?_) <;> (try simp only [hb, go_sem, Nat.reduceBEq])
  · have hb : k = 0 := by have := of_decide_eq_true hb; omega
    subst hb
    exact ⟨by rw [mtext, if_pos rfl], Ext.refl _⟩
  · have hb : 0 < k := by have := of_decide_eq_false hb; omega
    refine aloop (ι := Nat × List UInt8) (fun x => [(0, .val (.int .i64 (x.1 : Nat))), (3, .val (.string ⟨x.2.toArray⟩))]) (fun _ => []) (fun x h' => mdig x.1 x.2 = mdig k [] ∧ x.2.length + x.1 ≤ k ∧ Ext h h') (fun x => x.1) (k, [])
      ⟨rfl, by simp, Ext.refl _⟩ (by repeat (first | exact wkF_e | refine wkF_c rfl ?_)) wkB_e rfl ?_
    rintro ⟨q, l⟩ h1 ⟨hq, hl, he⟩
    have hl : l.length + q ≤ k := hl
    have hq : mdig q l = mdig k [] := hq
    simp only [go_sem, Nat.reduceBEq]
    refine Br.intro (fun hc => ?_) (fun hc => ?_) <;> (try simp only [hc, go_sem, Nat.reduceBEq, Int.reduceEq, not_false_eq_true])
    · have hc : 0 < q := by have := of_decide_eq_true hc; omega
      simp only [dig_byte, go_sem]
      refine bytes_lit1 slT160 (UInt8.ofNat (48 + q % 10)) fun u2 h2 m2 => ?_
      simp only [go_sem, Nat.reduceBEq]
      refine cvK_bytes bytT160 isStr9 m2.rd ?_
      simp only [quo10 q (by omega), go_sem, Nat.reduceBEq, Int.reduceEq, not_false_eq_true]
      refine ⟨by rw [i64max]; simp; omega, ?_⟩
      exact Again.intro (q / 10, UInt8.ofNat (48 + q % 10) :: l) (by simp only; omega) ⟨by rw [← hq, mdig_step hc], by simp only [List.length_cons]; omega, he.trans m2.ext⟩ (by repeat (first | exact wkF_e | refine wkF_c rfl ?_)) wkB_e rfl
    · have hc : q = 0 := by have := of_decide_eq_false hc; omega
      subst hc
      rw [mdig_zero] at hq
      refine ⟨by rw [i64max]; simp; omega, ?_⟩
      refine ⟨?_, he⟩
      rw [mtext, if_neg (by omega), ← hq]
      rfl
end Go.Proofs.YtedfplodobpgfaaGreatDoor
namespace Go.Proofs.YtedfplodobpgfaaGreatDoor
set_option maxRecDepth 8000
open Go Go.Sx
def MkEntryS (l : List (Ky × V)) : Prop := ∀ (k : Nat) (_ : k + cntEs l ≤ 4611686018427387904) (sl : Value) (bag : Bag) (h0 h : Hp) (_ : My h0 h ((.row 8 (l.flatMap edt), sl) :: bag)),
    ACalls Tryz.prog 71 #[sl, .int .i64 (k : Nat)] h fun v h' => v = .int .i64 ((k + cntEs l : Nat)) ∧ My h0 h' ((.row 8 ((mkEs l k).flatMap edt), sl) :: bag)
def HdEntryS (l : List (Ky × V)) : Prop := ∀ (k : Nat) (_ : k + cntEs l ≤ 4611686018427387904) (sl : Value) (h : Hp) (_ : Rd h (.row 8 ((mkEs l k).flatMap edt)) sl),
    ACalls Tryz.prog 87 #[sl, .int .i64 (k : Nat)] h (Is (.int .i64 ((k + cntEs l : Nat))) h)
theorem markEntryS_s (l : List (Ky × V)) (k : Nat) (hk : k + cntEs l ≤ 4611686018427387904) (ih : ∀ e ∈ l, MkEntryS (e.2.items)) (sl : Value) (bag : Bag) (h0 h : Hp) (m : My h0 h ((.row 8 (l.flatMap edt), sl) :: bag)) :
    ACalls Tryz.prog 71 #[sl, .int .i64 (k : Nat)] h fun v h' => v = .int .i64 ((k + cntEs l : Nat)) ∧ My h0 h' ((.row 8 ((mkEs l k).flatMap edt), sl) :: bag) := by
  obtain ⟨a, c, rfl, hc, hcm, hat⟩ := m.row_shape (by decide) l.length (fm_len edt_len l)
  have hlm : l.length ≤ maxLen := Nat.le_trans hc hcm
  (refine enter Tryz.func71 rfl rfl (by kernel_rfl) [] ?_; simp only [go_sem])
  refine aloop (ι := Nat) (fun i => [(5, .val (.int .i64 (i : Nat))), (1, .val (.int .i64 ((k + cntEs (l.take i) : Nat)))), (0, .val (.slice a l.length c))]) (fun _ => []) (fun i h' => i ≤ l.length ∧ My h0 h' ((.row 8 ((mkEs (l.take i) k).flatMap edt ++ (l.drop i).flatMap edt), .slice a l.length c) :: bag)) (fun i => l.length - i) 0
    ⟨Nat.zero_le _, m⟩ (by repeat (first | exact wkF_e | refine wkF_c rfl ?_)) wkB_e rfl ?_
  rintro i h1 ⟨hi, m1⟩
  have hi : i ≤ l.length := hi
  simp only [go_sem, Nat.reduceBEq]
  refine Br.intro (fun hb => ?_) (fun hb => ?_) <;> (try simp only [hb, go_sem, Nat.reduceBEq, Int.reduceEq, not_false_eq_true])
  · have hb : i < l.length := by simpa using hb
    obtain ⟨b, rfl⟩ := hat (by omega)
    have hpos : 0 < l.length := by omega
    obtain ⟨e, he, hm⟩ := get_lt hb
    have hsn := cntEs_snoc he
    have hms := mkEs_snoc he k
    have hle := cntEs_le he
    have hA : ((mkEs (l.take i) k).flatMap edt).length = i * 8 := by rw [fm_len edt_len, mkEs_len, List.length_take]; congr 1; omega
    have m1 : My h0 h1 ((.row 8 ((mkEs (l.take i) k).flatMap edt ++ (l.drop i).flatMap edt), .slice (some ⟨b, 0, none⟩) l.length c) :: bag) := m1
    rw [drop_cons he, List.flatMap_cons, edt_eq] at m1
    have fin : ∀ h' , My h0 h' ((.row 8 ((mkEs (l.take i) k).flatMap edt ++ (edt (mkE (k + cntEs (l.take i)) e) ++ (l.drop (i + 1)).flatMap edt)), .slice (some ⟨b, 0, none⟩) l.length c) :: bag) → My h0 h' ((.row 8 ((mkEs (l.take (i + 1)) k).flatMap edt ++ (l.drop (i + 1)).flatMap edt), .slice (some ⟨b, 0, none⟩) l.length c) :: bag) := fun h' m => by
      rw [hms, List.flatMap_append, List.flatMap_cons, List.flatMap_nil, List.append_nil, List.append_assoc]; exact m
    rw [edt_eq] at fin
    have hq0 : k + cntEs (l.take i) ≤ 4611686018427387904 := by omega
    generalize hq : k + cntEs (l.take i) = q at *
    generalize (mkEs (l.take i) k).flatMap edt = A at *
    generalize hR : (l.drop (i + 1)).flatMap edt = R at *
    have wq0 : IntKind.i64.wrap (((q : Nat) : Int) + 1) = ((q + 1 : Nat) : Int) := by rw [IntWalk.i64_in _ (by omega)]; rfl
    have wq1 : IntKind.i64.wrap (((q + 1 : Nat) : Int) + 1) = ((q + 2 : Nat) : Int) := by rw [IntWalk.i64_in _ (by omega)]; rfl
    have wq2 : IntKind.i64.wrap (((q + 2 : Nat) : Int) + 1) = ((q + 3 : Nat) : Int) := by rw [IntWalk.i64_in _ (by omega)]; rfl
    have wq3 : IntKind.i64.wrap (((q + 3 : Nat) : Int) + 1) = ((q + 4 : Nat) : Int) := by rw [IntWalk.i64_in _ (by omega)]; rfl
    have wq4 : IntKind.i64.wrap (((q + 4 : Nat) : Int) + 1) = ((q + 5 : Nat) : Int) := by rw [IntWalk.i64_in _ (by omega)]; rfl
    have wq5 : IntKind.i64.wrap (((q + 5 : Nat) : Int) + 1) = ((q + 6 : Nat) : Int) := by rw [IntWalk.i64_in _ (by omega)]; rfl
    have wq6 : IntKind.i64.wrap (((q + 6 : Nat) : Int) + 1) = ((q + 7 : Nat) : Int) := by rw [IntWalk.i64_in _ (by omega)]; rfl
    have wsu := wrap_succ (i := i) (by unfold maxLen at hlm; omega)
    simp only [ix_nat hb, go_sem, Nat.reduceBEq]
    refine hsem_my_cell (A := A) (R := R) (j := 0) tyS4 rfl m1 hpos (Nat.le_of_ble_eq_true rfl) rfl rfl (by omega) fun h2 m2 => ?_
    simp only [ix_nat hb, wq0, go_sem, Nat.reduceBEq]
    refine hsem_my_cell (A := A) (R := R) (j := 1) tyS3 rfl m2 hpos (Nat.le_of_ble_eq_true rfl) rfl rfl (by omega) fun h3 m3 => ?_
    simp only [wq1, go_sem, Nat.reduceBEq]
    refine (markText_c (q + 2) (by omega) _).mono ?_
    rintro _ h4 ⟨rfl, x4⟩
    have m4 := m3.mono x4
    simp only [ix_nat hb, go_sem, Nat.reduceBEq, Nat.reduceAdd]
    refine hsem_my_cell (A := A) (R := R) (j := 2) tyS9 rfl m4 hpos (Nat.le_of_ble_eq_true rfl) rfl rfl (by omega) fun h5 m5 => ?_
    simp only [ix_nat hb, wq2, go_sem, Nat.reduceBEq, Nat.reduceAdd]
    refine hsem_my_cell (A := A) (R := R) (j := 3) tyS3 rfl m5 hpos (Nat.le_of_ble_eq_true rfl) rfl rfl (by omega) fun h6 m6 => ?_
    simp only [ix_nat hb, wq3, go_sem, Nat.reduceBEq, Nat.reduceAdd]
    refine hsem_my_cell (A := A) (R := R) (j := 4) tyS3 rfl m6 hpos (Nat.le_of_ble_eq_true rfl) rfl rfl (by omega) fun h7 m7 => ?_
    simp only [wq4, go_sem, Nat.reduceBEq]
    refine (markText_c (q + 5) (by omega) _).mono ?_
    rintro _ h8 ⟨rfl, x8⟩
    have m8 := m7.mono x8
    simp only [ix_nat hb, go_sem, Nat.reduceBEq, Nat.reduceAdd]
    refine hsem_my_cell (A := A) (R := R) (j := 5) tyS9 rfl m8 hpos (Nat.le_of_ble_eq_true rfl) rfl rfl (by omega) fun h9 m9 => ?_
    simp only [ix_nat hb, wq5, go_sem, Nat.reduceBEq, Nat.reduceAdd]
    refine hsem_my_cell (A := A) (R := R) (j := 6) tyS3 rfl m9 hpos (Nat.le_of_ble_eq_true rfl) rfl rfl (by omega) fun h10 m10 => ?_
    simp only [ix_nat hb, wq6, go_sem, Nat.reduceBEq, Nat.reduceAdd]
    obtain ⟨u7, m11⟩ := m10.openAt (A := A) (R := R) (j := 7) rfl
    refine hsem_my_get (A := A) (R := R) (j := 7) tyS42 m11.swap hpos (d := .raw u7) rfl (by omega) fun u' hu' => ?_
    obtain ⟨rfl, _⟩ := Rd_raw.1 hu'
    simp only [go_sem, Nat.reduceBEq]
    refine (ih e hm (q + 7) (by omega) _ _ _ _ m11).mono ?_
    rintro _ h11 ⟨rfl, m12⟩
    have m13 := m12.closeAt (A := A) (R := R) (j := 7) rfl
    generalize hq7 : q + 7 + cntEs (e.2.items) = q7 at *
    simp only [go_sem, Nat.reduceBEq]
    rw [wsu]
    have hend : k + cntEs (l.take (i + 1)) = q7 := by omega
    refine Again.intro (i + 1) (by first | omega | (simp only; omega)) ⟨hb, ?_⟩ (by simp only [hend]; exact (by repeat (first | exact wkF_e | refine wkF_c rfl ?_))) wkB_e rfl
    have m14 := fin _ m13
    rw [← hR] at m14
    exact m14
  · have hb : i = l.length := by simp at hb; omega
    subst hb
    have m1 : My h0 h1 ((.row 8 ((mkEs (l.take l.length) k).flatMap edt ++ (l.drop l.length).flatMap edt), .slice a l.length c) :: bag) := m1
    rw [List.take_length, List.drop_length, List.flatMap_nil, List.append_nil] at m1
    rw [List.take_length]
    exact ⟨rfl, m1⟩
theorem heldEntryS_s (l : List (Ky × V)) (k : Nat) (hk : k + cntEs l ≤ 4611686018427387904) (ih : ∀ e ∈ l, HdEntryS (e.2.items)) (sl : Value) (h : Hp) (rd : Rd h (.row 8 ((mkEs l k).flatMap edt)) sl) :
    ACalls Tryz.prog 87 #[sl, .int .i64 (k : Nat)] h (Is (.int .i64 ((k + cntEs l : Nat))) h) := by
  have hml := mkEs_len l k
  obtain ⟨a, c, xs, rfl, hc, hr, hat⟩ := rd.rows (by decide) l.length (by rw [fm_len edt_len, hml])
  (refine enter Tryz.func87 rfl rfl (by kernel_rfl) [] ?_; simp only [go_sem])
  refine aloop (ι := Nat) (fun i => [(5, .val (.int .i64 (i : Nat))), (1, .val (.int .i64 ((k + cntEs (l.take i) : Nat)))), (0, .val (.slice a l.length c))]) (fun _ => []) (fun i h' => i ≤ l.length ∧ Ext h h') (fun i => l.length - i) 0
    ⟨Nat.zero_le _, Ext.refl _⟩ (by repeat (first | exact wkF_e | refine wkF_c rfl ?_)) wkB_e rfl ?_
  rintro i h1 ⟨hi, x1⟩
  have hi : i ≤ l.length := hi
  have x1 : Ext h h1 := x1
  simp only [go_sem, Nat.reduceBEq]
  refine Br.intro (fun hb => ?_) (fun hb => ?_) <;> (try simp only [hb, go_sem, Nat.reduceBEq])
  · have hb : i < l.length := by simpa using hb
    obtain ⟨b, off, rfl, hat0⟩ := hat (by omega)
    have hat1 := hat0.mono x1
    have hr1 := hr.mono x1
    obtain ⟨e, he, hm⟩ := get_lt hb
    have hsn := cntEs_snoc he
    have hge := mkEs_get he k
    have hle := cntEs_le he
    have hq0 : k + cntEs (l.take i) ≤ 4611686018427387904 := by omega
    have hlm : l.length ≤ 4611686018427387904 := by have := cntEs_pos l; omega
    have wsu := wrap_succ (i := i) (by omega)
    generalize hq : k + cntEs (l.take i) = q at *
    have wq0 : IntKind.i64.wrap (((q : Nat) : Int) + 1) = ((q + 1 : Nat) : Int) := by rw [IntWalk.i64_in _ (by omega)]; rfl
    have wq1 : IntKind.i64.wrap (((q + 1 : Nat) : Int) + 1) = ((q + 2 : Nat) : Int) := by rw [IntWalk.i64_in _ (by omega)]; rfl
    have wq2 : IntKind.i64.wrap (((q + 2 : Nat) : Int) + 1) = ((q + 3 : Nat) : Int) := by rw [IntWalk.i64_in _ (by omega)]; rfl
    have wq3 : IntKind.i64.wrap (((q + 3 : Nat) : Int) + 1) = ((q + 4 : Nat) : Int) := by rw [IntWalk.i64_in _ (by omega)]; rfl
    have wq4 : IntKind.i64.wrap (((q + 4 : Nat) : Int) + 1) = ((q + 5 : Nat) : Int) := by rw [IntWalk.i64_in _ (by omega)]; rfl
    have wq5 : IntKind.i64.wrap (((q + 5 : Nat) : Int) + 1) = ((q + 6 : Nat) : Int) := by rw [IntWalk.i64_in _ (by omega)]; rfl
    have wq6 : IntKind.i64.wrap (((q + 6 : Nat) : Int) + 1) = ((q + 7 : Nat) : Int) := by rw [IntWalk.i64_in _ (by omega)]; rfl
    simp only [ix_nat hb, go_sem, Nat.reduceBEq]
    refine hsem_cell (f := edt) (o := 0) edt_len tyS4 hat1 hr1 hge (by decide) (by rw [edt_eq]; rfl) ?_ fun y0 r0 => ?_
    · omega
    obtain ⟨rfl, _⟩ := Rd_raw.1 r0
    simp only [go_sem, Nat.reduceBEq, Int.reduceEq, not_false_eq_true]
    simp only [mkE, mbit, decide_true, Bool.not_true, go_sem]
    simp only [ix_nat hb, wq0, go_sem, Nat.reduceBEq]
    refine hsem_cell (f := edt) (o := 1) edt_len tyS3 hat1 hr1 hge (by decide) (by rw [edt_eq]; rfl) ?_ fun y1 r1 => ?_
    · omega
    obtain ⟨rfl, _⟩ := Rd_raw.1 r1
    simp only [go_sem, Nat.reduceBEq]
    simp only [mkE, decide_true, Bool.not_true, wq1, go_sem, Nat.reduceBEq]
    refine regionD_still (lb := []) (pl := [39]) h1 (Ext.refl _) (by kernel_rfl) ?_
    simp only [ix_nat hb, go_sem, Nat.reduceBEq, Nat.reduceAdd]
    refine hsem_cell (f := edt) (o := 2) edt_len tyS9 hat1 hr1 hge (by decide) (by rw [edt_eq]; rfl) ?_ fun y2 r2 => ?_
    · omega
    obtain ⟨rfl, _⟩ := Rd_raw.1 r2
    simp only [go_sem, Nat.reduceBEq]
    refine (markText_c (q + 2) (by omega) _).mono ?_
    rintro _ h2 ⟨rfl, x2⟩
    simp only [go_sem, Nat.reduceBEq]
    refine ⟨x2, ?_⟩
    have hat2 := hat1.mono x2
    have hr2 := hr1.mono x2
    have X2 := x1.trans x2
    simp only [mkE, decide_true, Bool.not_true, ix_nat hb, wq2, go_sem, Nat.reduceBEq, Nat.reduceAdd]
    refine hsem_cell (f := edt) (o := 3) edt_len tyS3 hat2 hr2 hge (by decide) (by rw [edt_eq]; rfl) ?_ fun y3 r3 => ?_
    · omega
    obtain ⟨rfl, _⟩ := Rd_raw.1 r3
    simp only [go_sem, Nat.reduceBEq]
    simp only [mkE, decide_true, Bool.not_true, ix_nat hb, wq3, go_sem, Nat.reduceBEq, Nat.reduceAdd]
    refine hsem_cell (f := edt) (o := 4) edt_len tyS3 hat2 hr2 hge (by decide) (by rw [edt_eq]; rfl) ?_ fun y4 r4 => ?_
    · omega
    obtain ⟨rfl, _⟩ := Rd_raw.1 r4
    simp only [go_sem, Nat.reduceBEq]
    simp only [mkE, decide_true, Bool.not_true, wq4, go_sem, Nat.reduceBEq]
    refine regionD_still (lb := []) (pl := [70]) h2 (Ext.refl _) (by kernel_rfl) ?_
    simp only [ix_nat hb, go_sem, Nat.reduceBEq, Nat.reduceAdd]
    refine hsem_cell (f := edt) (o := 5) edt_len tyS9 hat2 hr2 hge (by decide) (by rw [edt_eq]; rfl) ?_ fun y5 r5 => ?_
    · omega
    obtain ⟨rfl, _⟩ := Rd_raw.1 r5
    simp only [go_sem, Nat.reduceBEq]
    refine (markText_c (q + 5) (by omega) _).mono ?_
    rintro _ h3 ⟨rfl, x3⟩
    simp only [go_sem, Nat.reduceBEq]
    refine ⟨x3, ?_⟩
    have hat3 := hat2.mono x3
    have hr3 := hr2.mono x3
    have X3 := X2.trans x3
    simp only [mkE, decide_true, Bool.not_true, ix_nat hb, wq5, go_sem, Nat.reduceBEq, Nat.reduceAdd]
    refine hsem_cell (f := edt) (o := 6) edt_len tyS3 hat3 hr3 hge (by decide) (by rw [edt_eq]; rfl) ?_ fun y6 r6 => ?_
    · omega
    obtain ⟨rfl, _⟩ := Rd_raw.1 r6
    simp only [go_sem, Nat.reduceBEq]
    simp only [mkE, decide_true, Bool.not_true, ix_nat hb, wq6, go_sem, Nat.reduceBEq, Nat.reduceAdd]
    refine hsem_cell (f := edt) (o := 7) edt_len tyS42 hat3 hr3 hge (by decide) (by rw [edt_eq]; rfl) ?_ fun y7 r7 => ?_
    · omega
    simp only [go_sem, Nat.reduceBEq]
    refine (ih e hm (q + 7) (by omega) _ _ r7).mono ?_
    rintro _ h4 ⟨rfl, x4⟩
    have hat4 := hat3.mono x4
    have hr4 := hr3.mono x4
    have X4 := X3.trans x4
    generalize hq7 : q + 7 + cntEs (e.2.items) = q7 at *
    have hneg7 : decide (((q7 : Nat) : Int) < 0) = false := decide_eq_false (by omega)
    simp only [hneg7, go_sem, Nat.reduceBEq]
    rw [wsu]
    have hend : k + cntEs (l.take (i + 1)) = q7 := by omega
    exact Again.intro (i + 1) (by first | omega | (simp only; omega)) ⟨hb, X4⟩ (by simp only [hend]; exact (by repeat (first | exact wkF_e | refine wkF_c rfl ?_))) wkB_e rfl
  · have hb : i = l.length := by simp at hb; omega
    subst hb
    rw [List.take_length]
    exact ⟨rfl, x1⟩
theorem markV_c : ∀ v : V, MkEntryS v.items := V.ind fun v ih k hk sl bag h0 h m => markEntryS_s v.items k hk ih sl bag h0 h m
theorem heldV_c : ∀ v : V, HdEntryS v.items := V.ind fun v ih k hk sl h rd => heldEntryS_s v.items k hk ih sl h rd
theorem markEntryS_c (l : List (Ky × V)) (k : Nat) (hk : k + cntEs l ≤ 4611686018427387904) (sl : Value) (bag : Bag) (h0 h : Hp) (m : My h0 h ((.row 8 (l.flatMap edt), sl) :: bag)) :
    ACalls Tryz.prog 71 #[sl, .int .i64 (k : Nat)] h fun v h' => v = .int .i64 ((k + cntEs l : Nat)) ∧ My h0 h' ((.row 8 ((mkEs l k).flatMap edt), sl) :: bag) := markEntryS_s l k hk (fun e _ => markV_c e.2) sl bag h0 h m
theorem heldEntryS_c (l : List (Ky × V)) (k : Nat) (hk : k + cntEs l ≤ 4611686018427387904) (sl : Value) (h : Hp) (rd : Rd h (.row 8 ((mkEs l k).flatMap edt)) sl) :
    ACalls Tryz.prog 87 #[sl, .int .i64 (k : Nat)] h (Is (.int .i64 ((k + cntEs l : Nat))) h) := heldEntryS_s l k hk (fun e _ => heldV_c e.2) sl h rd
theorem markValue_c (v : V) (k : Nat) (hk : k + cntEs v.items ≤ 4611686018427387904) (sl : Value) (bag : Bag) (h0 h : Hp) (m : My h0 h ((.row 8 (v.items.flatMap edt), sl) :: bag)) :
    ACalls Tryz.prog 21 #[.agg #[.int .i64 v.kind, .int .i64 v.num, .string v.str, .int .i64 v.next, sl], .int .i64 (k : Nat)] h fun u h' => u = .int .i64 ((k + cntEs v.items : Nat)) ∧ My h0 h' ((.row 8 ((mkEs v.items k).flatMap edt), sl) :: bag) := by
  (refine enter Tryz.func21 rfl rfl (by kernel_rfl) [] ?_; simp only [go_sem, Nat.reduceBEq])
  refine (markEntryS_c v.items k hk _ _ _ _ m).mono ?_
  rintro _ h1 ⟨rfl, m1⟩
  simp only [go_sem, Nat.reduceBEq]
  first | exact m1 | exact ⟨rfl, m1⟩
theorem heldValue_c (v : V) (a b x : Int) (s : ByteArray) (k : Nat) (hk : k + cntEs v.items ≤ 4611686018427387904) (sl : Value) (h : Hp) (rd : Rd h (.row 8 ((mkEs v.items k).flatMap edt)) sl) :
    ACalls Tryz.prog 34 #[.agg #[.int .i64 a, .int .i64 b, .string s, .int .i64 x, sl], .int .i64 (k : Nat)] h (Is (.int .i64 ((k + cntEs v.items : Nat))) h) := by
  (refine enter Tryz.func34 rfl rfl (by kernel_rfl) [] ?_; simp only [go_sem, Nat.reduceBEq])
  refine (heldEntryS_c v.items k hk _ _ rd).mono ?_
  rintro _ h1 ⟨rfl, x1⟩
  have hneg : decide (((k + cntEs v.items : Nat) : Int) < 0) = false := decide_eq_false (by omega)
  simp only [hneg, go_sem, Nat.reduceBEq]
  exact ⟨rfl, x1⟩
end Go.Proofs.YtedfplodobpgfaaGreatDoor
namespace Go.Proofs.YtedfplodobpgfaaGreatDoor
set_option maxRecDepth 8000
open Go Go.Sx
theorem markSlotS_c (l : List (Sl)) (k : Nat) (hk : k + cntG cS l ≤ 4611686018427387904) (sl : Value) (bag : Bag) (h0 h : Hp) (m : My h0 h ((.row 10 (l.flatMap Sl.dt), sl) :: bag)) :
    ACalls Tryz.prog 70 #[sl, .int .i64 (k : Nat)] h fun v h' => v = .int .i64 ((k + cntG cS l : Nat)) ∧ My h0 h' ((.row 10 ((mkG cS mkS l k).flatMap Sl.dt), sl) :: bag) := by
  obtain ⟨a, c, rfl, hc, hcm, hat⟩ := m.row_shape (by decide) l.length (fm_len Sl.dt_len l)
  have hlm : l.length ≤ maxLen := Nat.le_trans hc hcm
  (refine enter Tryz.func70 rfl rfl (by kernel_rfl) [] ?_; simp only [go_sem])
  refine aloop (ι := Nat) (fun i => [(5, .val (.int .i64 (i : Nat))), (1, .val (.int .i64 ((k + cntG cS (l.take i) : Nat)))), (0, .val (.slice a l.length c))]) (fun _ => []) (fun i h' => i ≤ l.length ∧ My h0 h' ((.row 10 ((mkG cS mkS (l.take i) k).flatMap Sl.dt ++ (l.drop i).flatMap Sl.dt), .slice a l.length c) :: bag)) (fun i => l.length - i) 0
    ⟨Nat.zero_le _, m⟩ (by repeat (first | exact wkF_e | refine wkF_c rfl ?_)) wkB_e rfl ?_
  rintro i h1 ⟨hi, m1⟩
  have hi : i ≤ l.length := hi
  simp only [go_sem, Nat.reduceBEq]
  refine Br.intro (fun hb => ?_) (fun hb => ?_) <;> (try simp only [hb, go_sem, Nat.reduceBEq, Int.reduceEq, not_false_eq_true])
  · have hb : i < l.length := by simpa using hb
    obtain ⟨b, rfl⟩ := hat (by omega)
    have hpos : 0 < l.length := by omega
    obtain ⟨e, he, hm⟩ := get_lt hb
    have hsn := cntG_snoc (c := cS) he
    rw [cS] at hsn
    have hms := mkG_snoc (c := cS) (m := mkS) he k
    have hle := cntG_le (c := cS) he
    rw [cS] at hle
    have hA : ((mkG cS mkS (l.take i) k).flatMap Sl.dt).length = i * 10 := by rw [fm_len Sl.dt_len, mkG_len, List.length_take]; congr 1; omega
    have m1 : My h0 h1 ((.row 10 ((mkG cS mkS (l.take i) k).flatMap Sl.dt ++ (l.drop i).flatMap Sl.dt), .slice (some ⟨b, 0, none⟩) l.length c) :: bag) := m1
    rw [drop_cons he, List.flatMap_cons, Sl.dt_eq] at m1
    have fin : ∀ h' , My h0 h' ((.row 10 ((mkG cS mkS (l.take i) k).flatMap Sl.dt ++ (Sl.dt (mkS (k + cntG cS (l.take i)) e) ++ (l.drop (i + 1)).flatMap Sl.dt)), .slice (some ⟨b, 0, none⟩) l.length c) :: bag) → My h0 h' ((.row 10 ((mkG cS mkS (l.take (i + 1)) k).flatMap Sl.dt ++ (l.drop (i + 1)).flatMap Sl.dt), .slice (some ⟨b, 0, none⟩) l.length c) :: bag) := fun h' m => by
      rw [hms, List.flatMap_append, List.flatMap_cons, List.flatMap_nil, List.append_nil, List.append_assoc]; exact m
    rw [Sl.dt_eq] at fin
    simp only [mkS, V.kind_mk, V.num_mk, V.str_mk, V.next_mk, V.items_mk] at fin
    have hq0 : k + cntG cS (l.take i) ≤ 4611686018427387904 := by omega
    generalize hq : k + cntG cS (l.take i) = q at *
    generalize (mkG cS mkS (l.take i) k).flatMap Sl.dt = A at *
    generalize hR : (l.drop (i + 1)).flatMap Sl.dt = R at *
    have wq0 : IntKind.i64.wrap (((q : Nat) : Int) + 1) = ((q + 1 : Nat) : Int) := by rw [IntWalk.i64_in _ (by omega)]; rfl
    have wq1 : IntKind.i64.wrap (((q + 1 : Nat) : Int) + 1) = ((q + 2 : Nat) : Int) := by rw [IntWalk.i64_in _ (by omega)]; rfl
    have wq2 : IntKind.i64.wrap (((q + 2 : Nat) : Int) + 1) = ((q + 3 : Nat) : Int) := by rw [IntWalk.i64_in _ (by omega)]; rfl
    have wq3 : IntKind.i64.wrap (((q + 3 : Nat) : Int) + 1) = ((q + 4 : Nat) : Int) := by rw [IntWalk.i64_in _ (by omega)]; rfl
    have wq4 : IntKind.i64.wrap (((q + 4 : Nat) : Int) + 1) = ((q + 5 : Nat) : Int) := by rw [IntWalk.i64_in _ (by omega)]; rfl
    have wq5 : IntKind.i64.wrap (((q + 5 : Nat) : Int) + 1) = ((q + 6 : Nat) : Int) := by rw [IntWalk.i64_in _ (by omega)]; rfl
    have wq6 : IntKind.i64.wrap (((q + 6 : Nat) : Int) + 1) = ((q + 7 : Nat) : Int) := by rw [IntWalk.i64_in _ (by omega)]; rfl
    have wsu := wrap_succ (i := i) (by unfold maxLen at hlm; omega)
    simp only [ix_nat hb, go_sem, Nat.reduceBEq]
    refine hsem_my_cell (A := A) (R := R) (j := 0) tyS4 rfl m1 hpos (Nat.le_of_ble_eq_true rfl) rfl rfl (by omega) fun h2 m2 => ?_
    simp only [ix_nat hb, wq0, go_sem, Nat.reduceBEq]
    refine hsem_my_cell (A := A) (R := R) (j := 1) tyS3 rfl m2 hpos (Nat.le_of_ble_eq_true rfl) rfl rfl (by omega) fun h3 m3 => ?_
    simp only [wq1, go_sem, Nat.reduceBEq]
    refine (markText_c (q + 2) (by omega) _).mono ?_
    rintro _ h4 ⟨rfl, x4⟩
    have m4 := m3.mono x4
    simp only [ix_nat hb, go_sem, Nat.reduceBEq, Nat.reduceAdd]
    refine hsem_my_cell (A := A) (R := R) (j := 2) tyS9 rfl m4 hpos (Nat.le_of_ble_eq_true rfl) rfl rfl (by omega) fun h5 m5 => ?_
    simp only [ix_nat hb, wq2, go_sem, Nat.reduceBEq, Nat.reduceAdd]
    refine hsem_my_cell (A := A) (R := R) (j := 3) tyS3 rfl m5 hpos (Nat.le_of_ble_eq_true rfl) rfl rfl (by omega) fun h6 m6 => ?_
    simp only [ix_nat hb, wq3, go_sem, Nat.reduceBEq, Nat.reduceAdd]
    refine hsem_my_cell (A := A) (R := R) (j := 4) tyS3 rfl m6 hpos (Nat.le_of_ble_eq_true rfl) rfl rfl (by omega) fun h7 m7 => ?_
    simp only [wq4, go_sem, Nat.reduceBEq]
    refine (markText_c (q + 5) (by omega) _).mono ?_
    rintro _ h8 ⟨rfl, x8⟩
    have m8 := m7.mono x8
    simp only [ix_nat hb, go_sem, Nat.reduceBEq, Nat.reduceAdd]
    refine hsem_my_cell (A := A) (R := R) (j := 5) tyS9 rfl m8 hpos (Nat.le_of_ble_eq_true rfl) rfl rfl (by omega) fun h9 m9 => ?_
    simp only [ix_nat hb, wq5, go_sem, Nat.reduceBEq, Nat.reduceAdd]
    refine hsem_my_cell (A := A) (R := R) (j := 6) tyS3 rfl m9 hpos (Nat.le_of_ble_eq_true rfl) rfl rfl (by omega) fun h10 m10 => ?_
    simp only [ix_nat hb, wq6, go_sem, Nat.reduceBEq, Nat.reduceAdd]
    obtain ⟨u7, m11⟩ := m10.openAt (A := A) (R := R) (j := 7) rfl
    refine hsem_my_get (A := A) (R := R) (j := 7) tyS42 m11.swap hpos (d := .raw u7) rfl (by omega) fun u' hu' => ?_
    obtain ⟨rfl, _⟩ := Rd_raw.1 hu'
    simp only [go_sem, Nat.reduceBEq]
    refine (markEntryS_c (e.val.items) (q + 7) (by omega) _ _ _ _ m11).mono ?_
    rintro _ h11 ⟨rfl, m12⟩
    have m13 := m12.closeAt (A := A) (R := R) (j := 7) rfl
    generalize hq7 : q + 7 + cntEs (e.val.items) = q7 at *
    have wq70 : IntKind.i64.wrap (((q7 : Nat) : Int) + 1) = ((q7 + 1 : Nat) : Int) := by rw [IntWalk.i64_in _ (by omega)]; rfl
    have wq71 : IntKind.i64.wrap (((q7 + 1 : Nat) : Int) + 1) = ((q7 + 2 : Nat) : Int) := by rw [IntWalk.i64_in _ (by omega)]; rfl
    simp only [ix_nat hb, go_sem, Nat.reduceBEq, Nat.reduceAdd, Int.reduceEq, not_false_eq_true]
    refine hsem_my_cell (A := A) (R := R) (j := 8) tyS4 rfl m13 hpos (Nat.le_of_ble_eq_true rfl) rfl rfl (by omega) fun h12 m14 => ?_
    simp only [ix_nat hb, wq70, go_sem, Nat.reduceBEq, Nat.reduceAdd]
    refine hsem_my_cell (A := A) (R := R) (j := 9) tyS3 rfl m14 hpos (Nat.le_of_ble_eq_true rfl) rfl rfl (by omega) fun h13 m15 => ?_
    simp only [wq71, go_sem, Nat.reduceBEq]
    rw [wsu]
    have hend : k + cntG cS (l.take (i + 1)) = q7 + 2 := by omega
    refine Again.intro (i + 1) (by first | omega | (simp only; omega)) ⟨hb, ?_⟩ (by simp only [hend]; exact (by repeat (first | exact wkF_e | refine wkF_c rfl ?_))) wkB_e rfl
    have m16 := fin _ m15
    rw [← hR] at m16
    exact m16
  · have hb : i = l.length := by simp at hb; omega
    subst hb
    have m1 : My h0 h1 ((.row 10 ((mkG cS mkS (l.take l.length) k).flatMap Sl.dt ++ (l.drop l.length).flatMap Sl.dt), .slice a l.length c) :: bag) := m1
    rw [List.take_length, List.drop_length, List.flatMap_nil, List.append_nil] at m1
    rw [List.take_length]
    exact ⟨rfl, m1⟩
theorem heldSlotS_c (l : List (Sl)) (k : Nat) (hk : k + cntG cS l ≤ 4611686018427387904) (sl : Value) (h : Hp) (rd : Rd h (.row 10 ((mkG cS mkS l k).flatMap Sl.dt)) sl) :
    ACalls Tryz.prog 73 #[sl, .int .i64 (k : Nat)] h (Is (.int .i64 ((k + cntG cS l : Nat))) h) := by
  have hml := mkG_len (c := cS) (m := mkS) l k
  obtain ⟨a, c, xs, rfl, hc, hr, hat⟩ := rd.rows (by decide) l.length (by rw [fm_len Sl.dt_len, hml])
  (refine enter Tryz.func73 rfl rfl (by kernel_rfl) [] ?_; simp only [go_sem])
  refine aloop (ι := Nat) (fun i => [(5, .val (.int .i64 (i : Nat))), (1, .val (.int .i64 ((k + cntG cS (l.take i) : Nat)))), (0, .val (.slice a l.length c))]) (fun _ => []) (fun i h' => i ≤ l.length ∧ Ext h h') (fun i => l.length - i) 0
    ⟨Nat.zero_le _, Ext.refl _⟩ (by repeat (first | exact wkF_e | refine wkF_c rfl ?_)) wkB_e rfl ?_
  rintro i h1 ⟨hi, x1⟩
  have hi : i ≤ l.length := hi
  have x1 : Ext h h1 := x1
  simp only [go_sem, Nat.reduceBEq]
  refine Br.intro (fun hb => ?_) (fun hb => ?_) <;> (try simp only [hb, go_sem, Nat.reduceBEq])
  · have hb : i < l.length := by simpa using hb
    obtain ⟨b, off, rfl, hat0⟩ := hat (by omega)
    have hat1 := hat0.mono x1
    have hr1 := hr.mono x1
    obtain ⟨e, he, hm⟩ := get_lt hb
    have hsn := cntG_snoc (c := cS) he
    rw [cS] at hsn
    have hge := mkG_get (c := cS) (m := mkS) he k
    have hle := cntG_le (c := cS) he
    rw [cS] at hle
    have hq0 : k + cntG cS (l.take i) ≤ 4611686018427387904 := by omega
    have hlm : l.length ≤ 4611686018427387904 := by have := cntG_pos (c := cS) cS_pos l; omega
    have wsu := wrap_succ (i := i) (by omega)
    generalize hq : k + cntG cS (l.take i) = q at *
    have wq0 : IntKind.i64.wrap (((q : Nat) : Int) + 1) = ((q + 1 : Nat) : Int) := by rw [IntWalk.i64_in _ (by omega)]; rfl
    have wq1 : IntKind.i64.wrap (((q + 1 : Nat) : Int) + 1) = ((q + 2 : Nat) : Int) := by rw [IntWalk.i64_in _ (by omega)]; rfl
    have wq2 : IntKind.i64.wrap (((q + 2 : Nat) : Int) + 1) = ((q + 3 : Nat) : Int) := by rw [IntWalk.i64_in _ (by omega)]; rfl
    have wq3 : IntKind.i64.wrap (((q + 3 : Nat) : Int) + 1) = ((q + 4 : Nat) : Int) := by rw [IntWalk.i64_in _ (by omega)]; rfl
    have wq4 : IntKind.i64.wrap (((q + 4 : Nat) : Int) + 1) = ((q + 5 : Nat) : Int) := by rw [IntWalk.i64_in _ (by omega)]; rfl
    have wq5 : IntKind.i64.wrap (((q + 5 : Nat) : Int) + 1) = ((q + 6 : Nat) : Int) := by rw [IntWalk.i64_in _ (by omega)]; rfl
    have wq6 : IntKind.i64.wrap (((q + 6 : Nat) : Int) + 1) = ((q + 7 : Nat) : Int) := by rw [IntWalk.i64_in _ (by omega)]; rfl
    simp only [ix_nat hb, go_sem, Nat.reduceBEq]
    refine hsem_cell (f := Sl.dt) (o := 0) Sl.dt_len tyS4 hat1 hr1 hge (by decide) (by rw [Sl.dt_eq]; rfl) ?_ fun y0 r0 => ?_
    · omega
    obtain ⟨rfl, _⟩ := Rd_raw.1 r0
    simp only [go_sem, Nat.reduceBEq, Int.reduceEq, not_false_eq_true]
    simp only [mkS, mbit, decide_true, Bool.not_true, go_sem]
    simp only [ix_nat hb, wq0, go_sem, Nat.reduceBEq]
    refine hsem_cell (f := Sl.dt) (o := 1) Sl.dt_len tyS3 hat1 hr1 hge (by decide) (by rw [Sl.dt_eq]; rfl) ?_ fun y1 r1 => ?_
    · omega
    obtain ⟨rfl, _⟩ := Rd_raw.1 r1
    simp only [go_sem, Nat.reduceBEq]
    simp only [mkS, decide_true, Bool.not_true, wq1, go_sem, Nat.reduceBEq]
    refine regionD_still (lb := []) (pl := [39]) h1 (Ext.refl _) (by kernel_rfl) ?_
    simp only [ix_nat hb, go_sem, Nat.reduceBEq, Nat.reduceAdd]
    refine hsem_cell (f := Sl.dt) (o := 2) Sl.dt_len tyS9 hat1 hr1 hge (by decide) (by rw [Sl.dt_eq]; rfl) ?_ fun y2 r2 => ?_
    · omega
    obtain ⟨rfl, _⟩ := Rd_raw.1 r2
    simp only [go_sem, Nat.reduceBEq]
    refine (markText_c (q + 2) (by omega) _).mono ?_
    rintro _ h2 ⟨rfl, x2⟩
    simp only [go_sem, Nat.reduceBEq]
    refine ⟨x2, ?_⟩
    have hat2 := hat1.mono x2
    have hr2 := hr1.mono x2
    have X2 := x1.trans x2
    simp only [mkS, decide_true, Bool.not_true, ix_nat hb, wq2, go_sem, Nat.reduceBEq, Nat.reduceAdd]
    refine hsem_cell (f := Sl.dt) (o := 3) Sl.dt_len tyS3 hat2 hr2 hge (by decide) (by rw [Sl.dt_eq]; rfl) ?_ fun y3 r3 => ?_
    · omega
    obtain ⟨rfl, _⟩ := Rd_raw.1 r3
    simp only [go_sem, Nat.reduceBEq]
    simp only [mkS, decide_true, Bool.not_true, ix_nat hb, wq3, go_sem, Nat.reduceBEq, Nat.reduceAdd]
    refine hsem_cell (f := Sl.dt) (o := 4) Sl.dt_len tyS3 hat2 hr2 hge (by decide) (by rw [Sl.dt_eq]; rfl) ?_ fun y4 r4 => ?_
    · omega
    obtain ⟨rfl, _⟩ := Rd_raw.1 r4
    simp only [go_sem, Nat.reduceBEq]
    simp only [mkS, decide_true, Bool.not_true, wq4, go_sem, Nat.reduceBEq]
    refine regionD_still (lb := []) (pl := [70]) h2 (Ext.refl _) (by kernel_rfl) ?_
    simp only [ix_nat hb, go_sem, Nat.reduceBEq, Nat.reduceAdd]
    refine hsem_cell (f := Sl.dt) (o := 5) Sl.dt_len tyS9 hat2 hr2 hge (by decide) (by rw [Sl.dt_eq]; rfl) ?_ fun y5 r5 => ?_
    · omega
    obtain ⟨rfl, _⟩ := Rd_raw.1 r5
    simp only [go_sem, Nat.reduceBEq]
    refine (markText_c (q + 5) (by omega) _).mono ?_
    rintro _ h3 ⟨rfl, x3⟩
    simp only [go_sem, Nat.reduceBEq]
    refine ⟨x3, ?_⟩
    have hat3 := hat2.mono x3
    have hr3 := hr2.mono x3
    have X3 := X2.trans x3
    simp only [mkS, decide_true, Bool.not_true, ix_nat hb, wq5, go_sem, Nat.reduceBEq, Nat.reduceAdd]
    refine hsem_cell (f := Sl.dt) (o := 6) Sl.dt_len tyS3 hat3 hr3 hge (by decide) (by rw [Sl.dt_eq]; rfl) ?_ fun y6 r6 => ?_
    · omega
    obtain ⟨rfl, _⟩ := Rd_raw.1 r6
    simp only [go_sem, Nat.reduceBEq]
    simp only [mkS, decide_true, Bool.not_true, ix_nat hb, wq6, go_sem, Nat.reduceBEq, Nat.reduceAdd]
    refine hsem_cell (f := Sl.dt) (o := 7) Sl.dt_len tyS42 hat3 hr3 hge (by decide) (by rw [Sl.dt_eq]; rfl) ?_ fun y7 r7 => ?_
    · omega
    simp only [go_sem, Nat.reduceBEq]
    refine (heldEntryS_c (e.val.items) (q + 7) (by omega) _ _ r7).mono ?_
    rintro _ h4 ⟨rfl, x4⟩
    have hat4 := hat3.mono x4
    have hr4 := hr3.mono x4
    have X4 := X3.trans x4
    generalize hq7 : q + 7 + cntEs (e.val.items) = q7 at *
    have wq70 : IntKind.i64.wrap (((q7 : Nat) : Int) + 1) = ((q7 + 1 : Nat) : Int) := by rw [IntWalk.i64_in _ (by omega)]; rfl
    have wq71 : IntKind.i64.wrap (((q7 + 1 : Nat) : Int) + 1) = ((q7 + 2 : Nat) : Int) := by rw [IntWalk.i64_in _ (by omega)]; rfl
    have hneg7 : decide (((q7 : Nat) : Int) < 0) = false := decide_eq_false (by omega)
    simp only [hneg7, ix_nat hb, go_sem, Nat.reduceBEq, Nat.reduceAdd]
    refine hsem_cell (f := Sl.dt) (o := 8) Sl.dt_len tyS4 hat4 hr4 hge (by decide) (by rw [Sl.dt_eq]; rfl) ?_ fun y8 r8 => ?_
    · omega
    have fv8 : (mkS q e).live = decide (((q7 : Nat) : Int).tmod 3 = 0) := by rw [← hq7]; rfl
    rw [fv8] at r8
    obtain ⟨rfl, _⟩ := Rd_raw.1 r8
    simp only [ix_nat hb, wq70, go_sem, Nat.reduceBEq, Nat.reduceAdd, Int.reduceEq, not_false_eq_true]
    try simp only [decide_true, Bool.not_true, ix_nat hb, wq70, wq71, go_sem, Nat.reduceBEq, Nat.reduceAdd, Nat.reduceLeDiff, Nat.reduceEqDiff, Int.reduceEq, not_false_eq_true]
    refine hsem_cell (f := Sl.dt) (o := 9) Sl.dt_len tyS3 hat4 hr4 hge (by decide) (by rw [Sl.dt_eq]; rfl) ?_ fun y9 r9 => ?_
    · omega
    have fv9 : (mkS q e).link = ((q7 + 1 : Nat) : Int) := by rw [← hq7]; rfl
    rw [fv9] at r9
    obtain ⟨rfl, _⟩ := Rd_raw.1 r9
    simp only [wq71, go_sem, Nat.reduceBEq]
    try simp only [decide_true, Bool.not_true, ix_nat hb, wq70, wq71, go_sem, Nat.reduceBEq, Nat.reduceAdd, Nat.reduceLeDiff, Nat.reduceEqDiff, Int.reduceEq, not_false_eq_true]
    rw [wsu]
    have hend : k + cntG cS (l.take (i + 1)) = q7 + 2 := by omega
    exact Again.intro (i + 1) (by first | omega | (simp only; omega)) ⟨hb, X4⟩ (by simp only [hend]; exact (by repeat (first | exact wkF_e | refine wkF_c rfl ?_))) wkB_e rfl
  · have hb : i = l.length := by simp at hb; omega
    subst hb
    rw [List.take_length]
    exact ⟨rfl, x1⟩
end Go.Proofs.YtedfplodobpgfaaGreatDoor
namespace Go.Proofs.YtedfplodobpgfaaGreatDoor
set_option maxRecDepth 8000
open Go Go.Sx
theorem markIntS_c (l : List (Int)) (k : Nat) (hk : k + cntG cI l ≤ 4611686018427387904) (sl : Value) (bag : Bag) (h0 h : Hp) (m : My h0 h ((.row 1 (l.flatMap idt), sl) :: bag)) :
    ACalls Tryz.prog 69 #[sl, .int .i64 (k : Nat)] h fun v h' => v = .int .i64 ((k + cntG cI l : Nat)) ∧ My h0 h' ((.row 1 ((mkG cI mkI l k).flatMap idt), sl) :: bag) := by
  obtain ⟨a, c, rfl, hc, hcm, hat⟩ := m.row_shape (by decide) l.length (fm_len idt_len l)
  have hlm : l.length ≤ maxLen := Nat.le_trans hc hcm
  (refine enter Tryz.func69 rfl rfl (by kernel_rfl) [] ?_; simp only [go_sem])
  refine aloop (ι := Nat) (fun i => [(5, .val (.int .i64 (i : Nat))), (1, .val (.int .i64 ((k + cntG cI (l.take i) : Nat)))), (0, .val (.slice a l.length c))]) (fun _ => []) (fun i h' => i ≤ l.length ∧ My h0 h' ((.row 1 ((mkG cI mkI (l.take i) k).flatMap idt ++ (l.drop i).flatMap idt), .slice a l.length c) :: bag)) (fun i => l.length - i) 0
    ⟨Nat.zero_le _, m⟩ (by repeat (first | exact wkF_e | refine wkF_c rfl ?_)) wkB_e rfl ?_
  rintro i h1 ⟨hi, m1⟩
  have hi : i ≤ l.length := hi
  simp only [go_sem, Nat.reduceBEq]
  refine Br.intro (fun hb => ?_) (fun hb => ?_) <;> (try simp only [hb, go_sem, Nat.reduceBEq])
  · have hb : i < l.length := by simpa using hb
    obtain ⟨b, rfl⟩ := hat (by omega)
    have hpos : 0 < l.length := by omega
    obtain ⟨e, he, hm⟩ := get_lt hb
    have hsn := cntG_snoc (c := cI) he
    rw [cI] at hsn
    have hms := mkG_snoc (c := cI) (m := mkI) he k
    have hle := cntG_le (c := cI) he
    rw [cI] at hle
    have hA : ((mkG cI mkI (l.take i) k).flatMap idt).length = i * 1 := by rw [fm_len idt_len, mkG_len, List.length_take]; congr 1; omega
    have m1 : My h0 h1 ((.row 1 ((mkG cI mkI (l.take i) k).flatMap idt ++ (l.drop i).flatMap idt), .slice (some ⟨b, 0, none⟩) l.length c) :: bag) := m1
    rw [drop_cons he, List.flatMap_cons, idt_eq] at m1
    have fin : ∀ h' , My h0 h' ((.row 1 ((mkG cI mkI (l.take i) k).flatMap idt ++ (idt (mkI (k + cntG cI (l.take i)) e) ++ (l.drop (i + 1)).flatMap idt)), .slice (some ⟨b, 0, none⟩) l.length c) :: bag) → My h0 h' ((.row 1 ((mkG cI mkI (l.take (i + 1)) k).flatMap idt ++ (l.drop (i + 1)).flatMap idt), .slice (some ⟨b, 0, none⟩) l.length c) :: bag) := fun h' m => by
      rw [hms, List.flatMap_append, List.flatMap_cons, List.flatMap_nil, List.append_nil, List.append_assoc]; exact m
    rw [idt_eq] at fin
    have hq0 : k + cntG cI (l.take i) ≤ 4611686018427387904 := by omega
    generalize hq : k + cntG cI (l.take i) = q at *
    generalize (mkG cI mkI (l.take i) k).flatMap idt = A at *
    generalize hR : (l.drop (i + 1)).flatMap idt = R at *
    have wq0 : IntKind.i64.wrap (((q : Nat) : Int) + 1) = ((q + 1 : Nat) : Int) := by rw [IntWalk.i64_in _ (by omega)]; rfl
    have wsu := wrap_succ (i := i) (by unfold maxLen at hlm; omega)
    simp only [ix_nat hb, go_sem, Nat.reduceBEq]
    refine hsem_my_cell (A := A) (R := R) (j := 0) tyS3 rfl m1 hpos (Nat.le_of_ble_eq_true rfl) rfl rfl (by omega) fun h2 m2 => ?_
    simp only [wq0, go_sem, Nat.reduceBEq]
    rw [wsu]
    have hend : k + cntG cI (l.take (i + 1)) = q + 1 := by omega
    refine Again.intro (i + 1) (by first | omega | (simp only; omega)) ⟨hb, ?_⟩ (by simp only [hend]; exact (by repeat (first | exact wkF_e | refine wkF_c rfl ?_))) wkB_e rfl
    have m3 := fin _ m2
    rw [← hR] at m3
    exact m3
  · have hb : i = l.length := by simp at hb; omega
    subst hb
    have m1 : My h0 h1 ((.row 1 ((mkG cI mkI (l.take l.length) k).flatMap idt ++ (l.drop l.length).flatMap idt), .slice a l.length c) :: bag) := m1
    rw [List.take_length, List.drop_length, List.flatMap_nil, List.append_nil] at m1
    rw [List.take_length]
    exact ⟨rfl, m1⟩
theorem heldIntS_c (l : List (Int)) (k : Nat) (hk : k + cntG cI l ≤ 4611686018427387904) (sl : Value) (h : Hp) (rd : Rd h (.row 1 ((mkG cI mkI l k).flatMap idt)) sl) :
    ACalls Tryz.prog 72 #[sl, .int .i64 (k : Nat)] h (Is (.int .i64 ((k + cntG cI l : Nat))) h) := by
  have hml := mkG_len (c := cI) (m := mkI) l k
  obtain ⟨a, c, xs, rfl, hc, hr, hat⟩ := rd.rows (by decide) l.length (by rw [fm_len idt_len, hml])
  (refine enter Tryz.func72 rfl rfl (by kernel_rfl) [] ?_; simp only [go_sem])
  refine aloop (ι := Nat) (fun i => [(5, .val (.int .i64 (i : Nat))), (1, .val (.int .i64 ((k + cntG cI (l.take i) : Nat)))), (0, .val (.slice a l.length c))]) (fun _ => []) (fun i h' => i ≤ l.length ∧ Ext h h') (fun i => l.length - i) 0
    ⟨Nat.zero_le _, Ext.refl _⟩ (by repeat (first | exact wkF_e | refine wkF_c rfl ?_)) wkB_e rfl ?_
  rintro i h1 ⟨hi, x1⟩
  have hi : i ≤ l.length := hi
  have x1 : Ext h h1 := x1
  simp only [go_sem, Nat.reduceBEq]
  refine Br.intro (fun hb => ?_) (fun hb => ?_) <;> (try simp only [hb, go_sem, Nat.reduceBEq])
  · have hb : i < l.length := by simpa using hb
    obtain ⟨b, off, rfl, hat0⟩ := hat (by omega)
    have hat1 := hat0.mono x1
    have hr1 := hr.mono x1
    obtain ⟨e, he, hm⟩ := get_lt hb
    have hsn := cntG_snoc (c := cI) he
    rw [cI] at hsn
    have hge := mkG_get (c := cI) (m := mkI) he k
    have hle := cntG_le (c := cI) he
    rw [cI] at hle
    have hq0 : k + cntG cI (l.take i) ≤ 4611686018427387904 := by omega
    have hlm : l.length ≤ 4611686018427387904 := by have := cntG_pos (c := cI) (fun _ => Nat.le_refl 1) l; omega
    have wsu := wrap_succ (i := i) (by omega)
    generalize hq : k + cntG cI (l.take i) = q at *
    have wq0 : IntKind.i64.wrap (((q : Nat) : Int) + 1) = ((q + 1 : Nat) : Int) := by rw [IntWalk.i64_in _ (by omega)]; rfl
    simp only [ix_nat hb, go_sem, Nat.reduceBEq]
    refine hsem_cell (f := idt) (o := 0) idt_len tyS3 hat1 hr1 hge (by decide) (by rw [idt_eq]; rfl) ?_ fun y0 r0 => ?_
    · omega
    obtain ⟨rfl, _⟩ := Rd_raw.1 r0
    simp only [go_sem, Nat.reduceBEq]
    simp only [mkI, decide_true, Bool.not_true, wq0, go_sem, Nat.reduceBEq]
    rw [wsu]
    have hend : k + cntG cI (l.take (i + 1)) = q + 1 := by omega
    exact Again.intro (i + 1) (by first | omega | (simp only; omega)) ⟨hb, x1⟩ (by simp only [hend]; exact (by repeat (first | exact wkF_e | refine wkF_c rfl ?_))) wkB_e rfl
  · have hb : i = l.length := by simp at hb; omega
    subst hb
    rw [List.take_length]
    exact ⟨rfl, x1⟩
end Go.Proofs.YtedfplodobpgfaaGreatDoor
namespace Go.Proofs.YtedfplodobpgfaaGreatDoor
set_option maxRecDepth 8000
open Go Go.Sx
theorem szIntS_c (l : List Int) (hl : l.length ≤ maxLen) (sl : Value) (n : Int) (h : Hp) (rd : RdI h l sl) (l0 : 0 ≤ n) (l1 : n ≤ 1048576) : ACalls Tryz.prog 49 #[sl, .int .i64 n] h (Pu (.int .i64 (less n l.length)) h) := by
  obtain ⟨a, c, xs, rfl, _⟩ := rd.rows (by decide) l.length (fm_len idt_len l)
  (refine enter Tryz.func49 rfl rfl (by kernel_rfl) [] ?_; simp only [go_sem, Nat.reduceBEq])
  simp only [less_wrap l0 l1 hl, go_sem]
  refine Br.intro (fun hb => ?_) (fun hb => ?_) <;> (try simp only [hb, go_sem, Nat.reduceBEq])
  · have hb : n - (l.length : Int) < 0 := by simpa using hb
    exact ⟨by unfold less; rw [if_neg (by omega)], rfl⟩
  · have hb : ¬ n - (l.length : Int) < 0 := by simpa using hb
    exact ⟨by unfold less; rw [if_pos (by omega)], rfl⟩
theorem szSlot_c (s : Sl) (ok : s.ok) : SzSlot s := by
  intro ys l h r l0 l1
  obtain ⟨sl, rfl, rd⟩ := RdL_slot r
  (refine enter Tryz.func109 rfl rfl (by kernel_rfl) [] ?_; simp only [go_sem, Nat.reduceBEq, Nat.reduceAdd, Nat.reduceLeDiff])
  (refine (szKey_c s.key ok.1 l l0 l1 _).mono ?_; rintro _ _ ⟨rfl, rfl⟩; simp only [go_sem, Nat.reduceBEq])
  refine Br.intro (fun hb => ?_) (fun hb => ?_) <;> (try simp only [hb, go_sem, Nat.reduceBEq, Nat.reduceAdd, Nat.reduceLeDiff])
  · have hb : less l s.key.str.size < 0 := by simpa using hb
    exact ⟨by unfold Sl.bulk; rw [less_neg hb], rfl⟩
  · have hb : 0 ≤ less l s.key.str.size := by simpa using hb
    (refine (szValue_c s.val ok.2.1 _ _ _ rd hb (less_le l1)).mono ?_; rintro _ _ ⟨rfl, rfl⟩; simp only [go_sem, Nat.reduceBEq])
    rw [less_add hb]
    refine Br.intro (fun hc => ?_) (fun hc => ?_) <;> (try simp only [hc, go_sem, Nat.reduceBEq])
    · have hc : less l (s.key.str.size + s.val.bulk) < 0 := by simpa using hc
      exact ⟨by unfold Sl.bulk; rw [less_is hc], rfl⟩
    · exact ⟨rfl, rfl⟩
theorem szTable_c (t : Tb) (ok : t.ok) (s u : Value) (l : Int) (h : Hp) (r1 : RdI h t.heads s) (r2 : RdT h t.slots u) (l0 : 0 ≤ l) (l1 : l ≤ 1048576) :
    ACalls Tryz.prog 10 #[.agg #[.bool t.hashed, s, u, .int .i64 t.next, .int .i64 t.count], .int .i64 l] h (Pu (.int .i64 (less l t.bulk)) h) := by
  obtain ⟨a1, c1, _, rfl, _⟩ := r1.rows (by decide) t.heads.length (fm_len idt_len _)
  obtain ⟨a2, c2, _, rfl, _⟩ := r2.rows (by decide) t.slots.length (fm_len Sl.dt_len _)
  (refine enter Tryz.func10 rfl rfl (by kernel_rfl) [] ?_; simp only [go_sem, Nat.reduceBEq])
  (refine (szIntS_c t.heads ok.lh _ _ _ r1 l0 l1).mono ?_; rintro _ _ ⟨rfl, rfl⟩; simp only [go_sem, Nat.reduceBEq])
  refine Br.intro (fun hb => ?_) (fun hb => ?_) <;> (try simp only [hb, go_sem, Nat.reduceBEq])
  · have hb : less l t.heads.length < 0 := by simpa using hb
    exact ⟨by unfold Tb.bulk; rw [less_neg hb], rfl⟩
  · have hb : 0 ≤ less l t.heads.length := by simpa using hb
    (refine (szSlotS_s t.slots (fun e he => szSlot_c e (ok.slots e he)) ok.ls _ _ _ r2 hb (less_le l1)).mono ?_; rintro _ _ ⟨rfl, rfl⟩; simp only [go_sem, Nat.reduceBEq])
    rw [less_add hb]
    refine Br.intro (fun hc => ?_) (fun hc => ?_) <;> (try simp only [hc, go_sem, Nat.reduceBEq])
    · have hc : less l (t.heads.length + szG Sl.bulk t.slots) < 0 := by simpa using hc
      exact ⟨by unfold Tb.bulk; rw [less_is hc], rfl⟩
    · exact ⟨rfl, rfl⟩
theorem eqIntS_c (l : List Int) (hl : l.length ≤ 4611686018427387904) (s1 s2 : Value) (h : Hp) (r1 : RdI h l s1) (r2 : RdI h l s2) : ACalls Tryz.prog 66 #[s1, s2] h (Pu (.bool true) h) := by
  obtain ⟨a1, c1, xs1, rfl, hc1, hr1, hat1⟩ := r1.rows (by decide) l.length (fm_len idt_len l)
  obtain ⟨a2, c2, xs2, rfl, hc2, hr2, hat2⟩ := r2.rows (by decide) l.length (fm_len idt_len l)
  (refine enter Tryz.func66 rfl rfl (by kernel_rfl) [] ?_; simp only [go_sem, Nat.reduceBEq])
  refine aloop (ι := Nat) (fun i => [(5, .val (.int .i64 (i : Nat))), (0, .val (.slice a1 l.length c1)), (1, .val (.slice a2 l.length c2))]) (fun _ => []) (fun i h' => i ≤ l.length ∧ h' = h) (fun i => l.length - i) 0 ⟨Nat.zero_le _, rfl⟩ (by repeat (first | exact wkF_e | refine wkF_c rfl ?_)) wkB_e rfl ?_
  rintro i _ ⟨hi, rfl⟩
  simp only [go_sem, Nat.reduceBEq]
  refine Br.intro (fun hb => ?_) (fun hb => ?_) <;> (try simp only [hb, go_sem, Nat.reduceBEq])
  · have hb : i < l.length := by simpa using hb
    obtain ⟨b1, o1, rfl, hat1'⟩ := hat1 (by omega)
    obtain ⟨b2, o2, rfl, hat2'⟩ := hat2 (by omega)
    obtain ⟨e, he, hm⟩ := get_lt hb
    have wsu := wrap_succ (i := i) (by omega)
    first | (refine regionD_intro (lb := []) (by kernel_rfl) ?_) | skip
    simp only [ix_nat hb, go_sem, Nat.reduceBEq]
    refine hsem_num tyS3 hat1' hr1 he rfl ?_
    simp only [ix_nat hb, go_sem, Nat.reduceBEq]
    refine hsem_num tyS3 hat2' hr2 he rfl ?_
    simp only [decide_true, Bool.not_true, wsu, go_sem, Nat.reduceBEq]
    exact Again.intro (i + 1) (by first | omega | (simp only; omega)) ⟨hb, rfl⟩ (by repeat (first | exact wkF_e | refine wkF_c rfl ?_)) wkB_e rfl
  · exact ⟨rfl, rfl⟩
theorem eqSlot_c (s : Sl) (hb : V.bulks s.val.items ≤ 4611686018427387904) : EqSlot s := by
  intro h ys zs r1 r2
  obtain ⟨s1, rfl, q1⟩ := RdL_slot r1
  obtain ⟨s2, rfl, q2⟩ := RdL_slot r2
  (refine enter Tryz.func131 rfl rfl (by kernel_rfl) [] ?_; simp only [go_sem, Nat.reduceBEq, Nat.reduceAdd, Nat.reduceLeDiff])
  (refine (eqKey_c s.key _).mono ?_; rintro _ _ ⟨rfl, rfl⟩; simp only [go_sem, Nat.reduceBEq, Nat.reduceAdd, Nat.reduceLeDiff])
  try simp only [Bool.not_true, go_sem, Nat.reduceBEq, Nat.reduceAdd, Nat.reduceLeDiff, Nat.reduceEqDiff, Int.reduceEq, not_false_eq_true, Int.reduceToNat]
  (refine (eqValue_c s.val hb _ _ _ q1 q2).mono ?_; rintro _ _ ⟨rfl, rfl⟩; simp only [go_sem, Nat.reduceBEq])
  try simp only [decide_true, Bool.not_true, go_sem, Nat.reduceBEq, Nat.reduceAdd, Nat.reduceLeDiff, Nat.reduceEqDiff, Int.reduceEq, not_false_eq_true, Int.reduceToNat]
  exact ⟨rfl, rfl⟩
theorem eqTable_c (t : Tb) (hb : t.bulk ≤ 4611686018427387904) (s u s' u' : Value) (h : Hp) (r1 : RdI h t.heads s) (r2 : RdT h t.slots u) (r3 : RdI h t.heads s') (r4 : RdT h t.slots u') :
    ACalls Tryz.prog 18 #[.agg #[.bool t.hashed, s, u, .int .i64 t.next, .int .i64 t.count], .agg #[.bool t.hashed, s', u', .int .i64 t.next, .int .i64 t.count]] h (Pu (.bool true) h) := by
  obtain ⟨a1, c1, _, rfl, _⟩ := r1.rows (by decide) t.heads.length (fm_len idt_len _)
  obtain ⟨a2, c2, _, rfl, _⟩ := r2.rows (by decide) t.slots.length (fm_len Sl.dt_len _)
  obtain ⟨a3, c3, _, rfl, _⟩ := r3.rows (by decide) t.heads.length (fm_len idt_len _)
  obtain ⟨a4, c4, _, rfl, _⟩ := r4.rows (by decide) t.slots.length (fm_len Sl.dt_len _)
  have hb1 : szG Sl.bulk t.slots ≤ 4611686018427387904 := by unfold Tb.bulk at hb; omega
  (refine enter Tryz.func18 rfl rfl (by kernel_rfl) [] ?_; simp only [go_sem, Nat.reduceBEq])
  try simp only [decide_true, Bool.not_true, go_sem, Nat.reduceBEq, Nat.reduceAdd, Nat.reduceLeDiff, Nat.reduceEqDiff, Int.reduceEq, not_false_eq_true, Int.reduceToNat]
  (refine (eqIntS_c t.heads (by unfold Tb.bulk at hb; omega) _ _ _ r1 r3).mono ?_; rintro _ _ ⟨rfl, rfl⟩; simp only [go_sem, Nat.reduceBEq])
  try simp only [Bool.not_true, go_sem, Nat.reduceBEq, Nat.reduceAdd, Nat.reduceLeDiff, Nat.reduceEqDiff, Int.reduceEq, not_false_eq_true, Int.reduceToNat]
  (refine (eqSlotS_s t.slots (fun e he => eqSlot_c e (by have := szG_mem (w := Sl.bulk) he; have := V.bulk_eq e.val; have e1 : Sl.bulk e = e.key.str.size + e.val.bulk := rfl; omega)) (by have := szG_len (w := Sl.bulk) t.slots; omega) _ _ _ r2 r4).mono ?_; rintro _ _ ⟨rfl, rfl⟩; simp only [go_sem, Nat.reduceBEq])
  try simp only [decide_true, Bool.not_true, go_sem, Nat.reduceBEq, Nat.reduceAdd, Nat.reduceLeDiff, Nat.reduceEqDiff, Int.reduceEq, not_false_eq_true, Int.reduceToNat]
  exact ⟨rfl, rfl⟩
theorem toIntS_c (l : List Int) (hl : l.length ≤ 1048576) (sl : Value) (h : Hp) (rd : RdI h l sl) : ACalls Tryz.prog 57 #[sl] h fun u h' => My h h' [(.row 1 (l.flatMap idt), u)] := by
  obtain ⟨a, c, xs, rfl, hc, hr, hat⟩ := rd.rows (by decide) l.length (fm_len idt_len l)
  (refine enter Tryz.func57 rfl rfl (by kernel_rfl) [] ?_; simp only [go_sem, Nat.reduceBEq])
  refine hsem_my_make slT22 (by decide) rfl rfl hl (by decide) (My.nil (Ext.refl h)) fun bo h1 m1 => ?_
  simp only [go_sem, Nat.reduceBEq]
  generalize hzz : SlT.zero _ = zz at m1
  refine aloop (ι := Nat) (fun i => [(4, .val (.int .i64 (i : Nat))), (3, .val (.slice (some ⟨bo, 0, none⟩) l.length l.length)), (0, .val (.slice a l.length c))]) (fun _ => []) (fun i h' => i ≤ l.length ∧ My h h' [(.row 1 ((l.take i).flatMap idt ++ zeros zz (l.length - i)), .slice (some ⟨bo, 0, none⟩) l.length l.length)]) (fun i => l.length - i) 0
    ⟨Nat.zero_le _, m1⟩ (by repeat (first | exact wkF_e | refine wkF_c rfl ?_)) wkB_e rfl ?_
  rintro i h2 ⟨hi, m2⟩
  have hi : i ≤ l.length := hi
  have m2 : My h h2 [(.row 1 ((l.take i).flatMap idt ++ zeros zz (l.length - i)), .slice (some ⟨bo, 0, none⟩) l.length l.length)] := m2
  simp only [go_sem, Nat.reduceBEq]
  refine Br.intro (fun hb => ?_) (fun hb => ?_) <;> (try simp only [hb, go_sem, Nat.reduceBEq])
  · have hb : i < l.length := by simpa using hb
    obtain ⟨b, o, rfl, hat'⟩ := hat (by omega)
    have hat2 := hat'.mono m2.ext
    have hr2 := hr.mono m2.ext
    obtain ⟨e, he, hm⟩ := get_lt hb
    have wsu := wrap_succ (i := i) (by omega)
    first | (refine regionD_intro (lb := []) (by kernel_rfl) ?_) | skip
    simp only [ix_nat hb, go_sem, Nat.reduceBEq]
    refine hsem_num tyS3 hat2 hr2 he rfl ?_
    simp only [ix_nat hb, go_sem, Nat.reduceBEq]
    rw [zeros_sub zz hb] at m2
    have m3 : My h h2 ((.raw (.int .i64 e), .int .i64 e) :: [(.row 1 ((l.take i).flatMap idt ++ (zz.map .raw ++ zeros zz (l.length - (i + 1)))), .slice (some ⟨bo, 0, none⟩) l.length l.length)]) := m2.raw rfl
    refine hsem_my_put (es := idt e) tyS3 m3 (by omega) (by rw [List.length_map, ← hzz]; rfl) rfl rfl ?_ fun h4 m4 => ?_
    · rw [fm_len idt_len, List.length_take, Nat.min_eq_left hi]
    simp only [wsu, go_sem, Nat.reduceBEq]
    refine Again.intro (i + 1) (by first | omega | (simp only; omega)) ⟨hb, ?_⟩ (by repeat (first | exact wkF_e | refine wkF_c rfl ?_)) wkB_e rfl
    rw [take_snoc he, List.flatMap_append, List.flatMap_cons, List.flatMap_nil, List.append_nil, List.append_assoc]
    exact m4
  · have hb : i = l.length := by simp at hb; omega
    subst hb
    rw [List.take_length, Nat.sub_self] at m2
    simpa [zeros] using m2
theorem toSlot_c (s : Sl) (hb : s.val.bulk ≤ 1048576) : ToSlot s := by
  intro h ys r
  obtain ⟨s1, rfl, q1⟩ := RdL_slot r
  (refine enter Tryz.func118 rfl rfl (by kernel_rfl) [] ?_; simp only [go_sem, Nat.reduceBEq, Nat.reduceAdd, Nat.reduceLeDiff])
  (refine (toKey_c s.key _).mono ?_; rintro _ _ ⟨rfl, rfl⟩; simp only [go_sem, Nat.reduceBEq, Nat.reduceAdd, Nat.reduceLeDiff])
  refine (toV_c s.val hb _ _ q1).mono ?_
  rintro _ h2 ⟨a, c, rfl, m⟩
  simp only [go_sem, Nat.reduceBEq, Nat.reduceAdd, Nat.reduceLeDiff]
  refine ⟨_, rfl, rfl, ?_⟩
  simp only [Sl.dt_eq, List.zip_cons_cons, List.zip_nil_right, My.raw_iff, one_bool, one_int, one_str, and_self, true_and]
  exact ((m.raw (u := .int .i64 s.link) rfl).raw (u := .bool s.live) rfl).third
theorem toTable_c (t : Tb) (hb : t.bulk ≤ 1048576) (s u : Value) (h : Hp) (r1 : RdI h t.heads s) (r2 : RdT h t.slots u) :
    ACalls Tryz.prog 14 #[.agg #[.bool t.hashed, s, u, .int .i64 t.next, .int .i64 t.count]] h fun v h' => ∃ a c a' c', v = .agg #[.bool t.hashed, .slice a t.heads.length c, .slice a' t.slots.length c', .int .i64 t.next, .int .i64 t.count] ∧
      My h h' [(.row 1 (t.heads.flatMap idt), .slice a t.heads.length c), (.row 10 (t.slots.flatMap Sl.dt), .slice a' t.slots.length c')] := by
  obtain ⟨a1, c1, _, rfl, _⟩ := r1.rows (by decide) t.heads.length (fm_len idt_len _)
  obtain ⟨a2, c2, _, rfl, _⟩ := r2.rows (by decide) t.slots.length (fm_len Sl.dt_len _)
  have hb1 : szG Sl.bulk t.slots ≤ 1048576 := by unfold Tb.bulk at hb; omega
  (refine enter Tryz.func14 rfl rfl (by kernel_rfl) [] ?_; simp only [go_sem, Nat.reduceBEq, Nat.reduceAdd, Nat.reduceLeDiff])
  refine (toIntS_c t.heads (by unfold Tb.bulk at hb; omega) _ _ r1).mono ?_
  rintro _ h1 m1
  obtain ⟨a3, c3, rfl, _⟩ := m1.row_shape (by decide) t.heads.length (fm_len idt_len _)
  simp only [go_sem, Nat.reduceBEq, Nat.reduceAdd, Nat.reduceLeDiff]
  refine (toSlotS_s t.slots (fun e he => toSlot_c e (by have := szG_mem (w := Sl.bulk) he; have e1 : Sl.bulk e = e.key.str.size + e.val.bulk := rfl; omega)) (by have := szG_len (w := Sl.bulk) t.slots; omega) _ _ (r2.mono m1.ext)).mono ?_
  rintro _ h2 m2
  obtain ⟨a4, c4, rfl, _⟩ := m2.row_shape (by decide) t.slots.length (fm_len Sl.dt_len _)
  simp only [go_sem, Nat.reduceBEq, Nat.reduceAdd, Nat.reduceLeDiff]
  exact ⟨_, _, _, _, rfl, (m1.add m2).swap⟩
theorem markTable_c (t : Tb) (k : Nat) (hk : k + cntG cI t.heads + cntG cS t.slots ≤ 4611686018427387904) (s u : Value) (bag : Bag) (h0 h : Hp) (m : My h0 h ((.row 1 (t.heads.flatMap idt), s) :: (.row 10 (t.slots.flatMap Sl.dt), u) :: bag)) :
    ACalls Tryz.prog 20 #[.agg #[.bool t.hashed, s, u, .int .i64 t.next, .int .i64 t.count], .int .i64 (k : Nat)] h fun v h' => v = .int .i64 ((k + cntG cI t.heads + cntG cS t.slots : Nat)) ∧
      My h0 h' ((.row 1 ((mkG cI mkI t.heads k).flatMap idt), s) :: (.row 10 ((mkG cS mkS t.slots (k + cntG cI t.heads)).flatMap Sl.dt), u) :: bag) := by
  obtain ⟨a1, c1, rfl, _⟩ := m.row_shape (by decide) t.heads.length (fm_len idt_len _)
  obtain ⟨a2, c2, rfl, _⟩ := m.swap.row_shape (by decide) t.slots.length (fm_len Sl.dt_len _)
  (refine enter Tryz.func20 rfl rfl (by kernel_rfl) [] ?_; simp only [go_sem, Nat.reduceBEq])
  refine (markIntS_c t.heads k (by omega) _ _ _ _ m).mono ?_
  rintro _ h1 ⟨rfl, m1⟩
  simp only [go_sem, Nat.reduceBEq]
  refine (markSlotS_c t.slots (k + cntG cI t.heads) (by omega) _ _ _ _ m1.swap).mono ?_
  rintro _ h2 ⟨rfl, m2⟩
  simp only [go_sem, Nat.reduceBEq]
  first | exact m2.swap | exact ⟨rfl, m2.swap⟩
theorem heldTable_c (t : Tb) (b : Bool) (x y : Int) (k : Nat) (hk : k + cntG cI t.heads + cntG cS t.slots ≤ 4611686018427387904) (s u : Value) (h : Hp) (r1 : RdI h (mkG cI mkI t.heads k) s) (r2 : RdT h (mkG cS mkS t.slots (k + cntG cI t.heads)) u) :
    ACalls Tryz.prog 22 #[.agg #[.bool b, s, u, .int .i64 x, .int .i64 y], .int .i64 (k : Nat)] h (Is (.int .i64 ((k + cntG cI t.heads + cntG cS t.slots : Nat))) h) := by
  obtain ⟨a1, c1, _, rfl, _⟩ := r1.rows (by decide) _ (fm_len idt_len _)
  obtain ⟨a2, c2, _, rfl, _⟩ := r2.rows (by decide) _ (fm_len Sl.dt_len _)
  (refine enter Tryz.func22 rfl rfl (by kernel_rfl) [] ?_; simp only [go_sem, Nat.reduceBEq])
  refine (heldIntS_c t.heads k (by omega) _ _ r1).mono ?_
  rintro _ h1 ⟨rfl, x1⟩
  simp only [nat_neg, go_sem, Nat.reduceBEq]
  refine (heldSlotS_c t.slots (k + cntG cI t.heads) (by omega) _ _ (r2.mono x1)).mono ?_
  rintro _ h2 ⟨rfl, x2⟩
  simp only [nat_neg, go_sem, Nat.reduceBEq]
  exact ⟨rfl, x1.trans x2⟩
end Go.Proofs.YtedfplodobpgfaaGreatDoor
namespace Go.Proofs.YtedfplodobpgfaaGreatDoor
set_option maxRecDepth 8000
open Go Go.Sx
def SzBlock (e : Bk) : Prop := ∀ (ys : List Value) (l : Int) (h : Hp), RdL h (Bk.dt e) ys → 0 ≤ l → l ≤ 1048576 → ACalls Tryz.prog 133 #[.agg ys.toArray, .int .i64 l] h (Pu (.int .i64 (less l (Bk.bulk e))) h)
theorem szBlockS_s (es : List Bk) (ih : ∀ e ∈ es, SzBlock e) (hl : es.length ≤ maxLen) (sl : Value) (l : Int) (h : Hp) (rd : Rd h (.row 6 (es.flatMap Bk.dt)) sl) (l0 : 0 ≤ l) (l1 : l ≤ 1048576) :
    ACalls Tryz.prog 74 #[sl, .int .i64 l] h (Pu (.int .i64 (less l (szG Bk.bulk es))) h) := by
  obtain ⟨a, c, xs, rfl, hc, hr, hat⟩ := rd.rows (by decide) es.length (fm_len Bk.dt_len es)
  (refine enter Tryz.func74 rfl rfl (by kernel_rfl) [] ?_; simp only [go_sem, Nat.reduceBEq])
  simp only [less_wrap l0 l1 hl, go_sem]
  refine Br.intro (fun hb => ?_) (fun hb => ?_) <;> (try simp only [hb, go_sem, Nat.reduceBEq])
  · have hb : l - (es.length : Int) < 0 := by simpa using hb
    exact ⟨by unfold szG; rw [less_neg (by unfold less; split <;> omega)], rfl⟩
  · have hb : ¬ l - (es.length : Int) < 0 := by simpa using hb
    have e0 : l - (es.length : Int) = less l (es.length + gsum Bk.bulk (es.take 0)) := by unfold less; simp [gsum]; omega
    rw [e0]
    refine aloop (ι := Nat) (fun i => [(5, .val (.int .i64 (i : Nat))), (1, .val (.int .i64 (less l (es.length + gsum Bk.bulk (es.take i))))), (0, .val (.slice a es.length c))]) (fun _ => []) (fun i h' => i ≤ es.length ∧ 0 ≤ less l (es.length + gsum Bk.bulk (es.take i)) ∧ h = h') (fun i => es.length - i) 0
      ⟨Nat.zero_le _, by rw [← e0]; omega, rfl⟩ (by repeat (first | exact wkF_e | refine wkF_c rfl ?_)) wkB_e rfl ?_
    intro i h1 hx
    have hx : i ≤ es.length ∧ 0 ≤ less l (es.length + gsum Bk.bulk (es.take i)) ∧ h = h1 := hx
    have hi := hx.1
    have hf := hx.2.1
    have he := hx.2.2
    clear hx
    subst he
    simp only [go_sem, Nat.reduceBEq]
    refine Br.intro (fun hb => ?_) (fun hb => ?_) <;> (try simp only [hb, go_sem, Nat.reduceBEq])
    · have hb : i < es.length := by simpa using hb
      obtain ⟨b, off, rfl, hat'⟩ := hat (by omega)
      obtain ⟨e, he, hm⟩ := get_lt hb
      simp only [ix_nat hb, go_sem, Nat.reduceBEq]
      refine hsem_row (f := Bk.dt) (o := 0) (ds := Bk.dt e) Bk.dt_len tyS154 hat' hr he (Nat.le_refl _) (by rw [List.drop_zero, List.take_of_length_le (by rw [Bk.dt_len]; exact Nat.le_refl _)]) ?_ fun ys r1 => ?_
      · omega
      simp only [go_sem, Nat.reduceBEq]
      (refine (ih e hm _ _ _ r1 hf (less_le l1)).mono ?_; rintro _ _ ⟨rfl, rfl⟩; simp only [go_sem, Nat.reduceBEq])
      rw [less_add hf, Nat.add_assoc, ← gsum_snoc he]
      refine Br.intro (fun hc => ?_) (fun hc => ?_) <;> (try simp only [hc, go_sem, Nat.reduceBEq])
      · have hc : less l (es.length + gsum Bk.bulk (es.take (i + 1))) < 0 := by simpa using hc
        refine ⟨?_, rfl⟩
        unfold szG
        rw [gsum_split Bk.bulk es (i + 1), ← Nat.add_assoc, less_neg hc]
      · have hc : 0 ≤ less l (es.length + gsum Bk.bulk (es.take (i + 1))) := by simpa using hc
        rw [wrap_succ (i := i) (by unfold maxLen at hl; omega)]
        exact Again.intro (i + 1) (by first | omega | (simp only; omega)) ⟨hb, hc, rfl⟩ (by repeat (first | exact wkF_e | refine wkF_c rfl ?_)) wkB_e rfl
    · have hb : i = es.length := by simp at hb; omega
      subst hb
      refine ⟨?_, rfl⟩
      rw [List.take_length]
      rfl
end Go.Proofs.YtedfplodobpgfaaGreatDoor
namespace Go.Proofs.YtedfplodobpgfaaGreatDoor
set_option maxRecDepth 8000
open Go Go.Sx
def EqBlock (e : Bk) : Prop := ∀ (h : Hp) (ys zs : List Value), RdL h (Bk.dt e) ys → RdL h (Bk.dt e) zs → ACalls Tryz.prog 141 #[.agg ys.toArray, .agg zs.toArray] h (Pu (.bool true) h)
theorem eqBlockS_s (l : List (Bk)) (ih : ∀ e ∈ l, EqBlock e) (hl : l.length ≤ 4611686018427387904) (s1 s2 : Value) (h : Hp) (r1 : Rd h (.row 6 (l.flatMap Bk.dt)) s1) (r2 : Rd h (.row 6 (l.flatMap Bk.dt)) s2) :
    ACalls Tryz.prog 82 #[s1, s2] h (Pu (.bool true) h) := by
  obtain ⟨a1, c1, xs1, rfl, hc1, hr1, hat1⟩ := r1.rows (by decide) l.length (fm_len Bk.dt_len l)
  obtain ⟨a2, c2, xs2, rfl, hc2, hr2, hat2⟩ := r2.rows (by decide) l.length (fm_len Bk.dt_len l)
  (refine enter Tryz.func82 rfl rfl (by kernel_rfl) [] ?_; simp only [go_sem, Nat.reduceBEq])
  refine aloop (ι := Nat) (fun i => [(5, .val (.int .i64 (i : Nat))), (0, .val (.slice a1 l.length c1)), (1, .val (.slice a2 l.length c2))]) (fun _ => []) (fun i h' => i ≤ l.length ∧ h' = h) (fun i => l.length - i) 0 ⟨Nat.zero_le _, rfl⟩ (by repeat (first | exact wkF_e | refine wkF_c rfl ?_)) wkB_e rfl ?_
  rintro i _ ⟨hi, rfl⟩
  simp only [go_sem, Nat.reduceBEq]
  refine Br.intro (fun hb => ?_) (fun hb => ?_) <;> (try simp only [hb, go_sem, Nat.reduceBEq])
  · have hb : i < l.length := by simpa using hb
    obtain ⟨b1, o1, rfl, hat1'⟩ := hat1 (by omega)
    obtain ⟨b2, o2, rfl, hat2'⟩ := hat2 (by omega)
    obtain ⟨e, he, hm⟩ := get_lt hb
    have wsu := wrap_succ (i := i) (by omega)
    refine regionD_intro (lb := []) (by kernel_rfl) ?_
    simp only [ix_nat hb, go_sem, Nat.reduceBEq]
    refine hsem_row (f := Bk.dt) (o := 0) (ds := Bk.dt e) Bk.dt_len tyS107 hat1' hr1 he (Nat.le_refl _) (by rw [List.drop_zero, List.take_of_length_le (Nat.le_of_eq (Bk.dt_len e))]) ?_ fun ys1 q1 => ?_
    · omega
    simp only [ix_nat hb, go_sem, Nat.reduceBEq]
    refine hsem_row (f := Bk.dt) (o := 0) (ds := Bk.dt e) Bk.dt_len tyS107 hat2' hr2 he (Nat.le_refl _) (by rw [List.drop_zero, List.take_of_length_le (Nat.le_of_eq (Bk.dt_len e))]) ?_ fun ys2 q2 => ?_
    · omega
    simp only [go_sem, Nat.reduceBEq]
    (refine (ih e hm _ _ _ q1 q2).mono ?_; rintro _ _ ⟨rfl, rfl⟩; simp only [go_sem, Nat.reduceBEq])
    simp only [wsu, go_sem]
    exact Again.intro (i + 1) (by first | omega | (simp only; omega)) ⟨hb, rfl⟩ (by repeat (first | exact wkF_e | refine wkF_c rfl ?_)) wkB_e rfl
  · exact ⟨rfl, rfl⟩
def ToBlock (e : Bk) : Prop := ∀ (h : Hp) (ys : List Value), RdL h (Bk.dt e) ys → ACalls Tryz.prog 138 #[.agg ys.toArray] h fun u h' => ∃ us, u = .agg us.toArray ∧ us.length = 6 ∧ My h h' ((Bk.dt e).zip us)
theorem toBlockS_s (l : List (Bk)) (ih : ∀ e ∈ l, ToBlock e) (hl : l.length ≤ 1048576) (sl : Value) (h : Hp) (rd : Rd h (.row 6 (l.flatMap Bk.dt)) sl) :
    ACalls Tryz.prog 78 #[sl] h fun u h' => My h h' [(.row 6 (l.flatMap Bk.dt), u)] := by
  obtain ⟨a, c, xs, rfl, hc, hr, hat⟩ := rd.rows (by decide) l.length (fm_len Bk.dt_len l)
  (refine enter Tryz.func78 rfl rfl (by kernel_rfl) [] ?_; simp only [go_sem, Nat.reduceBEq])
  refine hsem_my_make slT58 (by decide) rfl rfl hl (by decide) (My.nil (Ext.refl h)) fun bo h1 m1 => ?_
  simp only [go_sem, Nat.reduceBEq]
  generalize hzz : SlT.zero _ = zz at m1
  refine aloop (ι := Nat) (fun i => [(4, .val (.int .i64 (i : Nat))), (3, .val (.slice (some ⟨bo, 0, none⟩) l.length l.length)), (0, .val (.slice a l.length c))]) (fun _ => []) (fun i h' => i ≤ l.length ∧ My h h' [(.row 6 ((l.take i).flatMap Bk.dt ++ zeros zz (l.length - i)), .slice (some ⟨bo, 0, none⟩) l.length l.length)]) (fun i => l.length - i) 0
    ⟨Nat.zero_le _, m1⟩ (by repeat (first | exact wkF_e | refine wkF_c rfl ?_)) wkB_e rfl ?_
  rintro i h2 ⟨hi, m2⟩
  have hi : i ≤ l.length := hi
  have m2 : My h h2 [(.row 6 ((l.take i).flatMap Bk.dt ++ zeros zz (l.length - i)), .slice (some ⟨bo, 0, none⟩) l.length l.length)] := m2
  simp only [go_sem, Nat.reduceBEq]
  refine Br.intro (fun hb => ?_) (fun hb => ?_) <;> (try simp only [hb, go_sem, Nat.reduceBEq])
  · have hb : i < l.length := by simpa using hb
    obtain ⟨b, o, rfl, hat'⟩ := hat (by omega)
    have hat2 := hat'.mono m2.ext
    have hr2 := hr.mono m2.ext
    obtain ⟨e, he, hm⟩ := get_lt hb
    have wsu := wrap_succ (i := i) (by omega)
    simp only [ix_nat hb, go_sem, Nat.reduceBEq]
    refine hsem_row (f := Bk.dt) (o := 0) (ds := Bk.dt e) Bk.dt_len tyS154 hat2 hr2 he (Nat.le_refl _) (by rw [List.drop_zero, List.take_of_length_le (Nat.le_of_eq (Bk.dt_len e))]) ?_ fun ys1 q1 => ?_
    · omega
    simp only [go_sem, Nat.reduceBEq]
    refine (ih e hm _ _ q1).mono ?_
    rintro _ h3 ⟨us, rfl, hus, n3⟩
    simp only [ix_nat hb, go_sem, Nat.reduceBEq]
    have m3 := m2.add n3
    rw [zeros_sub zz hb] at m3
    refine hsem_my_put tyS107 m3 (by omega) (by rw [List.length_map, ← hzz]; rfl) (Bk.dt_len e) hus ?_ fun h4 m4 => ?_
    · rw [fm_len Bk.dt_len, List.length_take, Nat.min_eq_left hi]
    simp only [wsu, go_sem, Nat.reduceBEq]
    refine Again.intro (i + 1) (by first | omega | (simp only; omega)) ⟨hb, ?_⟩ (by repeat (first | exact wkF_e | refine wkF_c rfl ?_)) wkB_e rfl
    rw [take_snoc he, List.flatMap_append, List.flatMap_cons, List.flatMap_nil, List.append_nil, List.append_assoc]
    exact m4
  · have hb : i = l.length := by simp at hb; omega
    subst hb
    rw [List.take_length, Nat.sub_self] at m2
    simpa [zeros] using m2
end Go.Proofs.YtedfplodobpgfaaGreatDoor
namespace Go.Proofs.YtedfplodobpgfaaGreatDoor
set_option maxRecDepth 8000
open Go Go.Sx
theorem szBlock_c (b : Bk) (ok : b.ok) : SzBlock b := by
  intro ys l h r l0 l1
  obtain ⟨s, u, rfl, r1, r2⟩ := RdL_blk r
  (refine enter Tryz.func133 rfl rfl (by kernel_rfl) [] ?_; simp only [go_sem, Nat.reduceBEq, Nat.reduceAdd, Nat.reduceLeDiff])
  (refine (szTable_c b.tab ok.tab _ _ _ _ r1 r2 l0 l1).mono ?_; rintro _ _ ⟨rfl, rfl⟩; simp only [go_sem, Nat.reduceBEq])
  refine Br.intro (fun hb => ?_) (fun hb => ?_) <;> (try simp only [hb, go_sem, Nat.reduceBEq])
  · have hb : less l b.tab.bulk < 0 := by simpa using hb
    exact ⟨by unfold Bk.bulk; rw [less_is hb], rfl⟩
  · exact ⟨rfl, rfl⟩
theorem szHeap_c (l : List Bk) (ok : ∀ b ∈ l, b.ok) (hl : l.length ≤ maxLen) (s : Value) (n : Int) (h : Hp) (r : RdB h l s) (l0 : 0 ≤ n) (l1 : n ≤ 1048576) : ACalls Tryz.prog 23 #[.agg #[s], .int .i64 n] h (Pu (.int .i64 (less n (szG Bk.bulk l))) h) := by
  obtain ⟨a, c, _, rfl, _⟩ := r.rows (by decide) l.length (fm_len Bk.dt_len _)
  (refine enter Tryz.func23 rfl rfl (by kernel_rfl) [] ?_; simp only [go_sem, Nat.reduceBEq])
  (refine (szBlockS_s l (fun e he => szBlock_c e (ok e he)) hl _ _ _ r l0 l1).mono ?_; rintro _ _ ⟨rfl, rfl⟩; simp only [go_sem, Nat.reduceBEq])
  refine Br.intro (fun hb => ?_) (fun hb => ?_) <;> (try simp only [hb, go_sem, Nat.reduceBEq])
  · have hb : less n (szG Bk.bulk l) < 0 := by simpa using hb
    exact ⟨by rw [less_is hb], rfl⟩
  · exact ⟨rfl, rfl⟩
theorem eqBlock_c (b : Bk) (hb : b.tab.bulk ≤ 4611686018427387904) : EqBlock b := by
  intro h ys zs r1 r2
  obtain ⟨s1, u1, rfl, p1, q1⟩ := RdL_blk r1
  obtain ⟨s2, u2, rfl, p2, q2⟩ := RdL_blk r2
  (refine enter Tryz.func141 rfl rfl (by kernel_rfl) [] ?_; simp only [go_sem, Nat.reduceBEq, Nat.reduceAdd, Nat.reduceLeDiff])
  try simp only [decide_true, Bool.not_true, go_sem, Nat.reduceBEq, Nat.reduceAdd, Nat.reduceLeDiff, Nat.reduceEqDiff, Int.reduceEq, not_false_eq_true, Int.reduceToNat]
  (refine (eqTable_c b.tab hb _ _ _ _ _ p1 q1 p2 q2).mono ?_; rintro _ _ ⟨rfl, rfl⟩; simp only [go_sem, Nat.reduceBEq])
  try simp only [Bool.not_true, go_sem, Nat.reduceBEq, Nat.reduceAdd, Nat.reduceLeDiff, Nat.reduceEqDiff, Int.reduceEq, not_false_eq_true, Int.reduceToNat]
  exact ⟨rfl, rfl⟩
theorem eqHeap_c (l : List Bk) (hb : szG Bk.bulk l ≤ 4611686018427387904) (s s' : Value) (h : Hp) (r1 : RdB h l s) (r2 : RdB h l s') : ACalls Tryz.prog 29 #[.agg #[s], .agg #[s']] h (Pu (.bool true) h) := by
  obtain ⟨a1, c1, _, rfl, _⟩ := r1.rows (by decide) l.length (fm_len Bk.dt_len _)
  obtain ⟨a2, c2, _, rfl, _⟩ := r2.rows (by decide) l.length (fm_len Bk.dt_len _)
  (refine enter Tryz.func29 rfl rfl (by kernel_rfl) [] ?_; simp only [go_sem, Nat.reduceBEq])
  (refine (eqBlockS_s l (fun e he => eqBlock_c e (by have := szG_mem (w := Bk.bulk) he; have e1 : Bk.bulk e = e.tab.bulk := rfl; omega)) (by have := szG_len (w := Bk.bulk) l; omega) _ _ _ r1 r2).mono ?_; rintro _ _ ⟨rfl, rfl⟩; simp only [go_sem, Nat.reduceBEq])
  try simp only [Bool.not_true, go_sem, Nat.reduceBEq, Nat.reduceAdd, Nat.reduceLeDiff, Nat.reduceEqDiff, Int.reduceEq, not_false_eq_true, Int.reduceToNat]
  exact ⟨rfl, rfl⟩
theorem toBlock_c (b : Bk) (hb : b.tab.bulk ≤ 1048576) : ToBlock b := by
  intro h ys r
  obtain ⟨s, u, rfl, r1, r2⟩ := RdL_blk r
  (refine enter Tryz.func138 rfl rfl (by kernel_rfl) [] ?_; simp only [go_sem, Nat.reduceBEq, Nat.reduceAdd, Nat.reduceLeDiff])
  refine (toTable_c b.tab hb _ _ _ r1 r2).mono ?_
  rintro _ h2 ⟨a, c, a', c', rfl, m⟩
  simp only [go_sem, Nat.reduceBEq, Nat.reduceAdd, Nat.reduceLeDiff]
  refine ⟨_, rfl, rfl, ?_⟩
  simp only [Bk.dt_eq, List.zip_cons_cons, List.zip_nil_right, My.raw_iff, one_bool, one_int, and_self, true_and]
  exact ((m.raw (u := .int .i64 b.tab.count) rfl).raw (u := .int .i64 b.tab.next) rfl).fourth.fourth
theorem toHeap_c (l : List Bk) (hb : szG Bk.bulk l ≤ 1048576) (s : Value) (h : Hp) (r : RdB h l s) :
    ACalls Tryz.prog 26 #[.agg #[s]] h fun v h' => ∃ a c, v = .agg #[.slice a l.length c] ∧ My h h' [(.row 6 (l.flatMap Bk.dt), .slice a l.length c)] := by
  obtain ⟨a1, c1, _, rfl, _⟩ := r.rows (by decide) l.length (fm_len Bk.dt_len _)
  (refine enter Tryz.func26 rfl rfl (by kernel_rfl) [] ?_; simp only [go_sem, Nat.reduceBEq])
  refine (toBlockS_s l (fun e he => toBlock_c e (by have := szG_mem (w := Bk.bulk) he; have e1 : Bk.bulk e = e.tab.bulk := rfl; omega)) (by have := szG_len (w := Bk.bulk) l; omega) _ _ r).mono ?_
  rintro _ h1 m1
  obtain ⟨a3, c3, rfl, _⟩ := m1.row_shape (by decide) l.length (fm_len Bk.dt_len _)
  simp only [go_sem, Nat.reduceBEq, Nat.reduceLeDiff]
  exact ⟨_, _, rfl, m1⟩
end Go.Proofs.YtedfplodobpgfaaGreatDoor
namespace Go.Proofs.YtedfplodobpgfaaGreatDoor
set_option maxRecDepth 8000
open Go Go.Sx
theorem markBlockS_c (l : List (Bk)) (k : Nat) (hk : k + cntG cB l ≤ 4611686018427387904) (sl : Value) (bag : Bag) (h0 h : Hp) (m : My h0 h ((.row 6 (l.flatMap Bk.dt), sl) :: bag)) :
    ACalls Tryz.prog 86 #[sl, .int .i64 (k : Nat)] h fun v h' => v = .int .i64 ((k + cntG cB l : Nat)) ∧ My h0 h' ((.row 6 ((mkG cB mkB l k).flatMap Bk.dt), sl) :: bag) := by
  obtain ⟨a, c, rfl, hc, hcm, hat⟩ := m.row_shape (by decide) l.length (fm_len Bk.dt_len l)
  have hlm : l.length ≤ maxLen := Nat.le_trans hc hcm
  (refine enter Tryz.func86 rfl rfl (by kernel_rfl) [] ?_; simp only [go_sem])
  refine aloop (ι := Nat) (fun i => [(5, .val (.int .i64 (i : Nat))), (1, .val (.int .i64 ((k + cntG cB (l.take i) : Nat)))), (0, .val (.slice a l.length c))]) (fun _ => []) (fun i h' => i ≤ l.length ∧ My h0 h' ((.row 6 ((mkG cB mkB (l.take i) k).flatMap Bk.dt ++ (l.drop i).flatMap Bk.dt), .slice a l.length c) :: bag)) (fun i => l.length - i) 0
    ⟨Nat.zero_le _, m⟩ (by repeat (first | exact wkF_e | refine wkF_c rfl ?_)) wkB_e rfl ?_
  rintro i h1 ⟨hi, m1⟩
  have hi : i ≤ l.length := hi
  simp only [go_sem, Nat.reduceBEq]
  refine Br.intro (fun hb => ?_) (fun hb => ?_) <;> (try simp only [hb, go_sem, Nat.reduceBEq])
  · have hb : i < l.length := by simpa using hb
    obtain ⟨b, rfl⟩ := hat (by omega)
    have hpos : 0 < l.length := by omega
    obtain ⟨e, he, hm⟩ := get_lt hb
    have hsn := cntG_snoc (c := cB) he
    rw [cB] at hsn
    have hms := mkG_snoc (c := cB) (m := mkB) he k
    have hle := cntG_le (c := cB) he
    rw [cB] at hle
    have hA : ((mkG cB mkB (l.take i) k).flatMap Bk.dt).length = i * 6 := by rw [fm_len Bk.dt_len, mkG_len, List.length_take]; congr 1; omega
    have m1 : My h0 h1 ((.row 6 ((mkG cB mkB (l.take i) k).flatMap Bk.dt ++ (l.drop i).flatMap Bk.dt), .slice (some ⟨b, 0, none⟩) l.length c) :: bag) := m1
    rw [drop_cons he, List.flatMap_cons, Bk.dt_eq] at m1
    have fin : ∀ h' , My h0 h' ((.row 6 ((mkG cB mkB (l.take i) k).flatMap Bk.dt ++ (Bk.dt (mkB (k + cntG cB (l.take i)) e) ++ (l.drop (i + 1)).flatMap Bk.dt)), .slice (some ⟨b, 0, none⟩) l.length c) :: bag) → My h0 h' ((.row 6 ((mkG cB mkB (l.take (i + 1)) k).flatMap Bk.dt ++ (l.drop (i + 1)).flatMap Bk.dt), .slice (some ⟨b, 0, none⟩) l.length c) :: bag) := fun h' m => by
      rw [hms, List.flatMap_append, List.flatMap_cons, List.flatMap_nil, List.append_nil, List.append_assoc]; exact m
    rw [Bk.dt_eq] at fin
    simp only [mkB] at fin
    have hq0 : k + cntG cB (l.take i) ≤ 4611686018427387904 := by omega
    generalize hq : k + cntG cB (l.take i) = q at *
    generalize (mkG cB mkB (l.take i) k).flatMap Bk.dt = A at *
    generalize hR : (l.drop (i + 1)).flatMap Bk.dt = R at *
    have wq0 : IntKind.i64.wrap (((q : Nat) : Int) + 1) = ((q + 1 : Nat) : Int) := by rw [IntWalk.i64_in _ (by omega)]; rfl
    have wq1 : IntKind.i64.wrap (((q + 1 : Nat) : Int) + 1) = ((q + 2 : Nat) : Int) := by rw [IntWalk.i64_in _ (by omega)]; rfl
    have wsu := wrap_succ (i := i) (by unfold maxLen at hlm; omega)
    simp only [ix_nat hb, go_sem, Nat.reduceBEq]
    refine hsem_my_cell (A := A) (R := R) (j := 0) tyS3 rfl m1 hpos (Nat.le_of_ble_eq_true rfl) rfl rfl (by omega) fun h2 m2 => ?_
    simp only [ix_nat hb, wq0, go_sem, Nat.reduceBEq, Int.reduceEq, not_false_eq_true]
    refine hsem_my_cell (A := A) (R := R) (j := 1) tyS4 rfl m2 hpos (Nat.le_of_ble_eq_true rfl) rfl rfl (by omega) fun h3 m3 => ?_
    simp only [ix_nat hb, wq1, go_sem, Nat.reduceBEq]
    obtain ⟨u2, m4⟩ := m3.openAt (A := A) (R := R) (j := 2) rfl
    refine hsem_my_get (A := A) (R := R) (j := 2) tyS22 m4.swap hpos (d := .raw u2) rfl (by omega) fun u' hu' => ?_
    obtain ⟨rfl, _⟩ := Rd_raw.1 hu'
    simp only [go_sem, Nat.reduceBEq]
    refine (markIntS_c (e.tab.heads) (q + 2) (by omega) _ _ _ _ m4).mono ?_
    rintro _ h4 ⟨rfl, m5⟩
    have m6 := m5.closeAt (A := A) (R := R) (j := 2) rfl
    generalize hq2 : q + 2 + cntG cI (e.tab.heads) = q2 at *
    simp only [ix_nat hb, go_sem, Nat.reduceBEq, Nat.reduceAdd]
    obtain ⟨u3, m7⟩ := m6.openAt (A := A) (R := R) (j := 3) rfl
    refine hsem_my_get (A := A) (R := R) (j := 3) tyS34 m7.swap hpos (d := .raw u3) rfl (by omega) fun u' hu' => ?_
    obtain ⟨rfl, _⟩ := Rd_raw.1 hu'
    simp only [go_sem, Nat.reduceBEq]
    refine (markSlotS_c (e.tab.slots) (q2) (by omega) _ _ _ _ m7).mono ?_
    rintro _ h5 ⟨rfl, m8⟩
    have m9 := m8.closeAt (A := A) (R := R) (j := 3) rfl
    generalize hq3 : q2 + cntG cS (e.tab.slots) = q3 at *
    have wq30 : IntKind.i64.wrap (((q3 : Nat) : Int) + 1) = ((q3 + 1 : Nat) : Int) := by rw [IntWalk.i64_in _ (by omega)]; rfl
    have wq31 : IntKind.i64.wrap (((q3 + 1 : Nat) : Int) + 1) = ((q3 + 2 : Nat) : Int) := by rw [IntWalk.i64_in _ (by omega)]; rfl
    simp only [ix_nat hb, go_sem, Nat.reduceBEq, Nat.reduceAdd]
    refine hsem_my_cell (A := A) (R := R) (j := 4) tyS3 rfl m9 hpos (Nat.le_of_ble_eq_true rfl) rfl rfl (by omega) fun h6 m10 => ?_
    simp only [ix_nat hb, wq30, go_sem, Nat.reduceBEq, Nat.reduceAdd]
    refine hsem_my_cell (A := A) (R := R) (j := 5) tyS3 rfl m10 hpos (Nat.le_of_ble_eq_true rfl) rfl rfl (by omega) fun h7 m11 => ?_
    simp only [wq31, go_sem, Nat.reduceBEq]
    rw [wsu]
    have hend : k + cntG cB (l.take (i + 1)) = q3 + 2 := by omega
    refine Again.intro (i + 1) (by first | omega | (simp only; omega)) ⟨hb, ?_⟩ (by simp only [hend]; exact (by repeat (first | exact wkF_e | refine wkF_c rfl ?_))) wkB_e rfl
    have m12 := fin _ m11
    rw [← hR] at m12
    exact m12
  · have hb : i = l.length := by simp at hb; omega
    subst hb
    have m1 : My h0 h1 ((.row 6 ((mkG cB mkB (l.take l.length) k).flatMap Bk.dt ++ (l.drop l.length).flatMap Bk.dt), .slice a l.length c) :: bag) := m1
    rw [List.take_length, List.drop_length, List.flatMap_nil, List.append_nil] at m1
    rw [List.take_length]
    exact ⟨rfl, m1⟩
theorem heldBlockS_c (l : List (Bk)) (k : Nat) (hk : k + cntG cB l ≤ 4611686018427387904) (sl : Value) (h : Hp) (rd : Rd h (.row 6 ((mkG cB mkB l k).flatMap Bk.dt)) sl) :
    ACalls Tryz.prog 92 #[sl, .int .i64 (k : Nat)] h (Is (.int .i64 ((k + cntG cB l : Nat))) h) := by
  have hml := mkG_len (c := cB) (m := mkB) l k
  obtain ⟨a, c, xs, rfl, hc, hr, hat⟩ := rd.rows (by decide) l.length (by rw [fm_len Bk.dt_len, hml])
  (refine enter Tryz.func92 rfl rfl (by kernel_rfl) [] ?_; simp only [go_sem])
  refine aloop (ι := Nat) (fun i => [(5, .val (.int .i64 (i : Nat))), (1, .val (.int .i64 ((k + cntG cB (l.take i) : Nat)))), (0, .val (.slice a l.length c))]) (fun _ => []) (fun i h' => i ≤ l.length ∧ Ext h h') (fun i => l.length - i) 0
    ⟨Nat.zero_le _, Ext.refl _⟩ (by repeat (first | exact wkF_e | refine wkF_c rfl ?_)) wkB_e rfl ?_
  rintro i h1 ⟨hi, x1⟩
  have hi : i ≤ l.length := hi
  have x1 : Ext h h1 := x1
  simp only [go_sem, Nat.reduceBEq]
  refine Br.intro (fun hb => ?_) (fun hb => ?_) <;> (try simp only [hb, go_sem, Nat.reduceBEq])
  · have hb : i < l.length := by simpa using hb
    obtain ⟨b, off, rfl, hat0⟩ := hat (by omega)
    have hat1 := hat0.mono x1
    have hr1 := hr.mono x1
    obtain ⟨e, he, hm⟩ := get_lt hb
    have hsn := cntG_snoc (c := cB) he
    rw [cB] at hsn
    have hge := mkG_get (c := cB) (m := mkB) he k
    have hle := cntG_le (c := cB) he
    rw [cB] at hle
    have hq0 : k + cntG cB (l.take i) ≤ 4611686018427387904 := by omega
    have hlm : l.length ≤ 4611686018427387904 := by have := cntG_pos (c := cB) cB_pos l; omega
    have wsu := wrap_succ (i := i) (by omega)
    generalize hq : k + cntG cB (l.take i) = q at *
    have wq0 : IntKind.i64.wrap (((q : Nat) : Int) + 1) = ((q + 1 : Nat) : Int) := by rw [IntWalk.i64_in _ (by omega)]; rfl
    have wq1 : IntKind.i64.wrap (((q + 1 : Nat) : Int) + 1) = ((q + 2 : Nat) : Int) := by rw [IntWalk.i64_in _ (by omega)]; rfl
    simp only [ix_nat hb, go_sem, Nat.reduceBEq]
    refine hsem_cell (f := Bk.dt) (o := 0) Bk.dt_len tyS3 hat1 hr1 hge (by decide) (by rw [Bk.dt_eq]; rfl) ?_ fun y0 r0 => ?_
    · omega
    obtain ⟨rfl, _⟩ := Rd_raw.1 r0
    simp only [go_sem, Nat.reduceBEq]
    simp only [mkB, decide_true, Bool.not_true, ix_nat hb, wq0, go_sem, Nat.reduceBEq]
    refine hsem_cell (f := Bk.dt) (o := 1) Bk.dt_len tyS4 hat1 hr1 hge (by decide) (by rw [Bk.dt_eq]; rfl) ?_ fun y1 r1 => ?_
    · omega
    obtain ⟨rfl, _⟩ := Rd_raw.1 r1
    simp only [go_sem, Nat.reduceBEq, Int.reduceEq, not_false_eq_true]
    simp only [mkB, mbit, decide_true, Bool.not_true, go_sem]
    simp only [ix_nat hb, wq1, go_sem, Nat.reduceBEq]
    refine hsem_cell (f := Bk.dt) (o := 2) Bk.dt_len tyS22 hat1 hr1 hge (by decide) (by rw [Bk.dt_eq]; rfl) ?_ fun y2 r2 => ?_
    · omega
    simp only [go_sem, Nat.reduceBEq]
    refine (heldIntS_c (e.tab.heads) (q + 2) (by omega) _ _ r2).mono ?_
    rintro _ h2 ⟨rfl, x2⟩
    have hat2 := hat1.mono x2
    have hr2 := hr1.mono x2
    have X2 := x1.trans x2
    generalize hq2 : q + 2 + cntG cI (e.tab.heads) = q2 at *
    have hneg2 : decide (((q2 : Nat) : Int) < 0) = false := decide_eq_false (by omega)
    simp only [hneg2, ix_nat hb, go_sem, Nat.reduceBEq, Nat.reduceAdd]
    refine hsem_cell (f := Bk.dt) (o := 3) Bk.dt_len tyS34 hat2 hr2 hge (by decide) (by rw [Bk.dt_eq]; rfl) ?_ fun y3 r3 => ?_
    · omega
    simp only [go_sem, Nat.reduceBEq]
    have fr3 : (mkB q e).tab.slots = mkG cS mkS (e.tab.slots) (q2) := by rw [← hq2]; rfl
    rw [fr3] at r3
    refine (heldSlotS_c (e.tab.slots) (q2) (by omega) _ _ r3).mono ?_
    rintro _ h3 ⟨rfl, x3⟩
    have hat3 := hat2.mono x3
    have hr3 := hr2.mono x3
    have X3 := X2.trans x3
    generalize hq3 : q2 + cntG cS (e.tab.slots) = q3 at *
    have wq30 : IntKind.i64.wrap (((q3 : Nat) : Int) + 1) = ((q3 + 1 : Nat) : Int) := by rw [IntWalk.i64_in _ (by omega)]; rfl
    have wq31 : IntKind.i64.wrap (((q3 + 1 : Nat) : Int) + 1) = ((q3 + 2 : Nat) : Int) := by rw [IntWalk.i64_in _ (by omega)]; rfl
    have hneg3 : decide (((q3 : Nat) : Int) < 0) = false := decide_eq_false (by omega)
    simp only [hneg3, ix_nat hb, go_sem, Nat.reduceBEq, Nat.reduceAdd]
    refine hsem_cell (f := Bk.dt) (o := 4) Bk.dt_len tyS3 hat3 hr3 hge (by decide) (by rw [Bk.dt_eq]; rfl) ?_ fun y4 r4 => ?_
    · omega
    have fv4 : (mkB q e).tab.next = ((q3 : Nat) : Int) := by rw [← hq3, ← hq2]; rfl
    rw [fv4] at r4
    obtain ⟨rfl, _⟩ := Rd_raw.1 r4
    simp only [ix_nat hb, wq30, go_sem, Nat.reduceBEq, Nat.reduceAdd]
    try simp only [decide_true, Bool.not_true, ix_nat hb, wq30, wq31, go_sem, Nat.reduceBEq, Nat.reduceAdd, Nat.reduceLeDiff, Nat.reduceEqDiff, Int.reduceEq, not_false_eq_true]
    refine hsem_cell (f := Bk.dt) (o := 5) Bk.dt_len tyS3 hat3 hr3 hge (by decide) (by rw [Bk.dt_eq]; rfl) ?_ fun y5 r5 => ?_
    · omega
    have fv5 : (mkB q e).tab.count = ((q3 + 1 : Nat) : Int) := by rw [← hq3, ← hq2]; rfl
    rw [fv5] at r5
    obtain ⟨rfl, _⟩ := Rd_raw.1 r5
    simp only [wq31, go_sem, Nat.reduceBEq]
    try simp only [decide_true, Bool.not_true, ix_nat hb, wq30, wq31, go_sem, Nat.reduceBEq, Nat.reduceAdd, Nat.reduceLeDiff, Nat.reduceEqDiff, Int.reduceEq, not_false_eq_true]
    rw [wsu]
    have hend : k + cntG cB (l.take (i + 1)) = q3 + 2 := by omega
    exact Again.intro (i + 1) (by first | omega | (simp only; omega)) ⟨hb, X3⟩ (by simp only [hend]; exact (by repeat (first | exact wkF_e | refine wkF_c rfl ?_))) wkB_e rfl
  · have hb : i = l.length := by simp at hb; omega
    subst hb
    rw [List.take_length]
    exact ⟨rfl, x1⟩
end Go.Proofs.YtedfplodobpgfaaGreatDoor
namespace Go.Proofs.YtedfplodobpgfaaGreatDoor
set_option maxRecDepth 8000
open Go Go.Sx
theorem markHeap_c (l : List Bk) (k : Nat) (hk : k + cntG cB l ≤ 4611686018427387904) (s : Value) (bag : Bag) (h0 h : Hp) (m : My h0 h ((.row 6 (l.flatMap Bk.dt), s) :: bag)) :
    ACalls Tryz.prog 33 #[.agg #[s], .int .i64 (k : Nat)] h fun v h' => v = .int .i64 ((k + cntG cB l : Nat)) ∧ My h0 h' ((.row 6 ((mkG cB mkB l k).flatMap Bk.dt), s) :: bag) := by
  obtain ⟨a1, c1, rfl, _⟩ := m.row_shape (by decide) l.length (fm_len Bk.dt_len _)
  (refine enter Tryz.func33 rfl rfl (by kernel_rfl) [] ?_; simp only [go_sem, Nat.reduceBEq])
  refine (markBlockS_c l k (by omega) _ _ _ _ m).mono ?_
  rintro _ h1 ⟨rfl, m1⟩
  simp only [go_sem, Nat.reduceBEq]
  first | exact m1 | exact ⟨rfl, m1⟩
theorem heldHeap_c (l : List Bk) (k : Nat) (hk : k + cntG cB l ≤ 4611686018427387904) (s : Value) (h : Hp) (r : RdB h (mkG cB mkB l k) s) :
    ACalls Tryz.prog 37 #[.agg #[s], .int .i64 (k : Nat)] h (Is (.int .i64 ((k + cntG cB l : Nat))) h) := by
  obtain ⟨a1, c1, _, rfl, _⟩ := r.rows (by decide) _ (fm_len Bk.dt_len _)
  (refine enter Tryz.func37 rfl rfl (by kernel_rfl) [] ?_; simp only [go_sem, Nat.reduceBEq])
  refine (heldBlockS_c l k (by omega) _ _ r).mono ?_
  rintro _ h1 ⟨rfl, x1⟩
  simp only [nat_neg, go_sem, Nat.reduceBEq]
  exact ⟨rfl, x1⟩
end Go.Proofs.YtedfplodobpgfaaGreatDoor
namespace Go.Proofs.YtedfplodobpgfaaGreatDoor
set_option maxRecDepth 8000
open Go Go.Sx Go.ChangeShapes Go.WideShapes Go.RowKit Go.ChangeMaps
section
variable {H : Type} {enc : TypeId × Value → H} {w : World} {base : Nat} {sp : Nat → Bool} {held : Bool}
theorem openKey {n : Nat} {cs : List Value} {x : DataW H × List MemPlace} (h : DataW.trod enc Tryz.prog w base sp held n 27 cs = some x) : ∃ k : Ky, k.ok ∧ RdL (vis w) k.dt cs := by
  obtain ⟨hl, m, _, hf⟩ := trod_fields Tryz.underlying27 h
  have hl : cs.length = 3 := hl
  match cs, hl with
  | [c0, c1, c2], _ =>
    obtain ⟨y0, h0⟩ := hf 0 _ rfl
    obtain ⟨y1, h1⟩ := hf 1 _ rfl
    obtain ⟨y2, h2⟩ := hf 2 _ rfl
    obtain ⟨b, e0⟩ := trod_bool1 Tryz.underlying4 h0
    obtain ⟨k, e1, b1⟩ := trod_one Tryz.underlying3 h1
    obtain ⟨s, e2, _, b2⟩ := DataW.trod_string Tryz.underlying9 h2
    have e0 : [c0] = [.bool b] := e0
    have e1 : [c1] = [.int .i64 k] := e1
    have e2 : [c2] = [.string s] := e2
    cases e0; cases e1; cases e2
    exact ⟨⟨b, k, s⟩, ⟨b1, b2⟩, by simp only [Ky.dt, RdL_cc, Rd_raw, RdL_nil, true_and, and_true]; exact ⟨rfl, rfl, rfl⟩⟩
theorem openV_ : ∀ (n : Nat) {cs : List Value} {x : DataW H × List MemPlace}, DataW.trod enc Tryz.prog w base sp held n 30 cs = some x → ∃ v : V, v.ok ∧ RdL (vis w) v.dt cs := by
  intro n
  induction n using Nat.strongRecOn with
  | _ n ih =>
    intro cs x h
    obtain ⟨hl, m, hm, hf⟩ := trod_fields Tryz.underlying30 h
    have hl : cs.length = 5 := hl
    match cs, hl with
    | [c0, c1, c2, c3, c4], _ =>
      obtain ⟨y0, h0⟩ := hf 0 _ rfl
      obtain ⟨y1, h1⟩ := hf 1 _ rfl
      obtain ⟨y2, h2⟩ := hf 2 _ rfl
      obtain ⟨y3, h3⟩ := hf 3 _ rfl
      obtain ⟨y4, h4⟩ := hf 4 _ rfl
      obtain ⟨k, e0, b0⟩ := trod_one Tryz.underlying3 h0
      obtain ⟨q, e1, b1⟩ := trod_one Tryz.underlying3 h1
      obtain ⟨s, e2, _, b2⟩ := DataW.trod_string Tryz.underlying9 h2
      obtain ⟨nx, e3, b3⟩ := trod_one Tryz.underlying3 h3
      have e0 : [c0] = [.int .i64 k] := e0
      have e1 : [c1] = [.int .i64 q] := e1
      have e2 : [c2] = [.string s] := e2
      have e3 : [c3] = [.int .i64 nx] := e3
      cases e0; cases e1; cases e2; cases e3
      obtain ⟨es, v, e4, hok, hlen, hrd⟩ := open_list (α := Ky × V) (f := edt) (ok := fun e => e.1.ok ∧ e.2.ok) (z := 8) Tryz.underlying28 (by kernel_rfl) (by decide) (fun n' cs' x' hn' h' => by
        obtain ⟨hl', m', hm', hf'⟩ := trod_fields Tryz.underlying132 h'
        obtain ⟨z0, g0⟩ := hf' 0 _ rfl
        obtain ⟨z1, g1⟩ := hf' 1 _ rfl
        have hl' : cs'.length = 8 := hl'
        obtain ⟨ky, ko, kr⟩ := openKey g0
        obtain ⟨v', vo, vr⟩ := ih m' (by omega) g1
        have kr : RdL (vis w) ky.dt (cs'.take 3) := kr
        have vr : RdL (vis w) v'.dt ((cs'.drop 3).take 5) := vr
        refine ⟨(ky, v'), ⟨ko, vo⟩, ?_⟩
        have : cs' = cs'.take 3 ++ (cs'.drop 3).take 5 := by
          rw [List.take_of_length_le (l := cs'.drop 3) (by rw [List.length_drop]; omega), List.take_append_drop]
        rw [this]
        exact kr.append vr) h4
      have e4 : [c4] = [v] := e4
      cases e4
      refine ⟨⟨k, q, s, nx, es⟩, ?_, ?_⟩
      · simp only [V.ok]
        refine ⟨b0, b1, b2, b3, hlen, ?_⟩
        have : ∀ l : List (Ky × V), (∀ e ∈ l, e.1.ok ∧ e.2.ok) → V.oks l := by
          intro l
          induction l with
          | nil => intro _; simp only [V.oks]
          | cons e r ihl =>
            intro hall
            obtain ⟨ky, v'⟩ := e
            have := hall (ky, v') (by simp)
            simp only [V.oks]
            exact ⟨this.1.1, this.1.2, this.2, ihl fun e he => hall e (by simp [he])⟩
        exact this es hok
      · exact RdL_val_mk (v := ⟨k, q, s, nx, es⟩) hrd
theorem openV {v0 : Value} {d : DataW H} {ps : List MemPlace} {r : Reach} {b0 : Nat} (hval : Value.okWide Tryz.prog w r b0 30 v0) (h : DataW.Trod enc Tryz.prog w base sp held 30 v0 d ps) :
    ∃ (v : V) (sl : Value), v0 = .agg #[.int .i64 v.kind, .int .i64 v.num, .string v.str, .int .i64 v.next, sl] ∧ v.ok ∧ RdE (vis w) v.items sl := by
  obtain ⟨n, h⟩ := h
  obtain ⟨v, hok, hr⟩ := openV_ n h
  obtain ⟨sl, he, hs⟩ := RdL_val hr
  unfold Value.okWide at hval
  rw [Tryz.underlying30] at hval
  obtain ⟨cs, rfl, _⟩ := hval
  refine ⟨v, sl, ?_, hok, hs⟩
  have : cs.toList = _ := he
  rw [← this]
theorem openValueS {v0 : Value} {d : DataW H} {ps : List MemPlace} (h : DataW.Trod enc Tryz.prog w base sp held 54 v0 d ps) (h1 : oneCell v0 = true) :
    ∃ (l : List V), (∀ k ∈ l, k.ok) ∧ l.length ≤ maxLen ∧ Rd (vis w) (.row 5 (l.flatMap V.dt)) v0 := by
  obtain ⟨n, h⟩ := h
  obtain ⟨l, v, e, hok, hlen, hrd⟩ := open_list (α := V) (f := V.dt) (ok := V.ok) (z := 5) Tryz.underlying54 (by kernel_rfl) (by decide) (fun n' cs' x' _ h' => openV_ n' h') h
  have : v0 = v := by cases v0 <;> first | (simp [Value.cells] at e; exact e) | (simp [oneCell] at h1)
  subst this
  exact ⟨l, hok, hlen, hrd⟩
theorem openKeyS {v0 : Value} {d : DataW H} {ps : List MemPlace} (h : DataW.Trod enc Tryz.prog w base sp held 78 v0 d ps) (h1 : oneCell v0 = true) :
    ∃ (l : List Ky), (∀ k ∈ l, k.ok) ∧ l.length ≤ maxLen ∧ Rd (vis w) (.row 3 (l.flatMap Ky.dt)) v0 := by
  obtain ⟨n, h⟩ := h
  obtain ⟨l, v, e, hok, hlen, hrd⟩ := open_list (α := Ky) (f := Ky.dt) (ok := Ky.ok) (z := 3) Tryz.underlying78 (by kernel_rfl) (by decide) (fun n' cs' x' _ h' => openKey h') h
  have : v0 = v := by cases v0 <;> first | (simp [Value.cells] at e; exact e) | (simp [oneCell] at h1)
  subst this
  exact ⟨l, hok, hlen, hrd⟩
end
end Go.Proofs.YtedfplodobpgfaaGreatDoor
namespace Go.Proofs.YtedfplodobpgfaaGreatDoor
set_option maxRecDepth 8000
open Go Go.Sx Go.ChangeShapes Go.WideShapes Go.RowKit Go.ChangeMaps
section
variable {H : Type} {enc : TypeId × Value → H} {w : World} {base : Nat} {sp : Nat → Bool} {held : Bool}
theorem openSl_ {n : Nat} {cs : List Value} {x : DataW H × List MemPlace} (h : DataW.trod enc Tryz.prog w base sp held n 129 cs = some x) : ∃ s : Sl, s.ok ∧ RdL (vis w) s.dt cs := by
  obtain ⟨hl, m, hm, hf⟩ := trod_fields Tryz.underlying129 h
  have hl : cs.length = 10 := hl
  obtain ⟨z0, g0⟩ := hf 0 _ rfl
  obtain ⟨z1, g1⟩ := hf 1 _ rfl
  obtain ⟨z2, g2⟩ := hf 2 _ rfl
  obtain ⟨z3, g3⟩ := hf 3 _ rfl
  obtain ⟨ky, ko, kr⟩ := openKey g0
  obtain ⟨v, vo, vr⟩ := openV_ _ g1
  obtain ⟨b, e2⟩ := trod_bool1 Tryz.underlying4 g2
  obtain ⟨k, e3, b3⟩ := trod_one Tryz.underlying3 g3
  have kr : RdL (vis w) ky.dt (cs.take 3) := kr
  have vr : RdL (vis w) v.dt ((cs.drop 3).take 5) := vr
  have e2 : (cs.drop 8).take 1 = [.bool b] := e2
  have e3 : (cs.drop 9).take 1 = [.int .i64 k] := e3
  refine ⟨⟨ky, v, b, k⟩, ⟨ko, vo, b3⟩, ?_⟩
  have e : cs = cs.take 3 ++ ((cs.drop 3).take 5 ++ [.bool b, .int .i64 k]) := by
    match cs, hl with
    | [c0, c1, c2, c3, c4, c5, c6, c7, c8, c9], _ =>
      simp at e2 e3
      subst e2
      subst e3
      rfl
  rw [e]
  unfold Sl.dt
  refine kr.append (vr.append ?_)
  simp only [RdL_cc, Rd_raw, RdL_nil, true_and, and_true]
  exact ⟨rfl, rfl⟩
theorem openTb_ {n : Nat} {cs : List Value} {x : DataW H × List MemPlace} (h : DataW.trod enc Tryz.prog w base sp held n 25 cs = some x) : ∃ t : Tb, t.ok ∧ RdL (vis w) t.dt cs := by
  obtain ⟨hl, m, hm, hf⟩ := trod_fields Tryz.underlying25 h
  have hl : cs.length = 5 := hl
  match cs, hl with
  | [c0, c1, c2, c3, c4], _ =>
    obtain ⟨y0, h0⟩ := hf 0 _ rfl
    obtain ⟨y1, h1⟩ := hf 1 _ rfl
    obtain ⟨y2, h2⟩ := hf 2 _ rfl
    obtain ⟨y3, h3⟩ := hf 3 _ rfl
    obtain ⟨y4, h4⟩ := hf 4 _ rfl
    obtain ⟨b, e0⟩ := trod_bool1 Tryz.underlying4 h0
    obtain ⟨nx, e3, b3⟩ := trod_one Tryz.underlying3 h3
    obtain ⟨ct, e4, b4⟩ := trod_one Tryz.underlying3 h4
    have e0 : [c0] = [.bool b] := e0
    have e3 : [c3] = [.int .i64 nx] := e3
    have e4 : [c4] = [.int .i64 ct] := e4
    cases e0; cases e3; cases e4
    obtain ⟨hs, v1, e1, hok, hlen, hrd⟩ := open_list (α := Int) (f := idt) (ok := fun n => IntKind.i64.min ≤ n ∧ n ≤ IntKind.i64.max) (z := 1) Tryz.underlying22 (by kernel_rfl) (by decide) (fun n' cs' x' _ h' => by
      obtain ⟨q, e, b⟩ := trod_one Tryz.underlying3 h'
      subst e
      refine ⟨q, b, ?_⟩
      simp only [idt, RdL_cc, Rd_raw, RdL_nil, true_and, and_true]
      rfl) h1
    have e1 : [c1] = [v1] := e1
    cases e1
    obtain ⟨ss, v2, e2, sok, slen, srd⟩ := open_list (α := Sl) (f := Sl.dt) (ok := Sl.ok) (z := 10) Tryz.underlying23 (by kernel_rfl) (by decide) (fun n' cs' x' _ h' => openSl_ h') h2
    have e2 : [c2] = [v2] := e2
    cases e2
    refine ⟨⟨b, hs, ss, nx, ct⟩, ⟨hok, sok, b3, b4, hlen, slen⟩, ?_⟩
    simp only [Tb.dt, RdL_cc, Rd_raw, RdL_nil, true_and, and_true]
    exact ⟨rfl, hrd, srd, rfl, rfl⟩
theorem openT {v0 : Value} {d : DataW H} {ps : List MemPlace} {r : Reach} {b0 : Nat} (hval : Value.okWide Tryz.prog w r b0 25 v0) (h : DataW.Trod enc Tryz.prog w base sp held 25 v0 d ps) :
    ∃ (t : Tb) (s u : Value), v0 = .agg #[.bool t.hashed, s, u, .int .i64 t.next, .int .i64 t.count] ∧ t.ok ∧ RdI (vis w) t.heads s ∧ RdT (vis w) t.slots u := by
  obtain ⟨n, h⟩ := h
  obtain ⟨t, hok, hr⟩ := openTb_ h
  obtain ⟨s, u, he, hs, hu⟩ := RdL_tab hr
  unfold Value.okWide at hval
  rw [Tryz.underlying25] at hval
  obtain ⟨cs, rfl, _⟩ := hval
  refine ⟨t, s, u, ?_, hok, hs, hu⟩
  have : cs.toList = _ := he
  rw [← this]
theorem openKey1 {v0 : Value} {d : DataW H} {ps : List MemPlace} {r : Reach} {b0 : Nat} (hval : Value.okWide Tryz.prog w r b0 27 v0) (h : DataW.Trod enc Tryz.prog w base sp held 27 v0 d ps) :
    ∃ k : Ky, v0 = .agg #[.bool k.text, .int .i64 k.num, .string k.str] ∧ k.ok := by
  obtain ⟨n, h⟩ := h
  obtain ⟨k, hok, hr⟩ := openKey h
  have he := RdL_key hr
  unfold Value.okWide at hval
  rw [Tryz.underlying27] at hval
  obtain ⟨cs, rfl, _⟩ := hval
  refine ⟨k, ?_, hok⟩
  have : cs.toList = _ := he
  rw [← this]
theorem openBk_ {n : Nat} {cs : List Value} {x : DataW H × List MemPlace} (h : DataW.trod enc Tryz.prog w base sp held n 154 cs = some x) : ∃ t : Bk, t.ok ∧ RdL (vis w) t.dt cs := by
  obtain ⟨hl, m, hm, hf⟩ := trod_fields Tryz.underlying154 h
  have hl : cs.length = 6 := hl
  obtain ⟨z0, g0⟩ := hf 0 _ rfl
  obtain ⟨z1, g1⟩ := hf 1 _ rfl
  obtain ⟨k, e0, b0⟩ := trod_one Tryz.underlying3 g0
  obtain ⟨t, tok, tr⟩ := openTb_ g1
  have e0 : (cs.drop 0).take 1 = [.int .i64 k] := e0
  have tr : RdL (vis w) t.dt ((cs.drop 1).take 5) := tr
  refine ⟨⟨k, t⟩, ⟨b0, tok⟩, ?_⟩
  have e : cs = .int .i64 k :: (cs.drop 1).take 5 := by
    match cs, hl with
    | [c0, c1, c2, c3, c4, c5], _ =>
      simp at e0
      subst e0
      rfl
  rw [e]
  unfold Bk.dt
  exact RdL_cc.2 ⟨Rd_raw.2 ⟨rfl, rfl⟩, tr⟩
theorem openH {v0 : Value} {d : DataW H} {ps : List MemPlace} {r : Reach} {b0 : Nat} (hval : Value.okWide Tryz.prog w r b0 53 v0) (h : DataW.Trod enc Tryz.prog w base sp held 53 v0 d ps) :
    ∃ (l : List Bk) (s : Value), v0 = .agg #[s] ∧ (∀ b ∈ l, b.ok) ∧ l.length ≤ maxLen ∧ RdB (vis w) l s := by
  obtain ⟨n, h⟩ := h
  unfold Value.okWide at hval
  rw [Tryz.underlying53] at hval
  obtain ⟨cs, rfl, _⟩ := hval
  obtain ⟨hl, m, hm, hf⟩ := trod_fields Tryz.underlying53 h
  have hl : cs.toList.length = 1 := hl
  obtain ⟨z0, g0⟩ := hf 0 _ rfl
  obtain ⟨l, v, e, hok, hlen, hrd⟩ := open_list (α := Bk) (f := Bk.dt) (ok := Bk.ok) (z := 6) Tryz.underlying51 (by kernel_rfl) (by decide) (fun n' cs' x' _ h' => openBk_ h') g0
  have e : (cs.toList.drop 0).take 1 = [v] := e
  have e2 : cs.toList = [v] := by rw [List.drop_zero, List.take_of_length_le (by omega)] at e; exact e
  refine ⟨l, v, ?_, hok, hlen, hrd⟩
  rw [← e2]
end
end Go.Proofs.YtedfplodobpgfaaGreatDoor
namespace Go.Proofs.YtedfplodobpgfaaGreatDoor
set_option maxRecDepth 8000
open Go Go.Sx Go.ChangeShapes Go.WideShapes Go.ChangeAt Go.RowKit Go.ChangeMaps
theorem own : ownKnob Tryz.prog.godebug = none := by kernel_rfl
theorem laidOut : laidOutB Tryz.prog = true := by kernel_rfl
theorem FnExactStoreValue_law (l : List Bk) (ok0 : ∀ b ∈ l, b.ok) (l0 : l.length ≤ maxLen) (s0 : Value) (v : V) (ok1 : v.ok) (s1 : Value) (h : Hp) (r0 : RdB h l s0) (r1 : RdE h v.items s1) (hE : Env h) : ACalls Tryz.prog 8 #[.agg #[s0], .agg #[.int .i64 v.kind, .int .i64 v.num, .string v.str, .int .i64 v.next, s1]] h (Is (.bool true) h) := by
  obtain ⟨sa0, sc0, _, rfl, _⟩ := r0.rows (by decide) l.length (fm_len Bk.dt_len _)
  obtain ⟨sa1, sc1, _, rfl, _⟩ := r1.rows (by decide) v.items.length (fm_len edt_len _)
  (refine enter Tryz.func8 rfl rfl (by kernel_rfl) [] ?_; simp only [go_sem, Nat.reduceBEq, Nat.reduceLeDiff])
  (refine (szHeap_c l ok0 l0 _ _ _ r0 (by decide) (by decide)).mono ?_; rintro _ _ ⟨rfl, rfl⟩; simp only [go_sem, Nat.reduceBEq])
  refine Br.intro (fun hb => ?_) (fun hb => ?_) <;> (try simp only [hb, go_sem, Nat.reduceBEq, Nat.reduceAdd, Nat.reduceLeDiff])
  · exact ⟨rfl, Ext.refl _⟩
  have f : 0 ≤ less 1048576 (szG Bk.bulk l) := by simpa using hb
  (refine (szValue_c v ok1 _ _ _ r1 f (less_le (by decide))).mono ?_; rintro _ _ ⟨rfl, rfl⟩; simp only [go_sem, Nat.reduceBEq])
  rw [less_add f]
  refine Br.intro (fun hb => ?_) (fun hb => ?_) <;> (try simp only [hb, go_sem, Nat.reduceBEq])
  · exact ⟨rfl, Ext.refl _⟩
  have f : 0 ≤ less 1048576 ((szG Bk.bulk l) + v.bulk) := by simpa using hb
  have f : ((szG Bk.bulk l) + v.bulk) ≤ 1048576 := by unfold less at f; split at f <;> omega
  have hb0 : szG Bk.bulk l ≤ 1048576 := by omega
  have hC0 := cntB_bulk l
  have hb1 : v.bulk ≤ 1048576 := by omega
  have hB1 := V.bulk_eq v
  have hC1 := cntEs_bulk v.items
  have hLn := szG_len (w := Bk.bulk) l
  have hW := storeOf_bulk l v
  have hWb := V.bulk_eq (storeOf l v).2.1
  have hWn := szG_len (w := Bk.bulk) (storeOf l v).1
  have hR0 := cntB_bulk (storeOf l v).1
  have hR1 := cntEs_bulk (storeOf l v).2.1.items
  refine regionD_intro (lb := [31, 33]) (by kernel_rfl) ?_
  simp only [go_sem, Nat.reduceBEq, Nat.reduceLeDiff]
  refine (toHeap_c l hb0 _ _ r0).mono ?_
  rintro _ h1 ⟨a1, c1, rfl, m1⟩
  have M1 := m1
  simp only [go_sem, Nat.reduceBEq, Nat.reduceAdd, Nat.reduceLeDiff]
  refine (toV_c v hb1 _ _ (r1.mono M1.ext)).mono ?_
  rintro _ h2 ⟨a2, c2, rfl, m2⟩
  have M2 := M1.add m2
  simp only [go_sem, Nat.reduceBEq]
  refine (sStoreValue l v (by omega) (by omega) _ _ _ (M2.drop).rd M2.rd).mono ?_
  rintro _ h3 ⟨a3_0, c3_0, a3_1, c3_1,  rfl, m3⟩
  have M3 := M2.add m3
  simp only [go_sem, Nat.reduceBEq, Nat.reduceAdd, Nat.reduceLeDiff]
  have M4 := M3.fourth
  have M5 := M4.drop
  have M6 := M5.third
  have M7 := M6.drop
  refine (toHeap_c l hb0 _ _ (r0.mono M7.ext)).mono ?_
  rintro _ h8 ⟨a8, c8, rfl, m8⟩
  have M8 := M7.add m8
  simp only [go_sem, Nat.reduceBEq, Nat.reduceAdd, Nat.reduceLeDiff]
  refine (toV_c v hb1 _ _ (r1.mono M8.ext)).mono ?_
  rintro _ h9 ⟨a9, c9, rfl, m9⟩
  have M9 := M8.add m9
  simp only [go_sem, Nat.reduceBEq, Nat.reduceAdd, Nat.reduceLeDiff]
  refine (iStoreValue l v (by omega) (by omega) _ _ _ (M9.drop).rd M9.rd (hE.ext M9.ext)).mono ?_
  rintro _ h10 ⟨a10_0, c10_0, a10_1, c10_1,  rfl, m10⟩
  have M10 := M9.add m10
  simp only [go_sem, Nat.reduceBEq, Nat.reduceAdd, Nat.reduceLeDiff]
  (refine (eqHeap_c (storeOf l v).1 (by omega) _ _ _ M10.rd (M10.drop.drop.drop.drop).rd).mono ?_; rintro _ _ ⟨rfl, rfl⟩; simp only [go_sem, Nat.reduceBEq, Nat.reduceAdd, Nat.reduceLeDiff])
  (refine (eqValue_c (storeOf l v).2.1 (by omega) _ _ _ (M10.drop).rd (M10.drop.drop.drop.drop.drop).rd).mono ?_; rintro _ _ ⟨rfl, rfl⟩; simp only [go_sem, Nat.reduceBEq])
  refine regionD_intro (lb := [65, 66]) (by kernel_rfl) ?_
  simp only [go_sem, Nat.reduceBEq, Nat.reduceLeDiff]
  refine (toHeap_c l hb0 _ _ (r0.mono M10.ext)).mono ?_
  rintro _ h11 ⟨a11, c11, rfl, m11⟩
  have M11 := M10.add m11
  simp only [go_sem, Nat.reduceBEq]
  (refine (eqHeap_c l (by omega) _ _ _ (M11.drop.drop.drop.drop).rd M11.rd).mono ?_; rintro _ _ ⟨rfl, rfl⟩; simp only [go_sem, Nat.reduceBEq])
  have M12 := M11.drop
  refine regionD_intro (lb := [70, 71]) (by kernel_rfl) ?_
  simp only [go_sem, Nat.reduceBEq, Nat.reduceAdd, Nat.reduceLeDiff]
  refine (toV_c v hb1 _ _ (r1.mono M12.ext)).mono ?_
  rintro _ h13 ⟨a13, c13, rfl, m13⟩
  have M13 := M12.add m13
  simp only [go_sem, Nat.reduceBEq]
  (refine (eqValue_c v (by omega) _ _ _ (M13.drop.drop.drop).rd M13.rd).mono ?_; rintro _ _ ⟨rfl, rfl⟩; simp only [go_sem, Nat.reduceBEq, Nat.reduceLeDiff])
  have M14 := M13.drop
  have M15 := M14.fourth
  refine (markHeap_c l 1 (by omega) _ _ _ _ M15).mono ?_
  rintro _ h16 ⟨rfl, M16⟩
  simp only [go_sem, Nat.reduceBEq, Nat.reduceAdd, Nat.reduceLeDiff]
  have M17 := M16.fourth
  refine (markValue_c v (1 + cntG cB l) (by omega) _ _ _ _ M17).mono ?_
  rintro _ h18 ⟨rfl, M18⟩
  simp only [nat_neg, go_sem, Nat.reduceBEq, Nat.reduceLeDiff]
  (refine (eqHeap_c (storeOf l v).1 (by omega) _ _ _ (M18.drop.drop).rd (M18.drop.drop.drop.drop).rd).mono ?_; rintro _ _ ⟨rfl, rfl⟩; simp only [go_sem, Nat.reduceBEq, Nat.reduceAdd, Nat.reduceLeDiff])
  (refine (eqValue_c (storeOf l v).2.1 (by omega) _ _ _ (M18.drop.drop.drop).rd (M18.drop.drop.drop.drop.drop).rd).mono ?_; rintro _ _ ⟨rfl, rfl⟩; simp only [go_sem, Nat.reduceBEq, Nat.reduceLeDiff])
  have M19 := M18.third
  refine (markHeap_c (storeOf l v).1 1 (by omega) _ _ _ _ M19).mono ?_
  rintro _ h20 ⟨rfl, M20⟩
  simp only [go_sem, Nat.reduceBEq, Nat.reduceAdd, Nat.reduceLeDiff]
  have M21 := M20.fourth
  refine (markValue_c (storeOf l v).2.1 (1 + cntG cB (storeOf l v).1) (by omega) _ _ _ _ M21).mono ?_
  rintro _ h22 ⟨rfl, M22⟩
  simp only [go_sem, Nat.reduceBEq, Nat.reduceLeDiff]
  refine (heldHeap_c (storeOf l v).1 1 (by omega) _ _ (M22.drop).rd).mono ?_
  rintro _ h23 ⟨rfl, e23⟩
  have M24 := M22.mono e23
  simp only [go_sem, Nat.reduceBEq]
  rw [nat_neg]
  simp only [go_sem, Nat.reduceBEq, Nat.reduceAdd, Nat.reduceLeDiff]
  refine (heldValue_c (storeOf l v).2.1 _ _ _ _ (1 + cntG cB (storeOf l v).1) (by omega) _ _ M24.rd).mono ?_
  rintro _ h25 ⟨rfl, e25⟩
  have M26 := M24.mono e25
  simp only [go_sem, Nat.reduceBEq]
  rw [nat_neg]
  simp only [go_sem, Nat.reduceBEq]
  refine regionD_intro (lb := [120, 122]) (by kernel_rfl) ?_
  simp only [go_sem, Nat.reduceBEq, Nat.reduceLeDiff]
  refine (toHeap_c l hb0 _ _ (r0.mono M26.ext)).mono ?_
  rintro _ h27 ⟨a27, c27, rfl, m27⟩
  have M27 := M26.add m27
  simp only [go_sem, Nat.reduceBEq, Nat.reduceAdd, Nat.reduceLeDiff]
  refine (toV_c v hb1 _ _ (r1.mono M27.ext)).mono ?_
  rintro _ h28 ⟨a28, c28, rfl, m28⟩
  have M28 := M27.add m28
  simp only [go_sem, Nat.reduceBEq]
  refine (iStoreValue l v (by omega) (by omega) _ _ _ (M28.drop).rd M28.rd (hE.ext M28.ext)).mono ?_
  rintro _ h29 ⟨a29_0, c29_0, a29_1, c29_1,  rfl, m29⟩
  have M29 := M28.add m29
  simp only [go_sem, Nat.reduceBEq, Nat.reduceAdd, Nat.reduceLeDiff]
  have M30 := M29.fourth
  have M31 := M30.drop
  have M32 := M31.third
  have M33 := M32.drop
  (refine (eqHeap_c (storeOf l v).1 (by omega) _ _ _ M33.rd (M33.drop.drop.drop.drop.drop.drop).rd).mono ?_; rintro _ _ ⟨rfl, rfl⟩; simp only [go_sem, Nat.reduceBEq, Nat.reduceAdd, Nat.reduceLeDiff])
  (refine (eqValue_c (storeOf l v).2.1 (by omega) _ _ _ (M33.drop).rd (M33.drop.drop.drop.drop.drop.drop.drop).rd).mono ?_; rintro _ _ ⟨rfl, rfl⟩; simp only [go_sem, Nat.reduceBEq, Nat.reduceLeDiff])
  refine (heldHeap_c (storeOf l v).1 1 (by omega) _ _ (M33.drop.drop.drop).rd).mono ?_
  rintro _ h34 ⟨rfl, e34⟩
  have M35 := M33.mono e34
  simp only [go_sem, Nat.reduceBEq]
  rw [nat_neg]
  simp only [go_sem, Nat.reduceBEq, Nat.reduceAdd, Nat.reduceLeDiff]
  refine (heldValue_c (storeOf l v).2.1 _ _ _ _ (1 + cntG cB (storeOf l v).1) (by omega) _ _ (M35.drop.drop).rd).mono ?_
  rintro _ h36 ⟨rfl, e36⟩
  have M37 := M35.mono e36
  simp only [go_sem, Nat.reduceBEq]
  rw [nat_neg]
  simp only [go_sem, Nat.reduceBEq]
  exact ⟨rfl, M37.ext⟩
theorem FnExactStoreValue_met (os : Os) (args : Array Value) : laidMetH Tryz.prog Rows.fnExactStoreValueRow.laid ((World.doorLaid Tryz.prog 400 os).forCall (fun _ _ => 0) ⟨#[], args, []⟩).memory :=
  laidMetH_of_parts3 (fuel := 8) (laidMet_of_run' 8 (by kernel_rfl) (by kernel_rfl)) (by kernel_rfl) (by kernel_rfl)
set_option maxRecDepth 100000 in
theorem FnExactStoreValue_lifted (os : Os) (started : os.Started) (H : Type) (enc : TypeId × Value → H) :
    ReturnsInHanded {} Tryz.checked os 8 .any (fun w args => (Rows.fnExactStoreValueSpec.pre enc Tryz.prog Tryz.f8 Rows.fnExactStoreValueRow.domain false w args ∧ laidMetH Tryz.prog Rows.fnExactStoreValueRow.laid w) ∧ sizedMet enc Tryz.prog Tryz.f8 (OpenSpec.ofChange Rows.fnExactStoreValueSpec) false w args) (Rows.fnExactStoreValueSpec.post enc Tryz.prog Tryz.f8 false true false false) := by
  refine returnsInHanded_of_change_and (C := Tryz.checked) (X := fun w _ => laidMetH Tryz.prog Rows.fnExactStoreValueRow.laid w) (fun _ _ _ hh h => h.of_heap hh) own started (by kernel_rfl) Tryz.func8
    (ChangeSpec.witness_shaped (enc := enc) (C := Tryz.checked) (os := os) (X := fun w _ => laidMetH Tryz.prog Rows.fnExactStoreValueRow.laid w) false (World.doorLaid Tryz.prog 400 os) #[.agg #[.slice none 0 0], .agg #[.int .i64 0, .int .i64 0, .string ⟨#[]⟩, .int .i64 0, .slice none 0 0]] 8 rfl (World.shaped_of_RefB (by kernel_rfl) (by kernel_rfl)) (by kernel_rfl) (by kernel_rfl) (by kernel_rfl) (FnExactStoreValue_met os _)) ?_
  intro W base args ds gs before hval0 hW _ _ hL _
  have hT : Pow (vis W) := pow_of (by kernel_rfl) (by rw [MakeChecks.laidMetH_plain _ _ _ (by kernel_rfl)] at hL; exact hL)
  have hE : Env (vis W) := env_of hT (by kernel_rfl) (by kernel_rfl) (by rw [MakeChecks.laidMetH_plain _ _ _ (by kernel_rfl)] at hL; exact hL)
  have hval : ∀ (j : Nat) t v, Tryz.f8.params[j]? = some t → args[j]? = some v → Value.okWide Tryz.prog W .any base t v := hval0
  have hW' := hW
  obtain ⟨p, q, hA0, hV, rfl, _, _⟩ := hW
  have hA : DataW.TrodAll enc Tryz.prog W 0 (fun _ => true) true Tryz.f8.params.toList args.toList ds p := hA0
  rw [Tryz.params8] at hA hval
  obtain ⟨v0, vs0, d0, ds0, p0, q0, hargs, rfl, rfl, h0, r0⟩ := trodAll_cons hA
  obtain ⟨v1, vs1, d1, ds1, p1, q1, rfl, rfl, rfl, h1, r1⟩ := trodAll_cons r0
  obtain ⟨rfl, rfl, rfl⟩ := trodAll_nil r1
  obtain rfl : args = #[v0, v1] := by cases args; simp_all
  obtain ⟨rfl, rfl⟩ := trodVars_none hV
  obtain ⟨a0, s0, rfl, w0, l0, e0⟩ := openH (hval 0 53 v0 rfl rfl) h0
  obtain ⟨a1, s1, rfl, w1, e1⟩ := openV (hval 1 30 v1 rfl rfl) h1
  clear hA0 hval0
  simp only [List.append_nil] at hW'
  exact (to_below (FnExactStoreValue_law a0 w0 l0 s0 a1 w1 s1 _ e0 e1 hE)).mono fun e W' ⟨he, hb⟩ => ⟨_, he, law_post laidOut (by kernel_rfl) rfl Tryz.underlying4 rfl hW' rfl rfl rfl hb⟩
theorem FnExactStoreValue_proved : Rows.FnExactStoreValueSaid :=
  OpenClaim.holds_of_wide 8 Tryz.f8 rfl rfl rfl rfl rfl rfl rfl ⟨rfl, rfl, rfl, rfl, rfl⟩ rfl rfl rfl rfl rfl (by kernel_rfl) Tryz.func8 (by kernel_rfl)
    (of_decide_eq_true (by kernel_rfl)) (by unfold Func.isWrapper; first | (rw [if_pos (by decide +kernel)]; kernel_rfl) | (rw [if_neg (by decide +kernel)]; exact ⟨rfl, rfl⟩))
    (fun os started H enc _ => FnExactStoreValue_lifted os started H enc)
theorem FnExactStoreValue_card : Rows.FnExactStoreValueCardSaid :=
  Claim7.holds_tied_plain_at .later [] Rows.fnExactStoreValueCard.laidKinds true Rows.fnExactStoreValueCard.stood.harness Rows.fnExactStoreValueCard.stood.looks
    FnExactStoreValue_proved (fun _ h => by cases h) (by kernel_rfl) (fun _ h => by cases h) fnExactStoreValue_row_tie rfl ⟨rfl, rfl⟩ (by kernel_rfl) rfl
    (fun f fn hf hfn => by
      obtain rfl : f = 8 := Option.some.inj ((show Tryz.prog.funcNamed Rows.fnExactStoreValueRow.func = some 8 by kernel_rfl).symm.trans hf) |>.symm
      obtain rfl : fn = Tryz.f8 := (Option.some.inj (Tryz.func8.symm.trans hfn)).symm
      exact ⟨by kernel_rfl, fun j t ht => by
        rw [Tryz.params8] at ht
        have hm : t ∈ [53, 30] := by simpa using Array.mem_of_getElem? ht
        have hall : ([53, 30].all fun u => !Tryz.prog.wantsStandIn u) = true := by kernel_rfl
        exact (show Tryz.prog.wantsStandIn t = false by simpa using List.all_eq_true.1 hall t hm)⟩)
    (by kernel_rfl)
end Go.Proofs.YtedfplodobpgfaaGreatDoor
