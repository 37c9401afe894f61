/-
  What IsHeap of the program and of the reference returns.
-/
import Derived.Test.YtedfplodobpgfaaGreatDoorHeld
import Derived.Test.YtedfplodobpgfaaGreatDoorTabI
namespace Go.Proofs.YtedfplodobpgfaaGreatDoor
set_option maxRecDepth 8000
open Go Go.Sx
/-- what blockWeight does -/
def Weighed (l : List Bk) (bw cw : Nat) (h0 : Hp) (ws : List Int) (i : Nat) (u : Value) (h' : Hp) : Prop := ∃ (n : Nat) (us : List Int), u = .int .i64 (n : Nat) ∧ Est l i n ∧ us.length = ws.length ∧ wInv l us ∧ wGrow ws us ∧ My h0 h' [(.row 1 (us.flatMap idt), .slice (some ⟨bw, 0, none⟩) l.length cw)]
def WeighI (l : List Bk) (a : Option Addr) (c bw cw : Nat) (h0 : Hp) (z : Nat) : Prop := ∀ (ws : List Int) (i : Nat) (h : Hp), zer ws ≤ z → wInv l ws → wPath l ws i → i < l.length → My h0 h [(.row 1 (ws.flatMap idt), .slice (some ⟨bw, 0, none⟩) l.length cw)] →
  ACalls Tryz.prog 139 #[.agg #[.slice a l.length c], .int .i64 (i : Nat), .slice (some ⟨bw, 0, none⟩) l.length cw] h (Weighed l bw cw h0 ws i)
theorem iWeigh (l : List Bk) (hb : szG Bk.bulk l ≤ 1099511627776) (hin : inR l) (a : Option Addr) (c bw cw : Nat) (h0 : Hp) (r : RdB h0 l (.slice a l.length c)) : ∀ z, WeighI l a c bw cw h0 z := fun z => Nat.strongRecOn z fun z ih ws i h hz wi wp hil m => by
  have hlen := szG_len (w := Bk.bulk) l
  obtain ⟨a1, c1, xs1, e1, hc1, hr1, hat1⟩ := r.rows (by decide) l.length (fm_len Bk.dt_len _)
  cases e1
  obtain ⟨b1, o1, rfl, hat1'⟩ := hat1 (by omega)
  have hwl := wi.len
  obtain ⟨x, hx, _⟩ := get_lt (l := ws) (i := i) (by omega)
  have hlow := wi.low i x hx
  obtain ⟨ys, hry, haty⟩ := m.at_
  have hi1 : i < l.length := hil
  (refine enter Tryz.func139 rfl rfl (by kernel_rfl) [] ?_; simp only [go_sem, Nat.reduceBEq])
  simp only [ix_nat hi1, go_sem, Nat.reduceBEq]
  refine hsem_num tyS3 (haty (by omega)) hry hx (by omega) ?_
  by_cases h0x : x = 0
  case neg =>
    simp only [decide_eq_false h0x, Bool.not_false, ix_nat hi1, go_sem, Nat.reduceBEq]
    refine hsem_num tyS3 (haty (by omega)) hry hx (by omega) ?_
    by_cases hn : x < 0
    · have hx1 : x = -1 := by omega
      subst hx1
      simp only [go_sem, Nat.reduceBEq]
      exact ⟨201, ws, rfl, Est.loop wp hx, rfl, wi, wGrow.refl ws, m⟩
    · simp only [decide_eq_false hn, ix_nat hi1, go_sem, Nat.reduceBEq]
      refine hsem_num tyS3 (haty (by omega)) hry hx (by omega) ?_
      simp only [go_sem, Nat.reduceBEq]
      exact ⟨x.toNat, ws, by rw [show ((x.toNat : Nat) : Int) = x by omega], wi.est i x hx (by omega), rfl, wi, wGrow.refl ws, m⟩
  subst h0x
  have hzs := zer_set (x := -1) hx (by decide)
  simp only [Bool.not_true, ix_nat hi1, go_sem, Nat.reduceBEq]
  obtain ⟨cn, hn, en⟩ := hold_num (es := ws) (b := bw) (cap := cw) (i := i) (by omega)
  rw [hwl] at hn
  obtain ⟨w, hw⟩ := hold_self (es := ws) (i := i) (by omega)
  refine hn.put1 (h0 := h0) (d := .raw (.int .i64 w)) tyS3 rfl rfl (by rw [en, hw]; exact m) (by omega) fun h5 m5 => ?_
  rw [en] at m5
  have hbk := blk_at hil
  have hsb := slots_bulk hbk
  obtain ⟨hsl, hsv⟩ := tab_slots (blk l i).tab
  simp only [ix_nat hi1, go_sem, Nat.reduceBEq, Nat.reduceAdd]
  refine hpure_base m5.ext (hsem_bslots tyS34 hat1' hr1 hbk (by omega) fun u ru => ?_)
  obtain ⟨a2, c2, xs2, rfl, hc2, hr2, hat2⟩ := ru.rows (by decide) (blk l i).tab.slots.length (fm_len Sl.dt_len _)
  simp only [go_sem, Nat.reduceBEq]
  refine aloop (ι := Nat × Nat × List Int) (fun x => [(35, .val (.int .i64 (x.1 : Nat))), (34, .val (.int .i64 ((blk l i).tab.slots.length : Nat))), (33, .val (.slice a2 (blk l i).tab.slots.length c2)), (7, .val (.int .i64 (x.2.1 : Nat))), (2, .val (.slice (some ⟨bw, 0, none⟩) l.length cw)), (1, .val (.int .i64 (i : Nat))), (3, .box 3 0)])
    (fun _ => [(3, [.slice (some ⟨b1, o1, none⟩) l.length c])])
    (fun x h' => x.1 ≤ (blk l i).tab.slots.length ∧ EstS l ((blk l i).tab.slots.take x.1) x.2.1 ∧ x.2.2.length = ws.length ∧ wInv l x.2.2 ∧ wGrow (ws.set i (-1)) x.2.2 ∧ My h0 h' [(.row 1 (x.2.2.flatMap idt), .slice (some ⟨bw, 0, none⟩) l.length cw)]) (fun x => (blk l i).tab.slots.length - x.1) (0, 1, ws.set i (-1))
    ⟨Nat.zero_le _, EstS.nil l, List.length_set, wi.mark, wGrow.refl _, m5⟩ (by repeat (first | exact wkF_e | refine wkF_c rfl ?_)) (wkB_c rfl wkB_e) rfl ?_
  rintro ⟨k, n, us⟩ h6 ⟨hk, es, ul, ui, ug, m6⟩
  have hk : k ≤ (blk l i).tab.slots.length := hk
  have es : EstS l ((blk l i).tab.slots.take k) n := es
  have ul : us.length = ws.length := ul
  have ui : wInv l us := ui
  have ug : wGrow (ws.set i (-1)) us := ug
  have m6 : My h0 h6 [(.row 1 (us.flatMap idt), .slice (some ⟨bw, 0, none⟩) l.length cw)] := m6
  have hn1 := es.pos
  have hn2 := es.cap
  simp only [go_sem, Nat.reduceBEq]
  refine Br.intro (fun hb => ?_) (fun hb => ?_) <;> (try simp only [hb, go_sem, Nat.reduceBEq])
  · have hb : k < (blk l i).tab.slots.length := by simpa using hb
    obtain ⟨b2, o2, rfl, hat2'⟩ := hat2 (by omega)
    obtain ⟨e, he, hm⟩ := get_lt hb
    have wsu := wrap_succ (i := k) (by omega)
    simp only [ix_nat hb, go_sem, Nat.reduceBEq]
    refine hsem_slot tyS134 (hat2'.mono m6.ext) (hr2.mono m6.ext) he rfl fun s2 rd2 => ?_
    obtain ⟨a5, c5, _, rfl, _⟩ := rd2.rows (by decide) e.val.items.length (fm_len edt_len _)
    cases hv : e.live with
    | false =>
      simp only [wsu, Bool.not_false, go_sem, Nat.reduceBEq, Nat.reduceAdd, Nat.reduceLeDiff, Nat.reduceEqDiff]
      exact Again.intro (k + 1, n, us) (by first | omega | (simp only; omega)) ⟨hb, es.skip he hv, ul, ui, ug, m6⟩ (by repeat (first | exact wkF_e | refine wkF_c rfl ?_)) (wkB_c rfl wkB_e) rfl
    | true =>
    simp only [Bool.not_true, go_sem, Nat.reduceBEq, Nat.reduceAdd, Nat.reduceLeDiff]
    by_cases h5 : e.val.kind = 5
    · have hh := hin i _ hbk k e he hv
      obtain ⟨q1, q2, q3⟩ := held_num hh h5
      have hen : e.val.num = ((e.val.num.toNat : Nat) : Int) := by omega
      simp only [decide_eq_true h5, go_sem, Nat.reduceBEq, Nat.reduceAdd, Nat.reduceLeDiff]
      try simp only [go_sem, Nat.reduceBEq, Nat.reduceAdd, Nat.reduceLeDiff, Nat.reduceEqDiff, Int.reduceEq, not_false_eq_true, Int.reduceToNat]
      rw [hen]
      refine (ih (zer (ws.set i (-1))) (by omega) us e.val.num.toNat h6 (zer_grow (by rw [ul, List.length_set]) ug) ui (wp.kid (by omega) hx ug he hv h5 ul) q2 m6).mono ?_
      rintro _ h7 ⟨n2, vs, rfl, est, vl, vi, vg, m7⟩
      have p1 := est.pos
      have p2 := est.cap
      have hws : IntKind.i64.wrap ((n : Int) + (n2 : Int)) = ((n + n2 : Nat) : Int) := by rw [IntWalk.i64_in _ (by omega)]; omega
      simp only [hws, go_sem, Nat.reduceBEq]
      (refine (iMin _ _ _).mono ?_; rintro _ _ ⟨rfl, rfl⟩; simp only [go_sem, Nat.reduceBEq])
      rw [show min (((n + n2 : Nat) : Int)) 201 = ((min (n + n2) 201 : Nat) : Int) by omega]
      simp only [wsu, go_sem]
      exact Again.intro (k + 1, min (n + n2) 201, vs) (by first | omega | (simp only; omega)) ⟨hb, es.kid he hv h5 est, by rw [vl, ul], vi, ug.trans vg, m7⟩ (by repeat (first | exact wkF_e | refine wkF_c rfl ?_)) (wkB_c rfl wkB_e) rfl
    · simp only [decide_eq_false h5, go_sem, Nat.reduceBEq]
      try simp only [go_sem, Nat.reduceBEq, Nat.reduceAdd, Nat.reduceLeDiff, Nat.reduceEqDiff, Int.reduceEq, not_false_eq_true, Int.reduceToNat]
      have hws : IntKind.i64.wrap ((n : Int) + 1) = ((n + 1 : Nat) : Int) := by rw [IntWalk.i64_in _ (by omega)]; omega
      simp only [hws, go_sem]
      (refine (iMin _ _ _).mono ?_; rintro _ _ ⟨rfl, rfl⟩; simp only [go_sem, Nat.reduceBEq])
      rw [show min (((n + 1 : Nat) : Int)) 201 = ((min (n + 1) 201 : Nat) : Int) by omega]
      simp only [wsu, go_sem]
      exact Again.intro (k + 1, min (n + 1) 201, us) (by first | omega | (simp only; omega)) ⟨hb, es.one he hv h5, ul, ui, ug, m6⟩ (by repeat (first | exact wkF_e | refine wkF_c rfl ?_)) (wkB_c rfl wkB_e) rfl
  · have hb : k = (blk l i).tab.slots.length := by simp at hb; omega
    subst hb
    rw [List.take_length] at es
    have est := es.est
    obtain ⟨cn, hn, en⟩ := hold_num (es := us) (b := bw) (cap := cw) (i := i) (by omega)
    rw [show us.length = l.length by omega] at hn
    obtain ⟨w, hw⟩ := hold_self (es := us) (i := i) (by omega)
    simp only [ix_nat hi1, go_sem, Nat.reduceBEq]
    refine hn.put1 (h0 := h0) (d := .raw (.int .i64 w)) tyS3 rfl rfl (by rw [en, hw]; exact m6) (by omega) fun h8 m8 => ?_
    rw [en] at m8
    simp only [go_sem, Nat.reduceBEq]
    exact ⟨n, us.set i (n : Nat), rfl, est, by rw [List.length_set, ul], ui.done est, ug.done hx ul est.pos, m8⟩
theorem bk_neg {l : List Bk} {i : Nat} {b : Bk} (hb : l[i]? = some b) (h : bkOk l b = false) : heapB l = false := noHeap fun k => by
  have := k.blk i b hb
  rw [h] at this
  cases this
/-- the live slots' values are held, so far -/
def preS (l : List Bk) (ss : List Sl) (k : Nat) : Prop := ∀ (j : Nat) (s : Sl), j < k → ss[j]? = some s → s.live = true → isHeld l s.val = true
theorem preS.step {l : List Bk} {ss : List Sl} {k : Nat} {s : Sl} (p : preS l ss k) (hs : ss[k]? = some s) (h : s.live = true → isHeld l s.val = true) : preS l ss (k + 1) := fun j u hj hu hl => by
  by_cases he : j = k
  · subst he
    rw [hs] at hu
    cases hu
    exact h hl
  · exact p j u (by omega) hu hl
/-- the blocks are right, so far -/
def preB (l : List Bk) (i : Nat) : Prop := ∀ (j : Nat) (b : Bk), j < i → l[j]? = some b → bkOk l b = true
theorem preB.step {l : List Bk} {i : Nat} {b : Bk} (p : preB l i) (hb : l[i]? = some b) (h : bkOk l b = true) : preB l (i + 1) := fun j u hj hu => by
  by_cases he : j = i
  · subst he
    rw [hb] at hu
    cases hu
    exact h
  · exact p j u (by omega) hu
theorem preB.inR {l : List Bk} (p : preB l l.length) : inR l ∧ ∀ (i : Nat) (b : Bk), l[i]? = some b → 0 ≤ b.count := by
  refine ⟨fun i b hb k s hs hl => ?_, fun i b hb => ?_⟩
  · have := p i b (lt_of_get hb) hb
    by_cases hc : b.count = 0
    · rw [bkOk_free hc] at this
      rw [free_slots this] at hs
      simp at hs
    · exact ((bkOk_live hc).1 this).2.2 k s hs hl
  · have := p i b (lt_of_get hb) hb
    by_cases hc : b.count = 0
    · omega
    · have := ((bkOk_live hc).1 this).1
      omega
set_option maxHeartbeats 1600000 in
theorem iIsHeap (l : List Bk) (hb : szG Bk.bulk l ≤ 1048576) (s : Value) (h : Hp) (r : RdB h l s) (hE : Env h) : ACalls Tryz.prog 79 #[.agg #[s]] h (Is (.bool (heapB l)) h) := by
  have hlen := szG_len (w := Bk.bulk) l
  obtain ⟨a1, c1, xs1, rfl, hc1, hr1, hat1⟩ := r.rows (by decide) l.length (fm_len Bk.dt_len _)
  (refine enter Tryz.func79 rfl rfl (by kernel_rfl) [] ?_; simp only [go_sem, Nat.reduceBEq])
  refine aloop (ι := Nat) (fun i => [(13, .val (.int .i64 (i : Nat))), (12, .val (.int .i64 (l.length : Nat))), (11, .val (.slice a1 l.length c1)), (1, .box 1 0)]) (fun _ => [(1, [.slice a1 l.length c1])])
    (fun i h' => i ≤ l.length ∧ Ext h h' ∧ preB l i) (fun i => l.length - i) 0 ⟨Nat.zero_le _, Ext.refl _, fun j b hj => by omega⟩ (by repeat (first | exact wkF_e | refine wkF_c rfl ?_)) (wkB_c rfl wkB_e) rfl ?_
  rintro i h1 ⟨hi, e1, pb⟩
  have hi : i ≤ l.length := hi
  have pb : preB l i := pb
  try simp only [go_sem, Nat.reduceBEq]
  refine Br.intro (fun hq => ?_) (fun hq => ?_) <;> (try simp only [hq, go_sem, Nat.reduceBEq])
  · have hq : i < l.length := by simpa using hq
    obtain ⟨b1, o1, rfl, hat1'⟩ := hat1 (by omega)
    obtain ⟨b, hbk, hm⟩ := get_lt hq
    have hsb := slots_bulk hbk
    obtain ⟨hsl, hsv⟩ := tab_slots b.tab
    have wsu := wrap_succ (i := i) (by omega)
    simp only [ix_nat hq, go_sem, Nat.reduceBEq]
    refine hsem_blk tyS107 (hat1'.mono e1) (hr1.mono e1) hbk rfl fun s2 u2 rh ru => ?_
    obtain ⟨a3, c3, xs3, rfl, hc3, hr3, hat3⟩ := rh.rows (by decide) b.tab.heads.length (fm_len idt_len _)
    obtain ⟨a2, c2, xs2, rfl, hc2, hr2, hat2⟩ := ru.rows (by decide) b.tab.slots.length (fm_len Sl.dt_len _)
    by_cases h0 : b.count = 0
    · simp only [decide_eq_true h0, go_sem, Nat.reduceBEq, Nat.reduceAdd, Nat.reduceLeDiff]
      have hF : bkOk l b = b.free := bkOk_free h0
      cases hh : b.tab.hashed with
      | true =>
        simp only [go_sem, Nat.reduceBEq]
        exact ⟨by rw [bk_neg hbk (by rw [hF]; unfold Bk.free; rw [hh]; rfl)], e1⟩
      | false =>
      by_cases q1 : b.tab.heads.length = 0
      case neg =>
        simp only [decide_eq_true (show (0 : Int) < ((b.tab.heads.length : Nat) : Int) by omega), go_sem, Nat.reduceBEq, Nat.reduceAdd]
        exact ⟨by rw [bk_neg hbk (by rw [hF]; unfold Bk.free; rw [hh, decide_eq_false q1]; rfl)], e1⟩
      by_cases q2 : b.tab.slots.length = 0
      case neg =>
        simp only [decide_eq_false (show ¬ (0 : Int) < ((b.tab.heads.length : Nat) : Int) by omega), decide_eq_true (show (0 : Int) < ((b.tab.slots.length : Nat) : Int) by omega), go_sem, Nat.reduceBEq, Nat.reduceAdd]
        exact ⟨by rw [bk_neg hbk (by rw [hF]; unfold Bk.free; rw [hh, decide_eq_true q1, decide_eq_false q2]; rfl)], e1⟩
      by_cases q3 : b.tab.next = 0
      case neg =>
        simp only [decide_eq_false (show ¬ (0 : Int) < ((b.tab.heads.length : Nat) : Int) by omega), decide_eq_false (show ¬ (0 : Int) < ((b.tab.slots.length : Nat) : Int) by omega), decide_eq_false q3, Bool.not_false, go_sem, Nat.reduceBEq, Nat.reduceAdd]
        exact ⟨by rw [bk_neg hbk (by rw [hF]; unfold Bk.free; rw [hh, decide_eq_true q1, decide_eq_true q2, decide_eq_false q3]; rfl)], e1⟩
      by_cases q4 : b.tab.count = 0
      case neg =>
        simp only [decide_eq_false (show ¬ (0 : Int) < ((b.tab.heads.length : Nat) : Int) by omega), decide_eq_false (show ¬ (0 : Int) < ((b.tab.slots.length : Nat) : Int) by omega), decide_eq_true q3, decide_eq_false q4, Bool.not_true, Bool.not_false, go_sem, Nat.reduceBEq, Nat.reduceAdd]
        exact ⟨by rw [bk_neg hbk (by rw [hF]; unfold Bk.free; rw [hh, decide_eq_true q1, decide_eq_true q2, decide_eq_true q3, decide_eq_false q4]; rfl)], e1⟩
      simp only [decide_eq_false (show ¬ (0 : Int) < ((b.tab.heads.length : Nat) : Int) by omega), decide_eq_false (show ¬ (0 : Int) < ((b.tab.slots.length : Nat) : Int) by omega), decide_eq_true q3, decide_eq_true q4, Bool.not_true, wsu, go_sem, Nat.reduceBEq, Nat.reduceAdd, Nat.reduceEqDiff]
      exact Again.intro (i + 1) (by first | omega | (simp only; omega)) ⟨hq, e1, pb.step hbk (by rw [hF]; unfold Bk.free; rw [hh, decide_eq_true q1, decide_eq_true q2, decide_eq_true q3, decide_eq_true q4]; rfl)⟩ (by repeat (first | exact wkF_e | refine wkF_c rfl ?_)) (wkB_c rfl wkB_e) rfl
    have hL := bkOk_live (l := l) h0
    simp only [decide_eq_false h0, go_sem, Nat.reduceBEq, Nat.reduceAdd, Nat.reduceLeDiff]
    (refine (iInRange _ _ _ _).mono ?_; rintro _ _ ⟨rfl, rfl⟩; simp only [go_sem, Nat.reduceBEq])
    by_cases q0 : 1 ≤ b.count ∧ b.count ≤ 1000000000000
    case neg =>
      simp only [decide_eq_false q0, Bool.not_false, go_sem, Nat.reduceBEq]
      exact ⟨by rw [bk_neg hbk (Bool.eq_false_iff.2 fun k => q0 (hL.1 k).1)], e1⟩
    simp only [decide_eq_true q0, Bool.not_true, go_sem, Nat.reduceBEq, Nat.reduceAdd, Nat.reduceLeDiff]
    refine (iIsTable b.tab (by omega) _ _ _ rh ru (hE.ext e1)).mono ?_
    rintro _ h2 ⟨rfl, e12⟩
    have e2 := e1.trans e12
    cases hT : b.tab.isTab with
    | false =>
      try simp only [go_sem, Nat.reduceBEq]
      exact ⟨by rw [bk_neg hbk (Bool.eq_false_iff.2 fun k => by have := (hL.1 k).2.1; rw [hT] at this; cases this)], e2⟩
    | true =>
    try simp only [go_sem, Nat.reduceBEq, Nat.reduceAdd]
    refine aloop (ι := Nat) (fun k => [(63, .val (.int .i64 (k : Nat))), (62, .val (.int .i64 (b.tab.slots.length : Nat))), (61, .val (.slice a2 b.tab.slots.length c2)), (13, .val (.int .i64 (i : Nat))), (12, .val (.int .i64 (l.length : Nat))), (11, .val (.slice (some ⟨b1, o1, none⟩) l.length c1)), (1, .box 1 0)]) (fun _ => [(1, [.slice (some ⟨b1, o1, none⟩) l.length c1])])
      (fun k h' => k ≤ b.tab.slots.length ∧ Ext h1 h' ∧ preS l b.tab.slots k) (fun k => b.tab.slots.length - k) 0 ⟨Nat.zero_le _, e12, fun j b hj => by omega⟩ (by repeat (first | exact wkF_e | refine wkF_c rfl ?_)) (wkB_c rfl wkB_e) rfl ?_
    rintro k h3 ⟨hk, e13, ps⟩
    have hk : k ≤ b.tab.slots.length := hk
    have ps : preS l b.tab.slots k := ps
    have e3 := e1.trans e13
    try simp only [go_sem, Nat.reduceBEq]
    refine Br.intro (fun hkb => ?_) (fun hkb => ?_) <;> (try simp only [hkb, go_sem, Nat.reduceBEq, Nat.reduceEqDiff])
    · have hkb : k < b.tab.slots.length := by simpa using hkb
      obtain ⟨b2, o2, rfl, hat2'⟩ := hat2 (by omega)
      obtain ⟨e, he, hme⟩ := get_lt hkb
      have hve := hsv e hme
      have wsk := wrap_succ (i := k) (by omega)
      simp only [ix_nat hkb, go_sem, Nat.reduceBEq]
      refine hsem_slot tyS134 (hat2'.mono e13) (hr2.mono e13) he rfl fun s3 rd3 => ?_
      obtain ⟨a5, c5, _, rfl, _⟩ := rd3.rows (by decide) e.val.items.length (fm_len edt_len _)
      cases hv : e.live with
      | false =>
        simp only [wsk, go_sem, Nat.reduceBEq, Nat.reduceAdd, Nat.reduceLeDiff]
        exact Again.intro (k + 1) (by first | omega | (simp only; omega)) ⟨hkb, e13, ps.step he fun q => (by rw [hv] at q; cases q)⟩ (by repeat (first | exact wkF_e | refine wkF_c rfl ?_)) (wkB_c rfl wkB_e) rfl
      | true =>
        try simp only [go_sem, Nat.reduceBEq, Nat.reduceAdd, Nat.reduceLeDiff]
        refine (iIsHeld l e.val (by omega) (by omega) _ _ _ (r.mono e3) rd3 (hE.ext e3)).mono ?_
        rintro _ h4 ⟨rfl, e34⟩
        cases hhd : isHeld l e.val with
        | false =>
          try simp only [go_sem, Nat.reduceBEq]
          exact ⟨by rw [bk_neg hbk (Bool.eq_false_iff.2 fun q => by have := (hL.1 q).2.2 k e he hv; rw [hhd] at this; cases this)], e3.trans e34⟩
        | true =>
          simp only [wsk, go_sem, Nat.reduceBEq]
          exact Again.intro (k + 1) (by first | omega | (simp only; omega)) ⟨hkb, e13.trans e34, ps.step he fun _ => hhd⟩ (by repeat (first | exact wkF_e | refine wkF_c rfl ?_)) (wkB_c rfl wkB_e) rfl
    · have hkb : k = b.tab.slots.length := by simp at hkb; omega
      subst hkb
      simp only [wsu, go_sem]
      exact Again.intro (i + 1) (by first | omega | (simp only; omega)) ⟨hq, e3, pb.step hbk (hL.2 ⟨q0, hT, fun k s hs hl => ps k s (lt_of_get hs) hs hl⟩)⟩ (by repeat (first | exact wkF_e | refine wkF_c rfl ?_)) (wkB_c rfl wkB_e) rfl
  · have hq : i = l.length := by simp at hq; omega
    subst hq
    obtain ⟨hin, hcz⟩ := pb.inR
    try simp only [go_sem, Nat.reduceBEq, Nat.reduceAdd, Nat.reduceLeDiff, Nat.reduceEqDiff, Int.reduceEq, not_false_eq_true, Int.reduceToNat]
    refine hsem_my_make slT22 (by decide) rfl rfl (by omega) (by decide) (My.nil (Ext.refl h1)) fun bo h2 m2 => ?_
    have m2 : My h1 h2 [(.row 1 (zeros [.int .i64 0] l.length), .slice (some ⟨bo, 0, none⟩) l.length l.length)] := m2
    rw [zeros_int] at m2
    try simp only [go_sem, Nat.reduceBEq]
    refine aloop (ι := Nat × List Int) (fun x => [(85, .val (.int .i64 (x.1 : Nat))), (84, .val (.int .i64 (l.length : Nat))), (83, .val (.slice a1 l.length c1)), (7, .val (.slice (some ⟨bo, 0, none⟩) l.length l.length)), (1, .box 1 0)]) (fun _ => [(1, [.slice a1 l.length c1])])
      (fun x h' => x.1 ≤ l.length ∧ wInv l x.2 ∧ nNeg x.2 ∧ (∀ j : Nat, j < x.1 → 0 < (blk l j).count → ∃ n, n ≤ 200 ∧ Wt l j n) ∧ My h1 h' [(.row 1 (x.2.flatMap idt), .slice (some ⟨bo, 0, none⟩) l.length l.length)]) (fun x => l.length - x.1) (0, List.replicate l.length 0)
      ⟨Nat.zero_le _, (wInv.zero l).1, (wInv.zero l).2, fun j hj => by omega, m2⟩ (by repeat (first | exact wkF_e | refine wkF_c rfl ?_)) (wkB_c rfl wkB_e) rfl ?_
    rintro ⟨i, ws⟩ h3 ⟨hi, wi, wn, wl, m3⟩
    have hi : i ≤ l.length := hi
    have wi : wInv l ws := wi
    have wn : nNeg ws := wn
    have wl : ∀ j : Nat, j < i → 0 < (blk l j).count → ∃ n, n ≤ 200 ∧ Wt l j n := wl
    have m3 : My h1 h3 [(.row 1 (ws.flatMap idt), .slice (some ⟨bo, 0, none⟩) l.length l.length)] := m3
    have e3 := e1.trans m3.ext
    try simp only [go_sem, Nat.reduceBEq]
    refine Br.intro (fun hq => ?_) (fun hq => ?_) <;> (try simp only [hq, go_sem, Nat.reduceBEq])
    · have hq : i < l.length := by simpa using hq
      have wsu := wrap_succ (i := i) (by omega)
      obtain ⟨b1, o1, rfl, hat1'⟩ := hat1 (by omega)
      have hbk := blk_at hq
      simp only [ix_nat hq, go_sem, Nat.reduceBEq]
      refine hsem_blk tyS107 (hat1'.mono e3) (hr1.mono e3) hbk rfl fun s2 u2 rh ru => ?_
      obtain ⟨a3, c3, xs3, rfl, hc3, hr3, hat3⟩ := rh.rows (by decide) (blk l i).tab.heads.length (fm_len idt_len _)
      obtain ⟨a2, c2, xs2, rfl, hc2, hr2, hat2⟩ := ru.rows (by decide) (blk l i).tab.slots.length (fm_len Sl.dt_len _)
      by_cases hc : 0 < (blk l i).count
      · simp only [decide_eq_true hc, go_sem, Nat.reduceBEq, Nat.reduceAdd, Nat.reduceLeDiff]
        try simp only [go_sem, Nat.reduceBEq, Nat.reduceAdd, Nat.reduceLeDiff, Nat.reduceEqDiff, Int.reduceEq, not_false_eq_true, Int.reduceToNat]
        refine (iWeigh l (by omega) hin (some ⟨b1, o1, none⟩) c1 bo l.length h1 (r.mono e1) _ ws i h3 (Nat.le_refl _) wi (wn.path i) hq m3).mono ?_
        rintro _ h4 ⟨n, us, rfl, est, ul, ui, ug, m4⟩
        by_cases hbig : n ≤ 200
        · simp only [decide_eq_false (show ¬ (200 : Int) < ((n : Nat) : Int) by omega), wsu, go_sem, Nat.reduceBEq]
          refine Again.intro (i + 1, us) (by first | omega | (simp only; omega)) ⟨hq, ui, wn.grow ul ug, fun j hj hcj => ?_, m4⟩ (by repeat (first | exact wkF_e | refine wkF_c rfl ?_)) (wkB_c rfl wkB_e) rfl
          by_cases he : j = i
          · subst he
            exact ⟨n, hbig, est.is hbig⟩
          · exact wl j (by omega) hcj
        · simp only [decide_eq_true (show (200 : Int) < ((n : Nat) : Int) by omega), go_sem, Nat.reduceBEq]
          refine ⟨?_, e1.trans m4.ext⟩
          rw [noHeap fun k => ?_]
          obtain ⟨m, hm, hw⟩ := k.light i _ hbk hc
          have h1 := est.cap
          have := est.big (by omega) m hw
          omega
      · simp only [decide_eq_false hc, wsu, go_sem, Nat.reduceBEq, Nat.reduceAdd, Nat.reduceLeDiff]
        refine Again.intro (i + 1, ws) (by first | omega | (simp only; omega)) ⟨hq, wi, wn, fun j hj hcj => ?_, m3⟩ (by repeat (first | exact wkF_e | refine wkF_c rfl ?_)) (wkB_c rfl wkB_e) rfl
        by_cases he : j = i
        · subst he
          exact absurd hcj hc
        · exact wl j (by omega) hcj
    · have hq : i = l.length := by simp at hq; omega
      subst hq
      try simp only [go_sem, Nat.reduceBEq, Nat.reduceAdd, Nat.reduceLeDiff, Nat.reduceEqDiff, Int.reduceEq, not_false_eq_true, Int.reduceToNat]
      refine ⟨?_, e3⟩
      rw [heapB_iff.2 ⟨fun i b hb => pb i b (lt_of_get hb) hb, fun i b hb hc => wl i (lt_of_get hb) (by rw [blk_get hb]; exact hc)⟩]
theorem sFree (l : List Bk) (b : Bk) (s u : Value) (h : Hp) (r1 : RdI h b.tab.heads s) (r2 : RdT h b.tab.slots u) (h0 : b.count = 0) : ACalls Tryz.prog 136 #[.agg #[.int .i64 b.count, .bool b.tab.hashed, s, u, .int .i64 b.tab.next, .int .i64 b.tab.count]] h (Pu (.bool b.free) h) := by
  obtain ⟨a1, c1, xs1, rfl, hc1, hr1, hat1⟩ := r1.rows (by decide) b.tab.heads.length (fm_len idt_len _)
  obtain ⟨a2, c2, xs2, rfl, hc2, hr2, hat2⟩ := r2.rows (by decide) b.tab.slots.length (fm_len Sl.dt_len _)
  (refine enter Tryz.func136 rfl rfl (by kernel_rfl) [] ?_; simp only [go_sem, Nat.reduceBEq, Nat.reduceAdd, Nat.reduceLeDiff])
  unfold Bk.free
  cases hh : b.tab.hashed with
  | true =>
    simp only [decide_eq_true h0, Bool.not_true, Bool.false_and, go_sem, Nat.reduceBEq]
    exact ⟨rfl, rfl⟩
  | false =>
  by_cases q1 : b.tab.heads.length = 0
  case neg =>
    simp only [decide_eq_true h0, Bool.not_false, Bool.true_and, Bool.false_and, decide_eq_false q1, decide_eq_false (show ¬ ((b.tab.heads.length : Nat) : Int) = 0 by omega), go_sem, Nat.reduceBEq]
    exact ⟨rfl, rfl⟩
  by_cases q2 : b.tab.slots.length = 0
  case neg =>
    simp only [decide_eq_true h0, Bool.not_false, Bool.true_and, Bool.false_and, decide_eq_true q1, decide_eq_true (show ((b.tab.heads.length : Nat) : Int) = 0 by omega), decide_eq_false q2, decide_eq_false (show ¬ ((b.tab.slots.length : Nat) : Int) = 0 by omega), go_sem, Nat.reduceBEq]
    exact ⟨rfl, rfl⟩
  by_cases q3 : b.tab.next = 0
  case neg =>
    simp only [decide_eq_true h0, Bool.not_false, Bool.true_and, Bool.false_and, decide_eq_true q1, decide_eq_true (show ((b.tab.heads.length : Nat) : Int) = 0 by omega), decide_eq_true q2, decide_eq_true (show ((b.tab.slots.length : Nat) : Int) = 0 by omega), decide_eq_false q3, go_sem, Nat.reduceBEq]
    exact ⟨rfl, rfl⟩
  simp only [decide_eq_true h0, Bool.not_false, Bool.true_and, decide_eq_true q1, decide_eq_true (show ((b.tab.heads.length : Nat) : Int) = 0 by omega), decide_eq_true q2, decide_eq_true (show ((b.tab.slots.length : Nat) : Int) = 0 by omega), decide_eq_true q3, go_sem, Nat.reduceBEq]
  exact ⟨rfl, rfl⟩
/-- what is known of a block whose slots are summed up -/
def preW (l : List Bk) (w : List Int) (ss : List Sl) (k n : Nat) : Prop := (1 ≤ n ∧ SumR l (ss.take k) (n - 1)) ∨ (n = 0 ∧ ∃ (j : Nat) (s : Sl), ss[j]? = some s ∧ s.live = true ∧ s.val.kind = 5 ∧ w.getD s.val.num.toNat 0 = 0)
set_option maxHeartbeats 1600000 in
theorem sLight (l : List Bk) (hb : szG Bk.bulk l ≤ 1048576) (hin : inR l) (hcz : ∀ (i : Nat) (b : Bk), l[i]? = some b → 0 ≤ b.count) (s : Value) (h : Hp) (r : RdB h l s) : ACalls Tryz.prog 137 #[.agg #[s]] h (Is (.bool (lightB l)) h) := by
  have hlen := szG_len (w := Bk.bulk) l
  obtain ⟨a1, c1, xs1, rfl, hc1, hr1, hat1⟩ := r.rows (by decide) l.length (fm_len Bk.dt_len _)
  (refine enter Tryz.func137 rfl rfl (by kernel_rfl) [] ?_; simp only [go_sem, Nat.reduceBEq])
  refine hsem_my_make slT22 (by decide) rfl rfl (by omega) (by decide) (My.nil (Ext.refl h)) fun bo h2 m2 => ?_
  have m2 : My h h2 [(.row 1 (zeros [.int .i64 0] l.length), .slice (some ⟨bo, 0, none⟩) l.length l.length)] := m2
  rw [zeros_int] at m2
  try simp only [go_sem, Nat.reduceBEq]
  refine aloop (ι := Nat) (fun i => [(5, .val (.int .i64 (i : Nat))), (4, .val (.int .i64 (leftN l (List.replicate l.length 0) i : Nat))), (3, .val (.slice (some ⟨bo, 0, none⟩) l.length l.length)), (1, .box 1 0)]) (fun _ => [(1, [.slice a1 l.length c1])])
    (fun i h' => i ≤ l.length ∧ h' = h2) (fun i => l.length - i) 0 ⟨Nat.zero_le _, rfl⟩ (by repeat (first | exact wkF_e | refine wkF_c rfl ?_)) (wkB_c rfl wkB_e) rfl ?_
  rintro i _ ⟨hi, rfl⟩
  have hi : i ≤ l.length := hi
  have hll := leftN_le l (List.replicate l.length 0) i
  try simp only [go_sem, Nat.reduceBEq]
  refine Br.intro (fun hq => ?_) (fun hq => ?_) <;> (try simp only [hq, go_sem, Nat.reduceBEq])
  · have hq : i < l.length := by simpa using hq
    obtain ⟨b1, o1, rfl, hat1'⟩ := hat1 (by omega)
    have hbk := blk_at hq
    have wsu := wrap_succ (i := i) (by omega)
    simp only [ix_nat hq, go_sem, Nat.reduceBEq]
    refine hsem_bcnt tyS3 (hat1'.mono m2.ext) (hr1.mono m2.ext) hbk rfl ?_
    have hw := wrap_succ (i := leftN l (List.replicate l.length 0) i) (by omega)
    by_cases hc : 0 < (blk l i).count
    · have el : leftN l (List.replicate l.length 0) (i + 1) = leftN l (List.replicate l.length 0) i + 1 := by rw [leftN, if_pos ⟨hc, repl_getD _ _⟩]
      simp only [decide_eq_true hc, hw, wsu, go_sem, Nat.reduceBEq]
      exact Again.intro (i + 1) (by first | omega | (simp only; omega)) ⟨hq, rfl⟩ (by rw [el]; exact (by repeat (first | exact wkF_e | refine wkF_c rfl ?_))) (wkB_c rfl wkB_e) rfl
    · have el : leftN l (List.replicate l.length 0) (i + 1) = leftN l (List.replicate l.length 0) i := by rw [leftN, if_neg fun q => hc q.1, Nat.add_zero]
      simp only [decide_eq_false hc, wsu, go_sem, Nat.reduceBEq]
      exact Again.intro (i + 1) (by first | omega | (simp only; omega)) ⟨hq, rfl⟩ (by rw [el]; exact (by repeat (first | exact wkF_e | refine wkF_c rfl ?_))) (wkB_c rfl wkB_e) rfl
  have hq : i = l.length := by simp at hq; omega
  subst hq
  try simp only [go_sem, Nat.reduceBEq, Nat.reduceAdd, Nat.reduceLeDiff, Nat.reduceEqDiff, Int.reduceEq, not_false_eq_true, Int.reduceToNat]
  refine aloop (ι := Nat × List Int) (fun x => [(6, .val (.int .i64 (x.1 : Nat))), (4, .val (.int .i64 (leftN l x.2 l.length : Nat))), (3, .val (.slice (some ⟨bo, 0, none⟩) l.length l.length)), (1, .box 1 0)]) (fun _ => [(1, [.slice a1 l.length c1])])
    (fun x h' => x.1 ≤ 201 ∧ rInv l x.2 x.1 0 ∧ My h h' [(.row 1 (x.2.flatMap idt), .slice (some ⟨bo, 0, none⟩) l.length l.length)]) (fun x => 201 - x.1) (0, List.replicate l.length 0)
    ⟨Nat.zero_le _, rInv.zero l, m2⟩ (by repeat (first | exact wkF_e | refine wkF_c rfl ?_)) (wkB_c rfl wkB_e) rfl ?_
  rintro ⟨rd, w⟩ h3 ⟨hrd, ri, m3⟩
  have hrd : rd ≤ 201 := hrd
  have ri : rInv l w rd 0 := ri
  have m3 : My h h3 [(.row 1 (w.flatMap idt), .slice (some ⟨bo, 0, none⟩) l.length l.length)] := m3
  have hlw := leftN_le l w l.length
  try simp only [go_sem, Nat.reduceBEq]
  by_cases hr : rd ≤ 200
  case neg =>
    have : rd = 201 := by omega
    subst this
    simp only [decide_eq_false (show ¬ (((201 : Nat) : Nat) : Int) ≤ 200 by omega), go_sem, Nat.reduceBEq]
    refine ⟨?_, m3.ext⟩
    by_cases hz : leftN l w l.length = 0
    · rw [lightB_iff.2 (ri.light hz), decide_eq_true (show ((leftN l w l.length : Nat) : Int) = 0 by omega)]
    · rw [decide_eq_false (show ¬ ((leftN l w l.length : Nat) : Int) = 0 by omega), Bool.eq_false_iff.2 fun k => ri.stop hz (lightB_iff.1 k)]
  by_cases hz : leftN l w l.length = 0
  · simp only [decide_eq_true (show ((rd : Nat) : Int) ≤ 200 by omega), decide_eq_false (show ¬ (0 : Int) < ((leftN l w l.length : Nat) : Int) by omega), go_sem, Nat.reduceBEq]
    refine ⟨?_, m3.ext⟩
    rw [lightB_iff.2 (ri.light hz), decide_eq_true (show ((leftN l w l.length : Nat) : Int) = 0 by omega)]
  simp only [decide_eq_true (show ((rd : Nat) : Int) ≤ 200 by omega), decide_eq_true (show (0 : Int) < ((leftN l w l.length : Nat) : Int) by omega), go_sem, Nat.reduceBEq]
  refine aloop (ι := Nat × List Int) (fun x => [(7, .val (.int .i64 (x.1 : Nat))), (6, .val (.int .i64 (rd : Nat))), (4, .val (.int .i64 (leftN l x.2 l.length : Nat))), (3, .val (.slice (some ⟨bo, 0, none⟩) l.length l.length)), (1, .box 1 0)]) (fun _ => [(1, [.slice a1 l.length c1])])
    (fun x h' => x.1 ≤ l.length ∧ rInv l x.2 rd x.1 ∧ My h h' [(.row 1 (x.2.flatMap idt), .slice (some ⟨bo, 0, none⟩) l.length l.length)]) (fun x => l.length - x.1) (0, w)
    ⟨Nat.zero_le _, ri, m3⟩ (by repeat (first | exact wkF_e | refine wkF_c rfl ?_)) (wkB_c rfl wkB_e) rfl ?_
  rintro ⟨i, w⟩ h3 ⟨hi, ri, m3⟩
  have hi : i ≤ l.length := hi
  have ri : rInv l w rd i := ri
  have m3 : My h h3 [(.row 1 (w.flatMap idt), .slice (some ⟨bo, 0, none⟩) l.length l.length)] := m3
  have hlw := leftN_le l w l.length
  have wlen := ri.len
  try simp only [go_sem, Nat.reduceBEq]
  refine Br.intro (fun hq => ?_) (fun hq => ?_) <;> (try simp only [hq, go_sem, Nat.reduceBEq, Nat.reduceEqDiff])
  · have hq : i < l.length := by simpa using hq
    obtain ⟨b1, o1, rfl, hat1'⟩ := hat1 (by omega)
    have hbk := blk_at hq
    have hcb := hcz i _ hbk
    have hsb := slots_bulk hbk
    obtain ⟨hsl, hsv⟩ := tab_slots (blk l i).tab
    have wsu := wrap_succ (i := i) (by omega)
    obtain ⟨ys, hry, haty⟩ := m3.at_
    have hwi : w[i]? = some (w.getD i 0) := getD_at (by omega)
    simp only [ix_nat hq, go_sem, Nat.reduceBEq]
    refine hsem_bcnt tyS3 (hat1'.mono m3.ext) (hr1.mono m3.ext) hbk rfl ?_
    by_cases hc : (blk l i).count = 0
    · simp only [decide_eq_true hc, wsu, go_sem, Nat.reduceBEq, Nat.reduceEqDiff]
      exact Again.intro (i + 1, w) (by first | omega | (simp only; omega)) ⟨hq, ri.skip (.inl (by omega)), m3⟩ (by repeat (first | exact wkF_e | refine wkF_c rfl ?_)) (wkB_c rfl wkB_e) rfl
    simp only [decide_eq_false hc, ix_nat hq, go_sem, Nat.reduceBEq]
    refine hsem_num tyS3 (haty (by omega)) hry hwi (by omega) ?_
    by_cases hw0 : 0 < w.getD i 0
    · simp only [decide_eq_true hw0, wsu, go_sem, Nat.reduceBEq, Nat.reduceEqDiff]
      exact Again.intro (i + 1, w) (by first | omega | (simp only; omega)) ⟨hq, ri.skip (.inr (by omega)), m3⟩ (by repeat (first | exact wkF_e | refine wkF_c rfl ?_)) (wkB_c rfl wkB_e) rfl
    have hwz : w.getD i 0 = 0 := by
      by_cases hx : w.getD i 0 = 0
      · exact hx
      · have := ri.wt i _ hwi hx
        omega
    simp only [decide_eq_false hw0, ix_nat hq, go_sem, Nat.reduceBEq, Nat.reduceAdd]
    refine hpure_base m3.ext (hsem_bslots tyS34 hat1' hr1 hbk (by omega) fun u ru => ?_)
    obtain ⟨a2, c2, xs2, rfl, hc2, hr2, hat2⟩ := ru.rows (by decide) (blk l i).tab.slots.length (fm_len Sl.dt_len _)
    simp only [go_sem, Nat.reduceBEq]
    refine aloop (ι := Nat × Nat) (fun x => [(10, .val (.int .i64 (x.1 : Nat))), (9, .val (.slice a2 (blk l i).tab.slots.length c2)), (8, .val (.int .i64 (x.2 : Nat))), (7, .val (.int .i64 (i : Nat))), (6, .val (.int .i64 (rd : Nat))), (4, .val (.int .i64 (leftN l w l.length : Nat))), (3, .val (.slice (some ⟨bo, 0, none⟩) l.length l.length)), (1, .box 1 0)]) (fun _ => [(1, [.slice (some ⟨b1, o1, none⟩) l.length c1])])
      (fun x h' => x.1 ≤ (blk l i).tab.slots.length ∧ x.2 ≤ 1 + 200 * x.1 ∧ preW l w (blk l i).tab.slots x.1 x.2 ∧ h3 = h') (fun x => (blk l i).tab.slots.length - x.1) (0, 1)
      ⟨Nat.zero_le _, by simp, .inl ⟨Nat.le_refl _, SumR.nil l⟩, rfl⟩ (by repeat (first | exact wkF_e | refine wkF_c rfl ?_)) (wkB_c rfl wkB_e) rfl ?_
    rintro ⟨k, n⟩ _ ⟨hk, hn, pw, rfl⟩
    have hk : k ≤ (blk l i).tab.slots.length := hk
    have hn : n ≤ 1 + 200 * k := hn
    have pw : preW l w (blk l i).tab.slots k n := pw
    try simp only [go_sem, Nat.reduceBEq]
    by_cases hkb : k < (blk l i).tab.slots.length ∧ 0 < n
    · obtain ⟨hkb, hn0⟩ := hkb
      obtain ⟨hn1, hsum⟩ : 1 ≤ n ∧ SumR l ((blk l i).tab.slots.take k) (n - 1) := by
        rcases pw with q | q
        · exact q
        · omega
      obtain ⟨b2, o2, rfl, hat2'⟩ := hat2 (by omega)
      obtain ⟨e, he, hme⟩ := get_lt hkb
      have wsk := wrap_succ (i := k) (by omega)
      simp only [decide_eq_true (show ((k : Nat) : Int) < (((blk l i).tab.slots.length : Nat) : Int) by omega), decide_eq_true (show (0 : Int) < ((n : Nat) : Int) by omega), ix_nat hkb, go_sem, Nat.reduceBEq, Nat.reduceAdd]
      refine hsem_slive tyS4 (hat2'.mono m3.ext) (hr2.mono m3.ext) he rfl ?_
      cases hv : e.live with
      | false =>
        simp only [wsk, go_sem, Nat.reduceBEq]
        refine Again.intro (k + 1, n) (by first | omega | (simp only; omega)) ⟨hkb, by show n ≤ 1 + 200 * (k + 1); omega, .inl ⟨hn1, ?_⟩, rfl⟩ (by repeat (first | exact wkF_e | refine wkF_c rfl ?_)) (wkB_c rfl wkB_e) rfl
        rw [take_snoc he]
        exact SumR.append.2 ⟨n - 1, 0, hsum, SumR.one.2 (.inl ⟨hv, rfl⟩), rfl⟩
      | true =>
      simp only [ix_nat hkb, go_sem, Nat.reduceBEq, Nat.reduceAdd]
      refine hsem_skind tyS3 (hat2'.mono m3.ext) (hr2.mono m3.ext) he (by omega) ?_
      by_cases h5 : e.val.kind = 5
      case neg =>
        have hw1 := wrap_succ (i := n) (by omega)
        simp only [decide_eq_false h5, Bool.not_false, hw1, wsk, go_sem, Nat.reduceBEq]
        refine Again.intro (k + 1, n + 1) (by first | omega | (simp only; omega)) ⟨hkb, by show n + 1 ≤ 1 + 200 * (k + 1); omega, .inl ⟨by omega, ?_⟩, rfl⟩ (by repeat (first | exact wkF_e | refine wkF_c rfl ?_)) (wkB_c rfl wkB_e) rfl
        rw [take_snoc he]
        exact SumR.append.2 ⟨n - 1, 1, hsum, SumR.one.2 (.inr (.inr ⟨hv, h5, rfl⟩)), by show n + 1 - 1 = _; omega⟩
      have hh := hin i _ hbk k e he hv
      obtain ⟨q1, q2, q3⟩ := held_num hh h5
      have hwk : w[e.val.num.toNat]? = some (w.getD e.val.num.toNat 0) := getD_at (by omega)
      simp only [decide_eq_true h5, Bool.not_true, ix_nat hkb, go_sem, Nat.reduceBEq, Nat.reduceAdd]
      refine hsem_snum tyS3 (hat2'.mono m3.ext) (hr2.mono m3.ext) he (by omega) ?_
      simp only [ix_int q1 q2, go_sem, Nat.reduceBEq]
      refine hsem_num tyS3 (haty (by omega)) hry hwk (by omega) ?_
      by_cases hkz : w.getD e.val.num.toNat 0 = 0
      · simp only [decide_eq_true hkz, wsk, go_sem, Nat.reduceBEq]
        exact Again.intro (k + 1, 0) (by first | omega | (simp only; omega)) ⟨hkb, Nat.zero_le _, .inr ⟨rfl, k, e, he, hv, h5, hkz⟩, rfl⟩ (by repeat (first | exact wkF_e | refine wkF_c rfl ?_)) (wkB_c rfl wkB_e) rfl
      · obtain ⟨m, hm, m1, m2', hwt⟩ := ri.kid hh h5 hkz
        rw [hwk] at hm
        have hm := Option.some.inj hm
        simp only [decide_eq_false hkz, ix_nat hkb, go_sem, Nat.reduceBEq, Nat.reduceAdd]
        refine hsem_snum tyS3 (hat2'.mono m3.ext) (hr2.mono m3.ext) he (by omega) ?_
        simp only [ix_int q1 q2, go_sem, Nat.reduceBEq]
        refine hsem_num tyS3 (haty (by omega)) hry hwk (by omega) ?_
        rw [hm]
        have hws : IntKind.i64.wrap ((n : Int) + (m : Int)) = ((n + m : Nat) : Int) := by rw [IntWalk.i64_in _ (by omega)]; omega
        simp only [hws, wsk, go_sem, Nat.reduceBEq]
        refine Again.intro (k + 1, n + m) (by first | omega | (simp only; omega)) ⟨hkb, by show n + m ≤ 1 + 200 * (k + 1); omega, .inl ⟨by omega, ?_⟩, rfl⟩ (by repeat (first | exact wkF_e | refine wkF_c rfl ?_)) (wkB_c rfl wkB_e) rfl
        rw [take_snoc he]
        exact SumR.append.2 ⟨n - 1, m, hsum, SumR.one.2 (.inr (.inl ⟨hv, h5, hwt⟩)), by show n + m - 1 = _; omega⟩
    · have fin : (1 ≤ n ∧ Wt l i n) ∨ (n = 0 ∧ rInv l w rd (i + 1)) := by
        rcases pw with q | q
        · have hkk : k = (blk l i).tab.slots.length := by omega
          subst hkk
          rw [List.take_length] at q
          exact .inl ⟨q.1, Wt.iff.2 ⟨n - 1, q.2, by omega⟩⟩
        · obtain ⟨h0, j, s, hs, hl, h5, hz⟩ := q
          exact .inr ⟨h0, ri.wait hs hl h5 (hin i _ hbk j s hs hl) hz⟩
      have go : ∀ (X : Prop), (∀ (b : Bool), (b = false) → X) → X := fun X f => f false rfl
      by_cases hkl : k < (blk l i).tab.slots.length
      · have hn0 : n = 0 := by omega
        subst hn0
        simp only [decide_eq_true (show ((k : Nat) : Int) < (((blk l i).tab.slots.length : Nat) : Int) by omega), decide_eq_false (show ¬ (0 : Int) < ((0 : Nat) : Int) by omega), decide_eq_false (show ¬ (200 : Int) < ((0 : Nat) : Int) by omega), wsu, go_sem, Nat.reduceBEq, Nat.reduceEqDiff]
        rcases fin with q | q
        · omega
        · exact Again.intro (i + 1, w) (by first | omega | (simp only; omega)) ⟨hq, q.2, m3⟩ (by repeat (first | exact wkF_e | refine wkF_c rfl ?_)) (wkB_c rfl wkB_e) rfl
      · simp only [decide_eq_false (show ¬ ((k : Nat) : Int) < (((blk l i).tab.slots.length : Nat) : Int) by omega), go_sem, Nat.reduceBEq, Nat.reduceEqDiff]
        by_cases hbig : 200 < n
        · simp only [decide_eq_true (show (200 : Int) < ((n : Nat) : Int) by omega), go_sem, Nat.reduceBEq]
          refine ⟨?_, m3.ext⟩
          rcases fin with q | q
          · have hno : lightB l = false := Bool.eq_false_iff.2 fun kk => by
              obtain ⟨m, hm, hw⟩ := lightB_iff.1 kk i _ hbk (by omega)
              have := hw.uniq q.2
              omega
            rw [hno]
          · omega
        simp only [decide_eq_false (show ¬ (200 : Int) < ((n : Nat) : Int) by omega), go_sem, Nat.reduceBEq]
        rcases fin with q | q
        · have hls := leftN_set (w := w) (i := i) (x := (n : Nat)) (l := l) (by omega) (by omega) hwz (by omega) l.length
          rw [if_pos hq] at hls
          have hwl : IntKind.i64.wrap (((leftN l w l.length : Nat) : Int) - 1) = ((leftN l (w.set i (n : Nat)) l.length : Nat) : Int) := by rw [IntWalk.i64_in _ (by omega)]; omega
          obtain ⟨cn, hn', en⟩ := hold_num (es := w) (b := bo) (cap := l.length) (i := i) (by omega)
          rw [wlen] at hn'
          obtain ⟨x, hx⟩ := hold_self (es := w) (i := i) (by omega)
          simp only [decide_eq_true (show (0 : Int) < ((n : Nat) : Int) by omega), ix_nat hq, go_sem, Nat.reduceBEq]
          refine hn'.put1 (h0 := h) (d := .raw (.int .i64 x)) tyS3 rfl rfl (by rw [en, hx]; exact m3) (by omega) fun h5 m5 => ?_
          rw [en] at m5
          simp only [hwl, wsu, go_sem, Nat.reduceBEq]
          exact Again.intro (i + 1, w.set i (n : Nat)) (by first | omega | (simp only; omega)) ⟨hq, ri.put hq (by omega) hwz q.2 q.1 (by omega), m5⟩ (by repeat (first | exact wkF_e | refine wkF_c rfl ?_)) (wkB_c rfl wkB_e) rfl
        · obtain ⟨hn0, q⟩ := q
          subst hn0
          simp only [decide_eq_false (show ¬ (0 : Int) < ((0 : Nat) : Int) by omega), wsu, go_sem, Nat.reduceBEq]
          exact Again.intro (i + 1, w) (by first | omega | (simp only; omega)) ⟨hq, q, m3⟩ (by repeat (first | exact wkF_e | refine wkF_c rfl ?_)) (wkB_c rfl wkB_e) rfl
  · have hq : i = l.length := by simp at hq; omega
    subst hq
    have wsr := wrap_succ (i := rd) (by omega)
    simp only [wsr, go_sem]
    exact Again.intro (rd + 1, w) (by first | omega | (simp only; omega)) ⟨by show rd + 1 ≤ 201; omega, ri.next, m3⟩ (by repeat (first | exact wkF_e | refine wkF_c rfl ?_)) (wkB_c rfl wkB_e) rfl
theorem bk_negS {l : List Bk} {i : Nat} {b : Bk} (hb : l[i]? = some b) (h : bkOk l b = false) : heapB l = false := noHeap fun k => by
  have := k.blk i b hb
  rw [h] at this
  cases this
set_option maxHeartbeats 1600000 in
theorem sIsHeap (l : List Bk) (hb : szG Bk.bulk l ≤ 1048576) (s : Value) (h : Hp) (r : RdB h l s) : ACalls Tryz.prog 77 #[.agg #[s]] h (Is (.bool (heapB l)) h) := by
  have hlen := szG_len (w := Bk.bulk) l
  obtain ⟨a1, c1, xs1, rfl, hc1, hr1, hat1⟩ := r.rows (by decide) l.length (fm_len Bk.dt_len _)
  (refine enter Tryz.func77 rfl rfl (by kernel_rfl) [] ?_; simp only [go_sem, Nat.reduceBEq])
  refine aloop (ι := Nat) (fun i => [(3, .val (.int .i64 (i : Nat))), (1, .box 1 0)]) (fun _ => [(1, [.slice a1 l.length c1])])
    (fun i h' => i ≤ l.length ∧ Ext h h' ∧ preB l i) (fun i => l.length - i) 0 ⟨Nat.zero_le _, Ext.refl _, fun j b hj => by omega⟩ (by repeat (first | exact wkF_e | refine wkF_c rfl ?_)) (wkB_c rfl wkB_e) rfl ?_
  rintro i h1 ⟨hi, e1, pb⟩
  have hi : i ≤ l.length := hi
  have pb : preB l i := pb
  try simp only [go_sem, Nat.reduceBEq]
  refine Br.intro (fun hq => ?_) (fun hq => ?_) <;> (try simp only [hq, go_sem, Nat.reduceBEq, Nat.reduceLeDiff])
  · have hq : i < l.length := by simpa using hq
    obtain ⟨b1, o1, rfl, hat1'⟩ := hat1 (by omega)
    obtain ⟨b, hbk, hm⟩ := get_lt hq
    have hsb := slots_bulk hbk
    obtain ⟨hsl, hsv⟩ := tab_slots b.tab
    have wsu := wrap_succ (i := i) (by omega)
    simp only [ix_nat hq, go_sem, Nat.reduceBEq]
    refine hsem_blk tyS107 (hat1'.mono e1) (hr1.mono e1) hbk rfl fun s2 u2 rh ru => ?_
    obtain ⟨a3, c3, xs3, rfl, hc3, hr3, hat3⟩ := rh.rows (by decide) b.tab.heads.length (fm_len idt_len _)
    obtain ⟨a2, c2, xs2, rfl, hc2, hr2, hat2⟩ := ru.rows (by decide) b.tab.slots.length (fm_len Sl.dt_len _)
    by_cases h0 : b.count = 0
    · simp only [decide_eq_true h0, go_sem, Nat.reduceBEq, Nat.reduceAdd, Nat.reduceLeDiff]
      have hF : bkOk l b = b.free := bkOk_free h0
      (refine (sFree l b _ _ _ rh ru h0).mono ?_; rintro _ _ ⟨rfl, rfl⟩; simp only [go_sem, Nat.reduceBEq])
      cases hfr : b.free with
      | false =>
        simp only [Bool.not_false, go_sem, Nat.reduceBEq]
        exact ⟨by rw [bk_negS hbk (by rw [hF, hfr])], e1⟩
      | true =>
        have hs0 := free_slots hfr
        simp only [decide_eq_true h0, Bool.not_true, go_sem, Nat.reduceBEq]
        refine aloop (ι := Nat) (fun _ => [(5, .val (.int .i64 0)), (3, .val (.int .i64 (i : Nat))), (1, .box 1 0), (4, .box 4 0)]) (fun _ => [(1, [.slice (some ⟨b1, o1, none⟩) l.length c1]), (4, [.int .i64 b.count, .bool b.tab.hashed, .slice a3 b.tab.heads.length c3, .slice a2 b.tab.slots.length c2, .int .i64 b.tab.next, .int .i64 b.tab.count])])
          (fun k h' => h1 = h') (fun _ => 0) 0 rfl (by repeat (first | exact wkF_e | refine wkF_c rfl ?_)) (wkB_c rfl (wkB_c rfl wkB_e)) rfl ?_
        rintro k _ rfl
        simp only [hs0, List.length_nil, go_sem, Nat.reduceBEq, Nat.reduceAdd]
        simp only [decide_eq_false (show ¬ (0 : Int) < ((0 : Nat) : Int) by decide), wsu, go_sem, Nat.reduceBEq, Nat.reduceLeDiff, Nat.reduceEqDiff]
        exact Again.intro (i + 1) (by first | omega | (simp only; omega)) ⟨hq, e1, pb.step hbk (by rw [hF, hfr])⟩ (by repeat (first | exact wkF_e | refine wkF_c rfl ?_)) (wkB_c rfl wkB_e) rfl
    have hL := bkOk_live (l := l) h0
    simp only [decide_eq_false h0, Bool.not_false, go_sem, Nat.reduceBEq, Nat.reduceAdd, Nat.reduceLeDiff]
    (refine (l1In_c _ _ _ _).mono ?_; rintro _ _ ⟨rfl, rfl⟩; simp only [go_sem, Nat.reduceBEq])
    by_cases q0 : 1 ≤ b.count ∧ b.count ≤ 1000000000000
    case neg =>
      simp only [decide_eq_false q0, Bool.not_false, go_sem, Nat.reduceBEq]
      exact ⟨by rw [bk_negS hbk (Bool.eq_false_iff.2 fun k => q0 (hL.1 k).1)], e1⟩
    simp only [decide_eq_true q0, Bool.not_true, go_sem, Nat.reduceBEq, Nat.reduceAdd, Nat.reduceLeDiff]
    refine (sIsTable b.tab (by omega) _ _ _ rh ru).mono ?_
    rintro _ h2 ⟨rfl, e12⟩
    have e2 := e1.trans e12
    cases hT : b.tab.isTab with
    | false =>
      simp only [Bool.not_false, go_sem, Nat.reduceBEq]
      exact ⟨by rw [bk_negS hbk (Bool.eq_false_iff.2 fun k => by have := (hL.1 k).2.1; rw [hT] at this; cases this)], e2⟩
    | true =>
    simp only [Bool.not_true, go_sem, Nat.reduceBEq]
    refine aloop (ι := Nat) (fun k => [(5, .val (.int .i64 (k : Nat))), (3, .val (.int .i64 (i : Nat))), (1, .box 1 0), (4, .box 4 0)]) (fun _ => [(1, [.slice (some ⟨b1, o1, none⟩) l.length c1]), (4, [.int .i64 b.count, .bool b.tab.hashed, .slice a3 b.tab.heads.length c3, .slice a2 b.tab.slots.length c2, .int .i64 b.tab.next, .int .i64 b.tab.count])])
      (fun k h' => k ≤ b.tab.slots.length ∧ Ext h1 h' ∧ preS l b.tab.slots k) (fun k => b.tab.slots.length - k) 0 ⟨Nat.zero_le _, e12, fun j b hj => by omega⟩ (by repeat (first | exact wkF_e | refine wkF_c rfl ?_)) (wkB_c rfl (wkB_c rfl wkB_e)) rfl ?_
    rintro k h3 ⟨hk, e13, ps⟩
    have hk : k ≤ b.tab.slots.length := hk
    have ps : preS l b.tab.slots k := ps
    have e3 := e1.trans e13
    try simp only [go_sem, Nat.reduceBEq, Nat.reduceAdd]
    refine Br.intro (fun hkb => ?_) (fun hkb => ?_) <;> (try simp only [hkb, go_sem, Nat.reduceBEq, Nat.reduceLeDiff, Nat.reduceEqDiff])
    · have hkb : k < b.tab.slots.length := by simpa using hkb
      obtain ⟨b2, o2, rfl, hat2'⟩ := hat2 (by omega)
      obtain ⟨e, he, hme⟩ := get_lt hkb
      have hve := hsv e hme
      have wsk := wrap_succ (i := k) (by omega)
      refine regionD_intro (lb := [53, 59, 62]) (by kernel_rfl) ?_
      simp only [ix_nat hkb, go_sem, Nat.reduceBEq, Nat.reduceAdd]
      refine hsem_slive tyS4 (hat2'.mono e13) (hr2.mono e13) he rfl ?_
      cases hv : e.live with
      | false =>
        simp only [wsk, go_sem, Nat.reduceBEq]
        exact Again.intro (k + 1) (by first | omega | (simp only; omega)) ⟨hkb, e13, ps.step he fun q => by rw [hv] at q; cases q⟩ (by repeat (first | exact wkF_e | refine wkF_c rfl ?_)) (wkB_c rfl (wkB_c rfl wkB_e)) rfl
      | true =>
        simp only [ix_nat hkb, go_sem, Nat.reduceBEq, Nat.reduceAdd, Nat.reduceLeDiff]
        refine hsem_sval tyS44 (hat2'.mono e13) (hr2.mono e13) he (by omega) fun s3 rd3 => ?_
        try simp only [go_sem, Nat.reduceBEq]
        refine (sIsHeld l e.val (by omega) (by omega) _ _ _ (r.mono e3) rd3).mono ?_
        rintro _ h4 ⟨rfl, e34⟩
        cases hhd : isHeld l e.val with
        | false =>
          simp only [Bool.not_false, go_sem, Nat.reduceBEq]
          exact ⟨by rw [bk_negS hbk (Bool.eq_false_iff.2 fun q => by have := (hL.1 q).2.2 k e he hv; rw [hhd] at this; cases this)], e3.trans e34⟩
        | true =>
          simp only [Bool.not_true, wsk, go_sem, Nat.reduceBEq]
          exact Again.intro (k + 1) (by first | omega | (simp only; omega)) ⟨hkb, e13.trans e34, ps.step he fun _ => hhd⟩ (by repeat (first | exact wkF_e | refine wkF_c rfl ?_)) (wkB_c rfl (wkB_c rfl wkB_e)) rfl
    · have hkb : k = b.tab.slots.length := by simp at hkb; omega
      subst hkb
      simp only [wsu, go_sem]
      exact Again.intro (i + 1) (by first | omega | (simp only; omega)) ⟨hq, e3, pb.step hbk (hL.2 ⟨q0, hT, fun k s hs hl => ps k s (lt_of_get hs) hs hl⟩)⟩ (by repeat (first | exact wkF_e | refine wkF_c rfl ?_)) (wkB_c rfl wkB_e) rfl
  · have hq : i = l.length := by simp at hq; omega
    subst hq
    obtain ⟨hin, hcz⟩ := pb.inR
    try simp only [go_sem, Nat.reduceBEq, Nat.reduceAdd, Nat.reduceLeDiff, Nat.reduceEqDiff, Int.reduceEq, not_false_eq_true, Int.reduceToNat]
    refine (sLight l hb hin hcz _ _ (r.mono e1)).mono ?_
    rintro _ h2 ⟨rfl, e12⟩
    simp only [go_sem, Nat.reduceBEq]
    refine ⟨?_, e1.trans e12⟩
    have : heapB l = lightB l := by
      unfold heapB
      rw [allAt_iff.2 fun i b hb => pb i b (lt_of_get hb) hb, Bool.true_and]
    rw [this]
end Go.Proofs.YtedfplodobpgfaaGreatDoor
