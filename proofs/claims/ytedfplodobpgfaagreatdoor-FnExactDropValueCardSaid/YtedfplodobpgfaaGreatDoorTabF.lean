/-
  What the hash functions and the searches in tables of the program and of the reference return.
-/
import Derived.Test.YtedfplodobpgfaaGreatDoorNum
import Derived.Test.YtedfplodobpgfaaGreatDoorSxMathV
import Derived.Test.YtedfplodobpgfaaGreatDoorSxTab
namespace Go.Proofs.YtedfplodobpgfaaGreatDoor
set_option maxRecDepth 8000
open Go Go.Sx
theorem tmod_neg {n m : Int} (h0 : 1 ≤ m) : (n.tmod m < 0 → n.tmod m + m = n % m) ∧ (¬ n.tmod m < 0 → n.tmod m = n % m) ∧ -m < n.tmod m ∧ n.tmod m < m := by
  have h1 := Int.emod_nonneg n (show m ≠ 0 by omega)
  have h2 := Int.emod_lt_of_pos n (show 0 < m by omega)
  have h3 := Int.tmod_eq_emod (a := n) (b := m)
  by_cases h : 0 ≤ n ∨ m ∣ n
  · rw [if_pos h] at h3
    omega
  · rw [if_neg h] at h3
    have : ((m.natAbs : Nat) : Int) = m := by omega
    omega
theorem iMod (n m : Int) (h0 : 1 ≤ m) (h1 : m ≤ 1000000000000) (h : Hp) : ACalls Tryz.prog 124 #[.int .i64 n, .int .i64 m] h (Pu (.int .i64 (n % m)) h) := by
  obtain ⟨t1, t2, t3, t4⟩ := tmod_neg (n := n) h0
  have d1 : decide (m < 1) = false := decide_eq_false (by omega)
  have d2 : decide ((1000000000000 : Int) < m) = false := decide_eq_false (by omega)
  have hm0 : (m = 0) = False := eq_false (by omega)
  (refine enter Tryz.func124 rfl rfl (by kernel_rfl) [] ?_; simp only [go_sem, Nat.reduceBEq])
  simp only [d1, d2, hm0, if_false, go_sem, Nat.reduceBEq]
  refine Br.intro (fun hb => ?_) (fun hb => ?_) <;> (try simp only [hb, go_sem, Nat.reduceBEq])
  · have hb := of_decide_eq_true hb
    have w : IntKind.i64.wrap (n.tmod m + m) = n % m := by rw [IntWalk.i64_in _ (by omega)]; exact t1 hb
    try simp only [w, go_sem]
    exact ⟨by first | rfl | rw [w], rfl⟩
  · have hb := of_decide_eq_false hb
    exact ⟨by rw [t2 hb], rfl⟩
theorem sMod (n m : Int) (h0 : 1 ≤ m) (h1 : m ≤ 1000000000000) (h : Hp) : ACalls Tryz.prog 155 #[.int .i64 n, .int .i64 m] h (Pu (.int .i64 (n % m)) h) := by
  obtain ⟨t1, t2, t3, t4⟩ := tmod_neg (n := n) h0
  have d1 : decide (1 ≤ m ∧ m ≤ 1000000000000) = true := decide_eq_true (by omega)
  have hm0 : (m = 0) = False := eq_false (by omega)
  have w : IntKind.i64.wrap (n.tmod m + m) = n.tmod m + m := IntWalk.i64_in _ (by omega)
  have w2 : (n.tmod m + m).tmod m = n % m := by
    rw [Int.tmod_eq_emod_of_nonneg (by omega), Int.add_emod_right]
    by_cases hb : n.tmod m < 0
    · have := t1 hb
      rw [show n.tmod m = n % m - m by omega, Int.sub_emod_right, Int.emod_emod_of_dvd _ (Int.dvd_refl m)]
    · rw [t2 hb, Int.emod_emod_of_dvd _ (Int.dvd_refl m)]
  (refine enter Tryz.func155 rfl rfl (by kernel_rfl) [] ?_; simp only [go_sem, Nat.reduceBEq])
  (refine (l1In_c _ _ _ _).mono ?_; rintro _ _ ⟨rfl, rfl⟩; simp only [go_sem, Nat.reduceBEq])
  simp only [d1, hm0, if_false, Bool.not_true, w, w2, go_sem, Nat.reduceBEq]
  exact ⟨rfl, rfl⟩

theorem iHashText (s : ByteArray) (hs : s.size ≤ 1152921504606846976) (h : Hp) : ACalls Tryz.prog 158 #[.string s] h (Pu (.int .i64 (hashT s : Nat)) h) := by
  have hsz := size_list s
  (refine enter Tryz.func158 rfl rfl (by kernel_rfl) [] ?_; simp only [go_sem])
  refine aloop (ι := Nat) (fun i => [(4, .val (.int .i64 (i : Nat))), (3, .val (.int .i64 (((s.data.toList.take i).foldl hstep 11 : Nat)))), (0, .val (.string s))]) (fun _ => []) (fun i h' => i ≤ s.size ∧ h' = h) (fun i => s.size - i) 0 ⟨Nat.zero_le _, rfl⟩ (by repeat (first | exact wkF_e | refine wkF_c rfl ?_)) wkB_e rfl ?_
  rintro i _ ⟨hi, rfl⟩
  simp only [go_sem, Nat.reduceBEq]
  refine Br.intro (fun hb => ?_) (fun hb => ?_) <;> (try simp only [hb, go_sem, Nat.reduceBEq])
  · have hb : i < s.size := by simpa using hb
    obtain ⟨c, hc⟩ : ∃ c, s.data.toList[i]? = some c := ⟨_, List.getElem?_eq_getElem (by omega)⟩
    have wsu := wrap_succ (i := i) (by omega)
    have hd := hfold_lt (s.data.toList.take i) 11 (by omega)
    have hc8 := c.toNat_lt
    have wch : IntKind.i64.wrap (c.toNat : Int) = (c.toNat : Int) := IntWalk.i64_in _ (by omega)
    have e := hfold_snoc hc
    generalize (s.data.toList.take i).foldl hstep 11 = d at *
    obtain ⟨x1, hx1⟩ : ∃ x : Int, x = (d : Int) * 1000003 := ⟨_, rfl⟩
    obtain ⟨x2, hx2⟩ : ∃ x : Int, x = x1 + (c.toNat : Int) := ⟨_, rfl⟩
    obtain ⟨x3, hx3⟩ : ∃ x : Int, x = x2 + 13 := ⟨_, rfl⟩
    obtain ⟨d', hd'⟩ : ∃ x : Nat, x = hstep d c := ⟨_, rfl⟩
    have w1 : IntKind.i64.wrap ((d : Int) * 1000003) = x1 := by rw [hx1, IntWalk.i64_in _ (by omega)]
    have w2 : IntKind.i64.wrap (x1 + (c.toNat : Int)) = x2 := by rw [hx2, IntWalk.i64_in _ (by omega)]
    have w3 : IntKind.i64.wrap (x2 + 13) = x3 := by rw [hx3, IntWalk.i64_in _ (by omega)]
    have w4 : x3.tmod 2147483647 = ((d' : Nat) : Int) := by
      rw [Int.tmod_eq_emod_of_nonneg (by omega), hd']
      unfold hstep
      omega
    rw [← hd'] at e
    clear hd'
    simp only [sidx_at hc, wch, w1, w2, w3, w4, wsu, go_sem, Nat.reduceBEq, Int.reduceEq, not_false_eq_true]
    exact Again.intro (i + 1) (by first | omega | (simp only; omega)) ⟨hb, rfl⟩ (by simp only [e]; exact (by repeat (first | exact wkF_e | refine wkF_c rfl ?_))) wkB_e rfl
  · have hb : i = s.size := by simp at hb; omega
    subst hb
    refine ⟨?_, rfl⟩
    rw [List.take_of_length_le (by omega)]
    rfl
theorem iKeyHash (k : Ky) (hs : k.str.size ≤ 1152921504606846976) (h : Hp) : ACalls Tryz.prog 125 #[.agg #[.bool k.text, .int .i64 k.num, .string k.str]] h (Pu (.int .i64 (k.hash : Nat)) h) := by
  (refine enter Tryz.func125 rfl rfl (by kernel_rfl) [] ?_; simp only [go_sem, Nat.reduceBEq])
  cases ht : k.text with
  | true =>
    have e : k.hash = hashT k.str := by unfold Ky.hash; rw [ht]; rfl
    rw [e]
    simp only [go_sem, Nat.reduceBEq]
    (refine (iHashText k.str hs _).mono ?_; rintro _ _ ⟨rfl, rfl⟩; simp only [go_sem, Nat.reduceBEq])
    exact ⟨rfl, rfl⟩
  | false =>
    have e : ((k.hash : Nat) : Int) = k.num % 2147483647 := by
      unfold Ky.hash
      rw [ht]
      show (((k.num % 2147483647).toNat : Nat) : Int) = _
      omega
    rw [e]
    simp only [go_sem, Nat.reduceBEq]
    (refine (iMod k.num 2147483647 (by omega) (by omega) _).mono ?_; rintro _ _ ⟨rfl, rfl⟩; simp only [go_sem, Nat.reduceBEq])
    exact ⟨rfl, rfl⟩
theorem sHashText (s : ByteArray) (hs : s.size ≤ 1152921504606846976) (h : Hp) : ACalls Tryz.prog 154 #[.string s] h (Pu (.int .i64 (hashT s : Nat)) h) := by
  have hsz := size_list s
  (refine enter Tryz.func154 rfl rfl (by kernel_rfl) [] ?_; simp only [go_sem])
  refine aloop (ι := Nat) (fun i => [(4, .val (.int .i64 (i : Nat))), (3, .val (.int .i64 (((s.data.toList.take i).foldl hstep 11 : Nat)))), (0, .val (.string s))]) (fun _ => []) (fun i h' => i ≤ s.size ∧ h' = h) (fun i => s.size - i) 0 ⟨Nat.zero_le _, rfl⟩ (by repeat (first | exact wkF_e | refine wkF_c rfl ?_)) wkB_e rfl ?_
  rintro i _ ⟨hi, rfl⟩
  simp only [go_sem, Nat.reduceBEq]
  refine Br.intro (fun hb => ?_) (fun hb => ?_) <;> (try simp only [hb, go_sem, Nat.reduceBEq])
  · have hb : i < s.size := by simpa using hb
    obtain ⟨c, hc⟩ : ∃ c, s.data.toList[i]? = some c := ⟨_, List.getElem?_eq_getElem (by omega)⟩
    have wsu := wrap_succ (i := i) (by omega)
    have hd := hfold_lt (s.data.toList.take i) 11 (by omega)
    have hc8 := c.toNat_lt
    have wch : IntKind.i64.wrap (c.toNat : Int) = (c.toNat : Int) := IntWalk.i64_in _ (by omega)
    have e := hfold_snoc hc
    generalize (s.data.toList.take i).foldl hstep 11 = d at *
    obtain ⟨x1, hx1⟩ : ∃ x : Int, x = (d : Int) * 1000003 := ⟨_, rfl⟩
    obtain ⟨x2, hx2⟩ : ∃ x : Int, x = x1 + (c.toNat : Int) := ⟨_, rfl⟩
    obtain ⟨x3, hx3⟩ : ∃ x : Int, x = x2 + 13 := ⟨_, rfl⟩
    obtain ⟨d', hd'⟩ : ∃ x : Nat, x = hstep d c := ⟨_, rfl⟩
    have w1 : IntKind.i64.wrap ((d : Int) * 1000003) = x1 := by rw [hx1, IntWalk.i64_in _ (by omega)]
    have w2 : IntKind.i64.wrap (x1 + (c.toNat : Int)) = x2 := by rw [hx2, IntWalk.i64_in _ (by omega)]
    have w3 : IntKind.i64.wrap (x2 + 13) = x3 := by rw [hx3, IntWalk.i64_in _ (by omega)]
    have w4 : x3.tmod 2147483647 = ((d' : Nat) : Int) := by
      rw [Int.tmod_eq_emod_of_nonneg (by omega), hd']
      unfold hstep
      omega
    rw [← hd'] at e
    clear hd'
    simp only [sidx_at hc, wch, w1, w2, w3, w4, wsu, go_sem, Nat.reduceBEq, Int.reduceEq, not_false_eq_true]
    exact Again.intro (i + 1) (by first | omega | (simp only; omega)) ⟨hb, rfl⟩ (by simp only [e]; exact (by repeat (first | exact wkF_e | refine wkF_c rfl ?_))) wkB_e rfl
  · have hb : i = s.size := by simp at hb; omega
    subst hb
    refine ⟨?_, rfl⟩
    rw [List.take_of_length_le (by omega)]
    rfl
theorem sKeyHash (k : Ky) (hs : k.str.size ≤ 1152921504606846976) (h : Hp) : ACalls Tryz.prog 111 #[.agg #[.bool k.text, .int .i64 k.num, .string k.str]] h (Pu (.int .i64 (k.hash : Nat)) h) := by
  (refine enter Tryz.func111 rfl rfl (by kernel_rfl) [] ?_; simp only [go_sem, Nat.reduceBEq])
  cases ht : k.text with
  | true =>
    have e : k.hash = hashT k.str := by unfold Ky.hash; rw [ht]; rfl
    rw [e]
    simp only [go_sem, Nat.reduceBEq]
    (refine (sHashText k.str hs _).mono ?_; rintro _ _ ⟨rfl, rfl⟩; simp only [go_sem, Nat.reduceBEq])
    exact ⟨rfl, rfl⟩
  | false =>
    have e : ((k.hash : Nat) : Int) = k.num % 2147483647 := by
      unfold Ky.hash
      rw [ht]
      show (((k.num % 2147483647).toNat : Nat) : Int) = _
      omega
    rw [e]
    simp only [go_sem, Nat.reduceBEq]
    (refine (sMod k.num 2147483647 (by omega) (by omega) _).mono ?_; rintro _ _ ⟨rfl, rfl⟩; simp only [go_sem, Nat.reduceBEq])
    exact ⟨rfl, rfl⟩
theorem find_packed {t : Tb} {k : Ky} (h : t.hashed = false) : t.find k = if k.text = false ∧ k.str = ⟨#[]⟩ ∧ 0 ≤ k.num ∧ ((t.slots[k.num.toNat]?).map (·.live)).getD false = true then some k.num.toNat else none := by
  unfold Tb.find
  rw [h]
  rfl
theorem find_hashed {t : Tb} {k : Ky} (h : t.hashed = true) : t.find k = chain t.slots k (t.heads.getD (k.hash % t.heads.length) (-1)) := by
  unfold Tb.find
  rw [h]
  rfl
theorem find_no {t : Tb} {k : Ky} (h : t.hashed = false) (hn : ¬ (k.text = false ∧ k.str = ⟨#[]⟩ ∧ 0 ≤ k.num ∧ ((t.slots[k.num.toNat]?).map (·.live)).getD false = true)) : t.find k = none := by
  rw [find_packed h, if_neg hn]
theorem find_yes {t : Tb} {k : Ky} {s : Sl} (h : t.hashed = false) (h1 : k.text = false) (h2 : k.str = ⟨#[]⟩) (h3 : 0 ≤ k.num) (hs : t.slots[k.num.toNat]? = some s) (hl : s.live = true) : t.find k = some k.num.toNat := by
  rw [find_packed h, if_pos ⟨h1, h2, h3, by rw [hs]; simpa using hl⟩]
theorem iFind (t : Tb) (k : Ky) (c : t.ch) (hk : k.str.size ≤ 1152921504606846976) (s u : Value) (h : Hp) (r1 : RdI h t.heads s) (r2 : RdT h t.slots u) : ACalls Tryz.prog 63 #[.agg #[.bool t.hashed, s, u, .int .i64 t.next, .int .i64 t.count], .agg #[.bool k.text, .int .i64 k.num, .string k.str]] h (Pu (.int .i64 (ixI (t.find k))) h) := by
  obtain ⟨a1, c1, xs1, rfl, hc1, hr1, hat1⟩ := r1.rows (by decide) t.heads.length (fm_len idt_len _)
  obtain ⟨a2, c2, xs2, rfl, hc2, hr2, hat2⟩ := r2.rows (by decide) t.slots.length (fm_len Sl.dt_len _)
  have hlen := c.len
  (refine enter Tryz.func63 rfl rfl (by kernel_rfl) [] ?_; simp only [go_sem, Nat.reduceBEq])
  cases ht : t.hashed with
  | false =>
    cases kt : k.text with
    | true =>
      simp only [go_sem, Nat.reduceBEq]
      exact ⟨by rw [find_no ht (by rw [kt]; simp)]; rfl, rfl⟩
    | false =>
    by_cases ks : k.str = ⟨#[]⟩
    case neg =>
      simp only [decide_eq_false ks, Bool.not_false, go_sem, Nat.reduceBEq]
      exact ⟨by rw [find_no ht (by simp [ks])]; rfl, rfl⟩
    by_cases k0 : k.num < 0
    case pos =>
      simp only [decide_eq_true ks, Bool.not_true, decide_eq_true k0, go_sem, Nat.reduceBEq]
      exact ⟨by rw [find_no ht (by intro q; omega)]; rfl, rfl⟩
    by_cases k1 : (t.slots.length : Int) ≤ k.num
    case pos =>
      simp only [decide_eq_true ks, Bool.not_true, decide_eq_false k0, decide_eq_true k1, go_sem, Nat.reduceBEq]
      refine ⟨?_, rfl⟩
      rw [find_no ht ?_]
      · rfl
      · rintro ⟨_, _, _, q⟩
        rw [List.getElem?_eq_none (by omega)] at q
        simp at q
    obtain ⟨n, hkn⟩ : ∃ n : Nat, k.num = n := ⟨k.num.toNat, by omega⟩
    have hn : n < t.slots.length := by omega
    obtain ⟨b2, o2, rfl, hat2'⟩ := hat2 (by omega)
    obtain ⟨e, he, _⟩ := get_lt hn
    have he' : t.slots[k.num.toNat]? = some e := by rw [hkn]; exact he
    rw [hkn] at k0 k1
    simp only [decide_eq_true ks, Bool.not_true, hkn, decide_eq_false k0, decide_eq_false k1, ix_nat hn, go_sem, Nat.reduceBEq, Nat.reduceAdd]
    refine hsem_slive tyS4 hat2' hr2 he rfl ?_
    cases hlv : e.live with
    | false =>
      simp only [go_sem, Nat.reduceBEq]
      refine ⟨?_, rfl⟩
      rw [find_no ht ?_]
      · rfl
      · rintro ⟨_, _, _, q⟩
        rw [he'] at q
        simp [hlv] at q
    | true =>
      simp only [go_sem, Nat.reduceBEq]
      refine ⟨?_, rfl⟩
      rw [find_yes ht kt ks (by omega) he' hlv, hkn]
      rfl
  | true =>
  have hsz := c.size ht
  have hm : k.hash % t.heads.length < t.heads.length := Nat.mod_lt _ (by omega)
  have hx := c.heads ht _ (getD_mem (d := -1) hm)
  have hh := k.hash_lt
  obtain ⟨b1, o1, rfl, hat1'⟩ := hat1 (by omega)
  have em : ((k.hash : Nat) : Int) % ((t.heads.length : Nat) : Int) = ((k.hash % t.heads.length : Nat) : Int) := by omega
  simp only [go_sem]
  refine regionD_intro (lb := [42, 43, 46]) (by kernel_rfl) ?_
  simp only [go_sem, Nat.reduceBEq, Nat.reduceAdd, Nat.reduceLeDiff]
  (refine (iKeyHash k hk _).mono ?_; rintro _ _ ⟨rfl, rfl⟩; simp only [go_sem, Nat.reduceBEq])
  (refine (iMod _ _ (by omega) (by omega) _).mono ?_; rintro _ _ ⟨rfl, rfl⟩; simp only [go_sem, Nat.reduceBEq])
  rw [em]
  simp only [ix_nat hm, go_sem, Nat.reduceBEq]
  refine hsem_num tyS3 hat1' hr1 (getD_at (d := -1) hm) rfl ?_
  simp only [go_sem, Nat.reduceBEq]
  refine aloop (ι := Int) (fun i => [(5, .val (.int .i64 i)), (2, .box 2 0), (3, .box 3 0)]) (fun _ => [(2, [.bool true, .slice (some ⟨b1, o1, none⟩) t.heads.length c1, .slice a2 t.slots.length c2, .int .i64 t.next, .int .i64 t.count]), (3, [.bool k.text, .int .i64 k.num, .string k.str])])
    (fun i h' => -1 ≤ i ∧ i < t.slots.length ∧ chain t.slots k i = t.find k ∧ h = h') (fun i => (i + 1).toNat) (t.heads.getD (k.hash % t.heads.length) (-1)) ⟨hx.1, hx.2, by rw [find_hashed ht], rfl⟩ (by repeat (first | exact wkF_e | refine wkF_c rfl ?_)) (wkB_c rfl (wkB_c rfl wkB_e)) rfl ?_
  rintro i _ ⟨hi0, hi1, hq, rfl⟩
  have hi0 : -1 ≤ i := hi0
  have hi1 : i < t.slots.length := hi1
  have hq : chain t.slots k i = t.find k := hq
  simp only [go_sem, Nat.reduceBEq]
  refine Br.intro (fun hb => ?_) (fun hb => ?_) <;> (try simp only [hb, go_sem, Nat.reduceBEq])
  · have hb : 0 ≤ i := by simpa using hb
    obtain ⟨n, rfl⟩ : ∃ n : Nat, i = n := ⟨i.toNat, by omega⟩
    have hn : n < t.slots.length := by omega
    obtain ⟨b2, o2, rfl, hat2'⟩ := hat2 (by omega)
    obtain ⟨e, he, _⟩ := get_lt hn
    have he' : t.slots[((n : Nat) : Int).toNat]? = some e := he
    have hbk := c.back ht n e he
    refine regionD_intro (lb := [60, 67, 72]) (by kernel_rfl) ?_
    simp only [ix_nat hn, go_sem, Nat.reduceBEq, Nat.reduceAdd]
    refine hsem_slive tyS4 hat2' hr2 he rfl ?_
    cases hlv : e.live with
    | false =>
      rw [chain_miss (c.back ht) hb he' (by rw [hlv]; simp)] at hq
      simp only [ix_nat hn, go_sem, Nat.reduceBEq, Nat.reduceAdd]
      refine hsem_slink tyS3 hat2' hr2 he rfl ?_
      simp only [go_sem, Nat.reduceBEq]
      exact Again.intro e.link (by first | omega | (simp only; omega)) ⟨by omega, by omega, hq, rfl⟩ (by repeat (first | exact wkF_e | refine wkF_c rfl ?_)) (wkB_c rfl (wkB_c rfl wkB_e)) rfl
    | true =>
      simp only [ix_nat hn, go_sem, Nat.reduceBEq]
      refine hsem_skey tyS40 hat2' hr2 he rfl ?_
      simp only [key_dec, keyT40, go_sem, Nat.reduceBEq, Nat.reduceAdd, Nat.reduceLeDiff]
      refine Br.intro (fun hk => ?_) (fun hk => ?_) <;> (try simp only [hk, go_sem, Nat.reduceBEq])
      · have hk := of_decide_eq_true hk
        rw [chain_hit hb he' ⟨hlv, hk⟩] at hq
        exact ⟨by rw [← hq]; rfl, rfl⟩
      · have hk := of_decide_eq_false hk
        rw [chain_miss (c.back ht) hb he' (by rw [hlv]; simp [hk])] at hq
        simp only [ix_nat hn, go_sem, Nat.reduceBEq, Nat.reduceAdd]
        refine hsem_slink tyS3 hat2' hr2 he rfl ?_
        simp only [go_sem, Nat.reduceBEq]
        exact Again.intro e.link (by first | omega | (simp only; omega)) ⟨by omega, by omega, hq, rfl⟩ (by repeat (first | exact wkF_e | refine wkF_c rfl ?_)) (wkB_c rfl (wkB_c rfl wkB_e)) rfl
  · have hb : i < 0 := by simp at hb; omega
    rw [chain_neg hb] at hq
    exact ⟨by rw [← hq]; rfl, rfl⟩
theorem sFind7 (t : Tb) (k : Ky) (c : t.ch) (hk : k.str.size ≤ 1152921504606846976) (s u : Value) (h : Hp) (r1 : RdI h t.heads s) (r2 : RdT h t.slots u) : ACalls Tryz.prog 114 #[.agg #[.bool t.hashed, s, u, .int .i64 t.next, .int .i64 t.count], .agg #[.bool k.text, .int .i64 k.num, .string k.str]] h (Pu (.int .i64 (ixI (t.find k))) h) := by
  obtain ⟨a1, c1, xs1, rfl, hc1, hr1, hat1⟩ := r1.rows (by decide) t.heads.length (fm_len idt_len _)
  obtain ⟨a2, c2, xs2, rfl, hc2, hr2, hat2⟩ := r2.rows (by decide) t.slots.length (fm_len Sl.dt_len _)
  have hlen := c.len
  (refine enter Tryz.func114 rfl rfl (by kernel_rfl) [] ?_; simp only [go_sem, Nat.reduceBEq])
  cases ht : t.hashed with
  | false =>
    have wl : IntKind.i64.wrap (((t.slots.length : Nat) : Int) - 1) = (t.slots.length : Int) - 1 := IntWalk.i64_in _ (by omega)
    simp only [go_sem]
    refine regionD_intro (lb := [10, 14, 16, 23, 25, 32, 34, 38]) (by kernel_rfl) ?_
    cases kt : k.text with
    | true =>
      simp only [go_sem, Nat.reduceBEq]
      exact ⟨by rw [find_no ht (by rw [kt]; simp)]; rfl, rfl⟩
    | false =>
    simp only [wl, go_sem, Nat.reduceBEq]
    (refine (l1In_c _ _ _ _).mono ?_; rintro _ _ ⟨rfl, rfl⟩; simp only [go_sem, Nat.reduceBEq])
    by_cases k0 : 0 ≤ k.num ∧ k.num ≤ (t.slots.length : Int) - 1
    case neg =>
      simp only [decide_eq_false k0, go_sem, Nat.reduceBEq]
      refine ⟨?_, rfl⟩
      rw [find_no ht ?_]
      · rfl
      · rintro ⟨_, _, q0, q⟩
        rw [List.getElem?_eq_none (by omega)] at q
        simp at q
    obtain ⟨n, hkn⟩ : ∃ n : Nat, k.num = n := ⟨k.num.toNat, by omega⟩
    have hn : n < t.slots.length := by omega
    obtain ⟨b2, o2, rfl, hat2'⟩ := hat2 (by omega)
    obtain ⟨e, he, _⟩ := get_lt hn
    have he' : t.slots[k.num.toNat]? = some e := by rw [hkn]; exact he
    have hke := (c.packed ht).2 n e he
    rw [hkn] at k0
    simp only [hkn, decide_eq_true k0, ix_nat hn, go_sem, Nat.reduceBEq, Nat.reduceAdd]
    refine hsem_slive tyS4 hat2' hr2 he rfl ?_
    cases hlv : e.live with
    | false =>
      simp only [go_sem, Nat.reduceBEq]
      refine ⟨?_, rfl⟩
      rw [find_no ht ?_]
      · rfl
      · rintro ⟨_, _, _, q⟩
        rw [he'] at q
        simp [hlv] at q
    | true =>
      simp only [ix_nat hn, go_sem, Nat.reduceBEq]
      refine hsem_skey tyS40 hat2' hr2 he rfl ?_
      have kd : decide (e.key.text = false ∧ e.key.num = ((n : Nat) : Int) ∧ e.key.str = k.str) = decide (e.key = k) := by rw [← kt, ← hkn]; exact key_dec e.key k
      simp only [kd, keyT40, go_sem, Nat.reduceBEq, Nat.reduceAdd, Nat.reduceLeDiff]
      by_cases ke : e.key = k
      · simp only [decide_eq_true ke, go_sem, Nat.reduceBEq]
        refine ⟨?_, rfl⟩
        rw [find_yes ht kt (by rw [← ke, hke]) (by omega) he' hlv, hkn]
        rfl
      · simp only [decide_eq_false ke, go_sem, Nat.reduceBEq]
        refine ⟨?_, rfl⟩
        rw [find_no ht ?_]
        · rfl
        · rintro ⟨_, q, _, _⟩
          refine ke ?_
          rw [hke, ← hkn, ← kt, ← q]
  | true =>
  have hsz := c.size ht
  have hm : k.hash % t.heads.length < t.heads.length := Nat.mod_lt _ (by omega)
  have hx := c.heads ht _ (getD_mem (d := -1) hm)
  have hh := k.hash_lt
  obtain ⟨b1, o1, rfl, hat1'⟩ := hat1 (by omega)
  have em : ((k.hash : Nat) : Int).tmod ((t.heads.length : Nat) : Int) = ((k.hash % t.heads.length : Nat) : Int) := by
    rw [Int.tmod_eq_emod_of_nonneg (by omega)]
    omega
  have hm0 : (((t.heads.length : Nat) : Int) = 0) = False := eq_false (by omega)
  simp only [go_sem]
  refine regionD_intro (lb := [44, 45, 48]) (by kernel_rfl) ?_
  simp only [go_sem, Nat.reduceBEq, Nat.reduceAdd, Nat.reduceLeDiff]
  (refine (sKeyHash k hk _).mono ?_; rintro _ _ ⟨rfl, rfl⟩; simp only [go_sem, Nat.reduceBEq])
  simp only [hm0, em, ix_nat hm, go_sem, Nat.reduceBEq, not_false_eq_true]
  refine hsem_num tyS3 hat1' hr1 (getD_at (d := -1) hm) rfl ?_
  simp only [go_sem, Nat.reduceBEq]
  refine aloop (ι := Int) (fun i => [(5, .val (.int .i64 i)), (2, .box 2 0), (3, .box 3 0)]) (fun _ => [(2, [.bool true, .slice (some ⟨b1, o1, none⟩) t.heads.length c1, .slice a2 t.slots.length c2, .int .i64 t.next, .int .i64 t.count]), (3, [.bool k.text, .int .i64 k.num, .string k.str])])
    (fun i h' => -1 ≤ i ∧ i < t.slots.length ∧ chain t.slots k i = t.find k ∧ h = h') (fun i => (i + 1).toNat) (t.heads.getD (k.hash % t.heads.length) (-1)) ⟨hx.1, hx.2, by rw [find_hashed ht], rfl⟩ (by repeat (first | exact wkF_e | refine wkF_c rfl ?_)) (wkB_c rfl (wkB_c rfl wkB_e)) rfl ?_
  rintro i _ ⟨hi0, hi1, hq, rfl⟩
  have hi0 : -1 ≤ i := hi0
  have hi1 : i < t.slots.length := hi1
  have hq : chain t.slots k i = t.find k := hq
  simp only [go_sem, Nat.reduceBEq]
  refine Br.intro (fun hb => ?_) (fun hb => ?_) <;> (try simp only [hb, go_sem, Nat.reduceBEq])
  · have hb : 0 ≤ i := by simpa using hb
    obtain ⟨n, rfl⟩ : ∃ n : Nat, i = n := ⟨i.toNat, by omega⟩
    have hn : n < t.slots.length := by omega
    obtain ⟨b2, o2, rfl, hat2'⟩ := hat2 (by omega)
    obtain ⟨e, he, _⟩ := get_lt hn
    have he' : t.slots[((n : Nat) : Int).toNat]? = some e := he
    have hbk := c.back ht n e he
    refine regionD_intro (lb := [62, 69, 74]) (by kernel_rfl) ?_
    simp only [ix_nat hn, go_sem, Nat.reduceBEq, Nat.reduceAdd]
    refine hsem_slive tyS4 hat2' hr2 he rfl ?_
    cases hlv : e.live with
    | false =>
      rw [chain_miss (c.back ht) hb he' (by rw [hlv]; simp)] at hq
      simp only [ix_nat hn, go_sem, Nat.reduceBEq, Nat.reduceAdd]
      refine hsem_slink tyS3 hat2' hr2 he rfl ?_
      simp only [go_sem, Nat.reduceBEq]
      exact Again.intro e.link (by first | omega | (simp only; omega)) ⟨by omega, by omega, hq, rfl⟩ (by repeat (first | exact wkF_e | refine wkF_c rfl ?_)) (wkB_c rfl (wkB_c rfl wkB_e)) rfl
    | true =>
      simp only [ix_nat hn, go_sem, Nat.reduceBEq]
      refine hsem_skey tyS40 hat2' hr2 he rfl ?_
      simp only [key_dec, keyT40, go_sem, Nat.reduceBEq, Nat.reduceAdd, Nat.reduceLeDiff]
      refine Br.intro (fun hk => ?_) (fun hk => ?_) <;> (try simp only [hk, go_sem, Nat.reduceBEq])
      · have hk := of_decide_eq_true hk
        rw [chain_hit hb he' ⟨hlv, hk⟩] at hq
        exact ⟨by rw [← hq]; rfl, rfl⟩
      · have hk := of_decide_eq_false hk
        rw [chain_miss (c.back ht) hb he' (by rw [hlv]; simp [hk])] at hq
        simp only [ix_nat hn, go_sem, Nat.reduceBEq, Nat.reduceAdd]
        refine hsem_slink tyS3 hat2' hr2 he rfl ?_
        simp only [go_sem, Nat.reduceBEq]
        exact Again.intro e.link (by first | omega | (simp only; omega)) ⟨by omega, by omega, hq, rfl⟩ (by repeat (first | exact wkF_e | refine wkF_c rfl ?_)) (wkB_c rfl (wkB_c rfl wkB_e)) rfl
  · have hb : i < 0 := by simp at hb; omega
    rw [chain_neg hb] at hq
    exact ⟨by rw [← hq]; rfl, rfl⟩
end Go.Proofs.YtedfplodobpgfaaGreatDoor
