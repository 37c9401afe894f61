/-
  What ParseSigned and IsKey of the program and of the reference return.
-/
import Derived.Test.YtconhonjkfpfmaaDoorEnv
import Derived.Test.YtconhonjkfpfmaaDoorFmt
import Derived.Test.YtconhonjkfpfmaaDoorConv
import Derived.Lib.AtoiAllCases
namespace Go.Proofs.YtconhonjkfpfmaaDoor
set_option maxRecDepth 8000
open Go Go.Sx
/-- a number read, or none -/
def PS (h : Hp) (s : ByteArray) (u : Value) (h' : Hp) : Prop := Ext h h' ∧ ∃ n : Int, u = .tuple #[.int .i64 n, .bool (canonB s)]
theorem canon_short {s : ByteArray} (h : canonP s) : 1 ≤ s.size ∧ s.size ≤ 11 := by
  obtain ⟨n, h1, h2, h3⟩ := h
  have := size_list s
  have h4 := (itoa_len (n := n) (k := 9) (by omega)).1
  have h5 := itoa_pos_len n
  rw [h3] at this
  omega
theorem canon_atoi {s : ByteArray} {n m : Int} (h : s.data.toList = Lib.itoa n) (hn : n.natAbs < 10 ^ 17) (ha : Lib.atoiAll s.data.toList = .ok m) : m = n := by
  rw [h, atoiAll_itoa hn] at ha
  cases ha
  rfl
theorem ba_itoa {s : ByteArray} {n : Int} (h : (⟨(Lib.itoa n).toArray⟩ : ByteArray) = s) : s.data.toList = Lib.itoa n := by rw [← h]
theorem iParseWithin (s : ByteArray) (h : Hp) (hE : Env h) : ACalls Tryd.prog 111 #[.string s, .int .i64 (-1000000000), .int .i64 1000000000] h (PS h s) := by
  have hif : isIfc Tryd.prog 122 = true := by kernel_rfl
  (refine enter Tryd.func111 rfl rfl (by kernel_rfl) [] ?_; simp only [go_sem, Nat.reduceBEq])
  refine Br.intro (fun hl => ?_) (fun hl => ?_) <;> (try simp only [hl, go_sem, Nat.reduceBEq])
  · have hl := of_decide_eq_true hl
    exact ⟨Ext.refl _, 0, by rw [canonB_false fun k => by have := canon_short k; omega]⟩
  have hl := of_decide_eq_false hl
  refine (atoi_c s (by omega) _ hE).mono ?_
  rintro v _ ⟨hv, rfl⟩
  rcases hv with ⟨n, hx, rfl⟩ | ⟨hx, m, t, p, rfl⟩
  · have hb := Lib.atoiAll_bounds hx
    have hn : IntKind.i64.min ≤ n ∧ n ≤ IntKind.i64.max := by
      rw [i64max, show IntKind.i64.min = -9223372036854775808 by decide]
      exact hb
    simp only [hif, go_sem, Nat.reduceBEq]
    (refine (itoa_c n hn _ hE.pow).mono ?_; rintro _ _ ⟨rfl, rfl⟩; simp only [go_sem, Nat.reduceBEq])
    refine Br.intro (fun h1 => ?_) (fun h1 => ?_) <;> (try simp only [h1, go_sem, Nat.reduceBEq])
    · have h1 : ¬ (⟨(Lib.itoa n).toArray⟩ : ByteArray) = s := by simpa using h1
      refine ⟨Ext.refl _, 0, ?_⟩
      rw [canonB_false]
      rintro ⟨m, hm1, hm2, hm3⟩
      have := canon_atoi hm3 (by omega) hx
      subst this
      exact h1 (ba_of hm3).symm
    have h1 : (⟨(Lib.itoa n).toArray⟩ : ByteArray) = s := by simpa using h1
    have hs := ba_itoa h1
    refine Br.intro (fun h2 => ?_) (fun h2 => ?_) <;> (try simp only [h2, go_sem, Nat.reduceBEq])
    · have h2 := of_decide_eq_true h2
      refine ⟨Ext.refl _, 0, ?_⟩
      rw [canonB_false]
      rintro ⟨m, hm1, hm2, hm3⟩
      have := canon_atoi hm3 (by omega) hx
      omega
    have h2 := of_decide_eq_false h2
    refine Br.intro (fun h3 => ?_) (fun h3 => ?_) <;> (try simp only [h3, go_sem, Nat.reduceBEq])
    · have h3 := of_decide_eq_true h3
      refine ⟨Ext.refl _, 0, ?_⟩
      rw [canonB_false]
      rintro ⟨m, hm1, hm2, hm3⟩
      have := canon_atoi hm3 (by omega) hx
      omega
    have h3 := of_decide_eq_false h3
    exact ⟨Ext.refl _, n, by rw [canonB_true ⟨n, by omega, by omega, hs⟩]⟩
  · simp only [hif, go_sem, Nat.reduceBEq]
    refine ⟨Ext.refl _, 0, ?_⟩
    rw [canonB_false]
    rintro ⟨n, h1, h2, h3⟩
    exact hx n (by rw [h3, atoiAll_itoa (by omega)])
theorem iParseSigned (s : ByteArray) (h : Hp) (hE : Env h) : ACalls Tryd.prog 86 #[.string s] h (PS h s) := by
  (refine enter Tryd.func86 rfl rfl (by kernel_rfl) [] ?_; simp only [go_sem, Nat.reduceBEq])
  refine (iParseWithin s _ hE).mono ?_
  rintro _ h1 ⟨e1, n, rfl⟩
  simp only [go_sem, Nat.reduceBEq]
  exact ⟨e1, n, rfl⟩
/-- a number that is not negative, or none -/
def PI (h : Hp) (s : ByteArray) (u : Value) (h' : Hp) : Prop := Ext h h' ∧ ∃ (n : Nat) (ok : Bool), u = .tuple #[.int .i64 (n : Nat), .bool ok] ∧ (ok = true → n ≤ 1000000000000 ∧ s.data.toList = Lib.itoa n) ∧ (ok = false → ∀ m : Nat, m ≤ 1000000000000 → s.data.toList ≠ Lib.itoa m)
theorem itoa_nat (m : Nat) : Lib.itoa (m : Int) = Lib.decDigits m := by
  unfold Lib.itoa
  rw [if_neg (by omega)]
  rfl
theorem decFrom_step {l : List UInt8} {i n : Nat} {c : UInt8} (h : Lib.decFrom 0 (l.take i) = some n) (hc : l[i]? = some c) (hd : 48 ≤ c.toNat ∧ c.toNat ≤ 57) : Lib.decFrom 0 (l.take (i + 1)) = some (n * 10 + (c.toNat - 48)) :=
  Lib.decFrom_take l i 0 n c _ h hc (by unfold Lib.digitVal; rw [if_pos hd])
theorem sParseInt (s : ByteArray) (h : Hp) : ACalls Tryd.prog 122 #[.string s] h (PI h s) := by
  have hsz := size_list s
  have small : ∀ m : Nat, m ≤ 1000000000000 → s.data.toList = Lib.itoa m → 1 ≤ s.size ∧ s.size ≤ 13 := by
    intro m hm he
    have h1 := (itoa_len (n := (m : Int)) (k := 12) (by omega)).2 (by omega)
    have h2 := itoa_pos_len (m : Int)
    rw [he] at hsz
    omega
  (refine enter Tryd.func122 rfl rfl (by kernel_rfl) [] ?_; simp only [go_sem, Nat.reduceBEq])
  (refine (l1In_c _ _ _ _).mono ?_; rintro _ _ ⟨rfl, rfl⟩; simp only [go_sem, Nat.reduceBEq])
  refine Br.intro (fun hl => ?_) (fun hl => ?_) <;> (try simp only [hl, go_sem, Nat.reduceBEq])
  · have hl : ¬ (1 ≤ s.size ∧ s.size ≤ 13) := by
      simp only [Bool.not_eq_true', decide_eq_false_iff_not] at hl
      omega
    exact ⟨Ext.refl _, 0, false, rfl, by simp, fun _ m hm he => hl (small m hm he)⟩
  have hl : 1 ≤ s.size ∧ s.size ≤ 13 := by
    simp only [Bool.not_eq_false', decide_eq_true_eq] at hl
    omega
  refine aloop (ι := Nat × Nat) (fun x => [(5, .val (.int .i64 (x.1 : Nat))), (4, .val (.int .i64 (x.2 : Nat))), (0, .val (.string s))]) (fun _ => [])
    (fun x h' => x.1 ≤ s.size ∧ Lib.decFrom 0 (s.data.toList.take x.1) = some x.2 ∧ x.2 < 10 ^ x.1 ∧ h = h') (fun x => s.size - x.1) (0, 0)
    ⟨Nat.zero_le _, rfl, by decide, rfl⟩ (by repeat (first | exact wkF_e | refine wkF_c rfl ?_)) wkB_e rfl ?_
  rintro ⟨i, n⟩ _ ⟨hi, hd, hn, rfl⟩
  have hi : i ≤ s.size := hi
  have hd : Lib.decFrom 0 (s.data.toList.take i) = some n := hd
  have hn : n < 10 ^ i := hn
  have hp : 10 ^ i ≤ 10 ^ 13 := Nat.pow_le_pow_right (by decide) (by omega)
  have e13 : (10 : Nat) ^ 13 = 10000000000000 := by decide
  simp only [go_sem, Nat.reduceBEq]
  refine Br.intro (fun hb => ?_) (fun hb => ?_) <;> (try simp only [hb, go_sem, Nat.reduceBEq])
  · have hb : i < s.size := by simpa using hb
    obtain ⟨c, hc⟩ : ∃ c, s.data.toList[i]? = some c := ⟨_, List.getElem?_eq_getElem (by omega)⟩
    have wsu := wrap_succ (i := i) (by omega)
    have hc8 := c.toNat_lt
    have wch : IntKind.i64.wrap (c.toNat : Int) = (c.toNat : Int) := IntWalk.i64_in _ (by omega)
    simp only [sidx_at hc, wch, go_sem, Nat.reduceBEq]
    (refine (l1In_c _ _ _ _).mono ?_; rintro _ _ ⟨rfl, rfl⟩; simp only [go_sem, Nat.reduceBEq])
    refine Br.intro (fun hdg => ?_) (fun hdg => ?_) <;> (try simp only [hdg, go_sem, Nat.reduceBEq])
    · have hdg : ¬ (48 ≤ c.toNat ∧ c.toNat ≤ 57) := by
        simp only [Bool.not_eq_true', decide_eq_false_iff_not] at hdg
        omega
      refine ⟨Ext.refl _, 0, false, rfl, by simp, fun _ m hm he => ?_⟩
      rw [itoa_nat] at he
      obtain ⟨d, hd'⟩ := Lib.digit_of_decFrom _ _ _ (decFrom_dec m) i c (by rw [← he]; exact hc)
      unfold Lib.digitVal at hd'
      rw [if_neg hdg] at hd'
      cases hd'
    · have hdg : 48 ≤ c.toNat ∧ c.toNat ≤ 57 := by
        simp only [Bool.not_eq_false', decide_eq_true_eq] at hdg
        omega
      have hdig : isDig c = true := by simp [isDig]; omega
      have w1 : IntKind.i64.wrap (10 * (n : Int)) = 10 * (n : Int) := IntWalk.i64_in _ (by omega)
      have w2 : IntKind.i64.wrap (10 * (n : Int) + ((c.toNat : Int) - 48)) = ((n * 10 + (c.toNat - 48) : Nat) : Int) := by rw [IntWalk.i64_in _ (by omega)]; omega
      simp only [sidx_at hc, u8sub hdig, w1, w2, wsu, go_sem, Nat.reduceBEq]
      refine Again.intro (i + 1, n * 10 + (c.toNat - 48)) (by first | omega | (simp only; omega)) ⟨hb, decFrom_step hd hc hdg, ?_, rfl⟩ (by repeat (first | exact wkF_e | refine wkF_c rfl ?_)) wkB_e rfl
      simp only
      rw [Nat.pow_succ]
      omega
  · have hb : i = s.size := by simp at hb; omega
    subst hb
    rw [List.take_of_length_le (by omega)] at hd
    have hu : ∀ m : Nat, s.data.toList = Lib.itoa m → m = n := by
      intro m he
      rw [he, itoa_nat, decFrom_dec] at hd
      exact Option.some.inj hd
    refine Br.intro (fun hbig => ?_) (fun hbig => ?_) <;> (try simp only [hbig, go_sem, Nat.reduceBEq])
    · have hbig := of_decide_eq_true hbig
      refine ⟨Ext.refl _, 0, false, rfl, by simp, fun _ m hm he => ?_⟩
      have := hu m he
      omega
    have hbig := of_decide_eq_false hbig
    refine (sFormatInt (n : Int) (by rw [i64max, show IntKind.i64.min = -9223372036854775808 by decide]; omega) _).mono ?_
    rintro _ h2 ⟨rfl, e2⟩
    simp only [go_sem, Nat.reduceBEq]
    refine Br.intro (fun he => ?_) (fun he => ?_) <;> (try simp only [he, go_sem, Nat.reduceBEq])
    · have he : ¬ (⟨(Lib.itoa (n : Int)).toArray⟩ : ByteArray) = s := by simpa using he
      refine ⟨e2, 0, false, rfl, by simp, fun _ m hm hq => ?_⟩
      have := hu m hq
      subst this
      exact he (ba_of hq).symm
    · have he : (⟨(Lib.itoa (n : Int)).toArray⟩ : ByteArray) = s := by simpa using he
      exact ⟨e2, n, true, rfl, fun _ => ⟨by omega, ba_itoa he⟩, by simp⟩
theorem itoa_head_neg {n : Int} {r : List UInt8} (h : Lib.itoa n = 45 :: r) : n < 0 ∧ r = Lib.decDigits n.natAbs := by
  unfold Lib.itoa at h
  by_cases hn : n < 0
  · rw [if_pos hn] at h
    exact ⟨hn, (List.cons.inj h).2.symm⟩
  · rw [if_neg hn] at h
    obtain ⟨b, q, hb, h1, h2⟩ := dec_head n.toNat
    rw [hb] at h
    have := (List.cons.inj h).1
    subst this
    exact absurd h1 (by decide)
theorem sParseSigned (s : ByteArray) (h : Hp) (hs : s.size ≤ 1152921504606846976) : ACalls Tryd.prog 108 #[.string s] h (PS h s) := by
  have hsz := size_list s
  -- what is behind the sign
  have pos : ∀ c : UInt8, s.data.toList[0]? = some c → ¬ c = 45 → ∀ n : Int, s.data.toList = Lib.itoa n → 0 ≤ n := by
    intro c hc hne n he
    by_cases hn : n < 0
    · rw [he] at hc
      unfold Lib.itoa at hc
      rw [if_pos hn] at hc
      simp only [List.getElem?_cons_zero, Option.some.injEq] at hc
      exact absurd hc.symm hne
    · omega
  have plain : (∀ n : Int, s.data.toList = Lib.itoa n → 0 ≤ n) → ∀ h1, ∀ (n : Nat) (ok : Bool), Ext h h1 → (ok = true → n ≤ 1000000000000 ∧ s.data.toList = Lib.itoa n) → (ok = false → ∀ m : Nat, m ≤ 1000000000000 → s.data.toList ≠ Lib.itoa m) → (canonB s = true ↔ ok = true ∧ n ≤ 1000000000) := by
    intro hp h1 n ok e1 k1 k2
    constructor
    · intro hc
      have hc : canonP s := canonB_iff.1 hc
      obtain ⟨m, m1, m2, m3⟩ := hc
      have hm := hp m m3
      cases ok with
      | false => exact absurd m3 (by have := k2 rfl m.toNat (by omega); rwa [show ((m.toNat : Nat) : Int) = m by omega] at this)
      | true =>
        have := itoa_inj (m3.symm.trans (k1 rfl).2)
        exact ⟨rfl, by omega⟩
    · rintro ⟨rfl, hn⟩
      exact canonB_true ⟨(n : Int), by omega, by omega, (k1 rfl).2⟩
  have fin : ∀ (b : Bool) (h1 : Hp) (n : Int), (canonB s = true ↔ b = true) → Ext h h1 → PS h s (.tuple #[.int .i64 n, .bool b]) h1 := by
    intro b h1 n hb e1
    refine ⟨e1, n, ?_⟩
    have : canonB s = b := Bool.eq_iff_iff.2 hb
    rw [this]
  by_cases h0 : s.size = 0
  · (refine enter Tryd.func108 rfl rfl (by kernel_rfl) [] ?_; simp only [go_sem, Nat.reduceBEq])
    have e0 : s = ⟨#[]⟩ := str_empty.2 h0
    have d0 : decide ((0 : Int) < (s.size : Int)) = false := decide_eq_false (by omega)
    simp only [d0, go_sem, Nat.reduceBEq]
    refine (sParseInt s _).mono ?_
    rintro _ h1 ⟨e1, n, ok, rfl, k1, k2⟩
    have hn0 : ∀ n : Int, s.data.toList ≠ Lib.itoa n := by
      intro n he
      have := itoa_pos_len n
      rw [← he] at this
      omega
    cases ok with
    | true => exact absurd (k1 rfl).2 (hn0 n)
    | false =>
      simp only [go_sem, Nat.reduceBEq]
      exact fin false _ 0 ⟨fun hc => absurd (canonB_iff.1 hc) (fun ⟨m, _, _, m3⟩ => hn0 m m3), fun hc => by cases hc⟩ e1
  obtain ⟨c0, hc0⟩ : ∃ c, s.data.toList[0]? = some c := ⟨_, List.getElem?_eq_getElem (by omega)⟩
  have hix : sidx s 0 = some (.int .u8 c0.toNat) := sidx_at hc0
  have d0 : decide ((0 : Int) < (s.size : Int)) = true := decide_eq_true (by omega)
  by_cases h45 : c0 = 45
  · subst h45
    obtain ⟨r, hr⟩ : ∃ r, s.data.toList = 45 :: r := by
      cases hd : s.data.toList with
      | nil => rw [hd] at hc0; simp at hc0
      | cons a r => rw [hd] at hc0; simp at hc0; exact ⟨r, by rw [hc0]⟩
    have hex : (s.extract 1 s.size).data.toList = r := by
      have : (s.extract 1 s.size).data.toList = s.data.toList.drop 1 := by
        simp only [ByteArray.data_extract, Array.toList_extract, List.extract]
        exact List.take_of_length_le (by rw [List.length_drop]; omega)
      rw [this, hr]
      rfl
    have hd45 : decide ((((45 : UInt8).toNat : Nat) : Int) = 45) = true := by decide
    (refine enter Tryd.func108 rfl rfl (by kernel_rfl) [] ?_; simp only [go_sem, Nat.reduceBEq])
    simp only [d0, hix, hd45, go_sem, Nat.reduceBEq, Int.reduceToNat]
    have hcond : (0 : Int) ≤ 1 ∧ (1 : Int) ≤ (s.size : Int) ∧ (s.size : Int) ≤ (s.size : Int) := by omega
    try simp only [hcond, go_sem]
    refine (sParseInt (s.extract 1 s.size) _).mono ?_
    rintro _ h1 ⟨e1, n, ok, rfl, k1, k2⟩
    rw [hex] at k1 k2
    have key : canonB s = true ↔ ok = true ∧ n ≤ 1000000000 ∧ ¬ n = 0 := by
      constructor
      · intro hc
        have hc : canonP s := canonB_iff.1 hc
        obtain ⟨m, m1, m2, m3⟩ := hc
        rw [hr] at m3
        obtain ⟨m4, m5⟩ := itoa_head_neg m3.symm
        rw [← itoa_nat] at m5
        cases ok with
        | false => exact absurd m5 (k2 rfl m.natAbs (by omega))
        | true =>
          have := itoa_inj (m5.symm.trans (k1 rfl).2)
          exact ⟨rfl, by omega, by omega⟩
      · rintro ⟨rfl, hn, hn0⟩
        refine canonB_true ⟨-(n : Int), by omega, by omega, ?_⟩
        rw [hr, (k1 rfl).2, itoa_nat]
        unfold Lib.itoa
        rw [if_pos (by omega), Int.natAbs_neg, Int.natAbs_natCast]
    cases ok with
    | false =>
      simp only [go_sem, Nat.reduceBEq]
      exact fin _ _ _ (key.trans (by simp)) e1
    | true =>
      simp only [go_sem, Nat.reduceBEq]
      refine Br.intro (fun hb => ?_) (fun hb => ?_) <;> (try simp only [hb, go_sem, Nat.reduceBEq])
      · have hb := of_decide_eq_true hb
        exact fin _ _ _ (key.trans (by simp; omega)) e1
      have hb := of_decide_eq_false hb
      refine Br.intro (fun hz => ?_) (fun hz => ?_) <;> (try simp only [hz, go_sem, Nat.reduceBEq])
      · have hz := of_decide_eq_true hz
        exact fin _ _ _ (key.trans (by simp; omega)) e1
      · have hz := of_decide_eq_false hz
        exact fin _ _ _ (key.trans (by simp; omega)) e1
  · have hd45 : decide ((c0.toNat : Int) = 45) = false := by
      rw [show (45 : Int) = ((45 : UInt8).toNat : Int) from rfl, byte_dec]
      exact decide_eq_false h45
    (refine enter Tryd.func108 rfl rfl (by kernel_rfl) [] ?_; simp only [go_sem, Nat.reduceBEq])
    simp only [d0, hix, hd45, go_sem, Nat.reduceBEq]
    refine (sParseInt s _).mono ?_
    rintro _ h1 ⟨e1, n, ok, rfl, k1, k2⟩
    have key := plain (pos c0 hc0 h45) h1 n ok e1 k1 k2
    cases ok with
    | false =>
      simp only [go_sem, Nat.reduceBEq]
      exact fin _ _ _ (key.trans (by simp)) e1
    | true =>
      simp only [go_sem, Nat.reduceBEq]
      refine Br.intro (fun hb => ?_) (fun hb => ?_) <;> (try simp only [hb, go_sem, Nat.reduceBEq])
      · have hb := of_decide_eq_true hb
        exact fin _ _ _ (key.trans (by simp; omega)) e1
      · have hb := of_decide_eq_false hb
        exact fin _ _ _ (key.trans (by simp; omega)) e1
theorem iIsKey (k : Ky) (h : Hp) (hE : Env h) : ACalls Tryd.prog 125 #[.agg #[.bool k.text, .int .i64 k.num, .string k.str]] h (Is (.bool (keyOk k)) h) := by
  (refine enter Tryd.func125 rfl rfl (by kernel_rfl) [] ?_; simp only [go_sem, Nat.reduceBEq])
  cases ht : k.text with
  | false =>
    have e : keyOk k = (decide (k.str = ⟨#[]⟩) && decide (-1000000000 ≤ k.num ∧ k.num ≤ 1000000000)) := by unfold keyOk; rw [ht]; rfl
    rw [e]
    simp only [go_sem, Nat.reduceBEq]
    refine Br.intro (fun h1 => ?_) (fun h1 => ?_) <;> (try simp only [h1, go_sem, Nat.reduceBEq])
    · (refine (iInRange _ _ _ _).mono ?_; rintro _ _ ⟨rfl, rfl⟩; simp only [go_sem, Nat.reduceBEq])
      exact ⟨by simp, Ext.refl _⟩
    · exact ⟨by simp, Ext.refl _⟩
  | true =>
    have e : keyOk k = (decide (k.num = 0) && (decide (k.str.size ≤ 400) && !canonB k.str)) := by unfold keyOk; rw [ht]; rfl
    rw [e]
    simp only [go_sem, Nat.reduceBEq]
    refine (iParseSigned k.str _ hE).mono ?_
    rintro _ h1 ⟨e1, n, rfl⟩
    simp only [go_sem, Nat.reduceBEq]
    refine Br.intro (fun h2 => ?_) (fun h2 => ?_) <;> (try simp only [h2, go_sem, Nat.reduceBEq])
    · refine Br.intro (fun h3 => ?_) (fun h3 => ?_) <;> (try simp only [h3, go_sem, Nat.reduceBEq])
      · have h3 := of_decide_eq_true h3
        exact ⟨by rw [decide_eq_true (show k.str.size ≤ 400 by omega)]; rfl, e1⟩
      · have h3 := of_decide_eq_false h3
        exact ⟨by rw [decide_eq_false (show ¬ k.str.size ≤ 400 by omega)]; rfl, e1⟩
    · exact ⟨rfl, e1⟩
theorem sIsKey (k : Ky) (h : Hp) (hs : k.str.size ≤ 1152921504606846976) : ACalls Tryd.prog 79 #[.agg #[.bool k.text, .int .i64 k.num, .string k.str]] h (Is (.bool (keyOk k)) h) := by
  (refine enter Tryd.func79 rfl rfl (by kernel_rfl) [] ?_; simp only [go_sem, Nat.reduceBEq])
  cases ht : k.text with
  | false =>
    have e : keyOk k = (decide (k.str = ⟨#[]⟩) && decide (-1000000000 ≤ k.num ∧ k.num ≤ 1000000000)) := by unfold keyOk; rw [ht]; rfl
    rw [e]
    simp only [go_sem, Nat.reduceBEq]
    (refine (l1In_c _ _ _ _).mono ?_; rintro _ _ ⟨rfl, rfl⟩; simp only [go_sem, Nat.reduceBEq])
    refine Br.intro (fun h1 => ?_) (fun h1 => ?_) <;> (try simp only [h1, go_sem, Nat.reduceBEq])
    · exact ⟨by simp, Ext.refl _⟩
    · exact ⟨by simp, Ext.refl _⟩
  | true =>
    have e : keyOk k = (decide (k.num = 0) && (decide (k.str.size ≤ 400) && !canonB k.str)) := by unfold keyOk; rw [ht]; rfl
    rw [e]
    simp only [go_sem, Nat.reduceBEq]
    refine (sParseSigned k.str _ hs).mono ?_
    rintro _ h1 ⟨e1, n, rfl⟩
    simp only [go_sem, Nat.reduceBEq]
    refine Br.intro (fun h2 => ?_) (fun h2 => ?_) <;> (try simp only [h2, go_sem, Nat.reduceBEq])
    · refine Br.intro (fun h3 => ?_) (fun h3 => ?_) <;> (try simp only [h3, go_sem, Nat.reduceBEq])
      · have h3 := of_decide_eq_true h3
        exact ⟨by rw [decide_eq_true (show k.str.size ≤ 400 by omega)]; rfl, e1⟩
      · have h3 := of_decide_eq_false h3
        exact ⟨by rw [decide_eq_false (show ¬ k.str.size ≤ 400 by omega)]; rfl, e1⟩
    · exact ⟨rfl, e1⟩
end Go.Proofs.YtconhonjkfpfmaaDoor
