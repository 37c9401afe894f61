/-
  What LeadingInt and IsNumeric of the program and of the reference return; the text has at most 2^60 bytes.
-/
import Derived.Test.YtconhonjkfpfmaaDoorNum
namespace Go.Proofs.YtconhonjkfpfmaaDoor
set_option maxRecDepth 8000
open Go Go.Sx
/-- the digits in front, the number held at M; how many -/
def sat (M : Int) : List UInt8 → Int → Nat → Int × Nat
  | [], n, k => (n, k)
  | c :: r, n, k => if isDig c then sat M r (min (10 * n + ((c.toNat : Int) - 48)) M) (k + 1) else (n, k)
theorem sat_count (M M' : Int) : ∀ (l : List UInt8) (n n' : Int) (k : Nat), (sat M l n k).2 = (sat M' l n' k).2
  | [], _, _, _ => rfl
  | c :: r, n, n', k => by
    simp only [sat]
    split
    · exact sat_count M M' r _ _ _
    · rfl
theorem sat_min {M : Int} (hM : 0 ≤ M) : ∀ (l : List UInt8) (n n' : Int) (k : Nat), 0 ≤ n → n ≤ M + 1 → n' = min n M → (sat M l n' k).1 = min (sat (M + 1) l n k).1 M
  | [], n, n', k, _, _, h => h
  | c :: r, n, n', k, h0, h1, h => by
    simp only [sat]
    split
    · rename_i hc
      simp only [isDig, decide_eq_true_eq] at hc
      exact sat_min hM r _ _ _ (by omega) (by omega) (by omega)
    · exact h
theorem sat_bounds {M : Int} (hM : 0 ≤ M) : ∀ (l : List UInt8) (n : Int) (k : Nat), 0 ≤ n → n ≤ M → 0 ≤ (sat M l n k).1 ∧ (sat M l n k).1 ≤ M ∧ k ≤ (sat M l n k).2 ∧ (sat M l n k).2 ≤ k + l.length
  | [], n, k, h0, h1 => ⟨h0, h1, Nat.le_refl _, by simp [sat]⟩
  | c :: r, n, k, h0, h1 => by
    simp only [sat, List.length_cons]
    split
    · rename_i hc
      simp only [isDig, decide_eq_true_eq] at hc
      have := sat_bounds hM r (min (10 * n + ((c.toNat : Int) - 48)) M) (k + 1) (by omega) (by omega)
      omega
    · simp only; omega
def isNeg (l : List UInt8) : Bool := decide (l.head? = some 45)
def at_ (l : List UInt8) : Nat := if isNeg l then 1 else 0
def leadN (M : Int) (l : List UInt8) : Int := (sat M (l.drop (at_ l)) 0 (at_ l)).1
def lead (s : ByteArray) : Int := if isNeg s.data.toList then -leadN 1000000000 s.data.toList else leadN 1000000000 s.data.toList
theorem u8sub {c : UInt8} (hc : isDig c = true) : IntKind.i64.wrap (IntKind.u8.wrap ((c.toNat : Int) - 48)) = (c.toNat : Int) - 48 := by
  simp only [isDig, decide_eq_true_eq] at hc
  have h3 : ∀ r : Nat, r < 10 → IntKind.u8.wrap (r : Int) = (r : Int) := by decide
  have h4 := h3 (c.toNat - 48) (by omega)
  rw [show ((c.toNat : Int) - 48) = ((c.toNat - 48 : Nat) : Int) by omega, h4, IntWalk.i64_in _ (by omega)]
theorem str_empty {s : ByteArray} : s = ⟨#[]⟩ ↔ s.size = 0 := ⟨fun e => by subst e; rfl, fun e => by
  cases s with
  | mk d => have : d = #[] := Array.eq_empty_of_size_eq_zero e
            rw [this]⟩
theorem neg_nil {s : ByteArray} (h : s.size = 0) : isNeg s.data.toList = false := by
  have : s = ⟨#[]⟩ := str_empty.2 h
  subst this; rfl
theorem neg_get {s : ByteArray} {c : UInt8} (h : s.data.toList[0]? = some c) : isNeg s.data.toList = decide (c = 45) := by
  unfold isNeg
  rw [List.head?_eq_getElem?, h]
  simp
theorem byte_dec (c k : UInt8) : decide ((c.toNat : Int) = (k.toNat : Int)) = decide (c = k) := by
  apply decide_eq_decide.2
  exact ⟨fun h => UInt8.toNat_inj.1 (Int.ofNat.inj h), fun h => by rw [h]⟩
theorem drop_at {l : List UInt8} {i : Nat} {c : UInt8} (h : l[i]? = some c) : l.drop i = c :: l.drop (i + 1) := drop_cons h
theorem iLeadingInt (s : ByteArray) (hs : s.size ≤ 1152921504606846976) (h : Hp) : ACalls Tryd.prog 14 #[.string s] h (Pu (.int .i64 (lead s)) h) := by
  have hsz := size_list s
  (refine enter Tryd.func14 rfl rfl (by kernel_rfl) [] ?_; simp only [go_sem, Nat.reduceBEq])
  refine Br.intro (fun h0 => ?_) (fun h0 => ?_) <;> (try simp only [h0, go_sem, Nat.reduceBEq])
  · have hpos : 0 < s.size := by
      have : ¬ s = ⟨#[]⟩ := by simpa using h0
      rw [str_empty] at this; omega
    obtain ⟨c0, hc0⟩ : ∃ c, s.data.toList[0]? = some c := ⟨_, List.getElem?_eq_getElem (by omega)⟩
    have hix : sidx s 0 = some (.int .u8 c0.toNat) := sidx_at hc0
    have hng := neg_get hc0
    simp only [hix, go_sem, Nat.reduceBEq]
    refine Br.intro (fun h45 => ?_) (fun h45 => ?_) <;> (try simp only [h45, go_sem])
    · have hneg : isNeg s.data.toList = true := by rw [hng, ← byte_dec]; exact h45
      have hat : at_ s.data.toList = 1 := by simp [at_, hneg]
      refine aloop (ι := Nat × Int) (fun x => [(4, .val (.int .i64 (x.1 : Nat))), (5, .val (.int .i64 x.2)), (3, .val (.bool true)), (0, .val (.string s))]) (fun _ => []) (fun x h' => x.1 ≤ s.size ∧ (0 ≤ x.2 ∧ x.2 ≤ 1000000000) ∧ sat 1000000000 (s.data.toList.drop x.1) x.2 x.1 = sat 1000000000 (s.data.toList.drop 1) 0 1 ∧ h' = h) (fun x => s.size - x.1) (1, 0)
        ⟨hpos, ⟨Int.le_refl _, by decide⟩, rfl, rfl⟩ (by repeat (first | exact wkF_e | refine wkF_c rfl ?_)) wkB_e rfl ?_
      rintro ⟨i, n⟩ _ ⟨hi, hn, hq, rfl⟩
      have hi : i ≤ s.size := hi
      have hn : 0 ≤ n ∧ n ≤ 1000000000 := hn
      have hq : sat 1000000000 (s.data.toList.drop i) n i = sat 1000000000 (s.data.toList.drop 1) 0 1 := hq
      simp only [go_sem, Nat.reduceBEq]
      refine Br.intro (fun hb => ?_) (fun hb => ?_) <;> (try simp only [hb, go_sem, Nat.reduceBEq])
      · have hb : i < s.size := by simpa using hb
        obtain ⟨c, hc⟩ : ∃ c, s.data.toList[i]? = some c := ⟨_, List.getElem?_eq_getElem (by omega)⟩
        have wsu := wrap_succ (i := i) (by omega)
        have hdr := drop_at hc
        simp only [sidx_at hc, go_sem, Nat.reduceBEq]
        (refine (iIsDigit c _).mono ?_; rintro _ _ ⟨rfl, rfl⟩; simp only [go_sem, Nat.reduceBEq])
        refine Br.intro (fun hd => ?_) (fun hd => ?_) <;> (try simp only [hd, go_sem, Nat.reduceBEq])
        · rw [hdr] at hq
          simp only [sat, hd, if_true] at hq
          have hd' := hd
          simp only [isDig, decide_eq_true_eq] at hd'
          have w1 : IntKind.i64.wrap (n * 10) = n * 10 := IntWalk.i64_in _ (by omega)
          have w2 : IntKind.i64.wrap (n * 10 + ((c.toNat : Int) - 48)) = 10 * n + ((c.toNat : Int) - 48) := by rw [IntWalk.i64_in _ (by omega)]; omega
          simp only [sidx_at hc, u8sub hd, w1, w2, go_sem, Nat.reduceBEq]
          (refine (iMin _ _ _).mono ?_; rintro _ _ ⟨rfl, rfl⟩; simp only [go_sem, Nat.reduceBEq])
          rw [wsu]
          exact Again.intro (i + 1, min (10 * n + ((c.toNat : Int) - 48)) 1000000000) (by first | omega | (simp only; omega)) ⟨hb, ⟨by simp only; omega, by simp only; omega⟩, hq, rfl⟩ (by repeat (first | exact wkF_e | refine wkF_c rfl ?_)) wkB_e rfl
        · rw [hdr] at hq
          simp only [sat, hd, Bool.false_eq_true, if_false] at hq
          have hw : IntKind.i64.wrap (0 - n) = -n := by rw [IntWalk.i64_in _ (by omega)]; omega
          simp only [hw, go_sem]
          exact ⟨by rw [lead, hneg, leadN, hat, ← hq]; rfl, rfl⟩
      · have hb : i = s.size := by simp at hb; omega
        rw [List.drop_eq_nil_of_le (by omega)] at hq
        simp only [sat] at hq
        have hw : IntKind.i64.wrap (0 - n) = -n := by rw [IntWalk.i64_in _ (by omega)]; omega
        simp only [hw, go_sem]
        exact ⟨by rw [lead, hneg, leadN, hat, ← hq]; rfl, rfl⟩
    · have hneg : isNeg s.data.toList = false := by rw [hng, ← byte_dec]; exact h45
      have hat : at_ s.data.toList = 0 := by simp [at_, hneg]
      refine aloop (ι := Nat × Int) (fun x => [(4, .val (.int .i64 (x.1 : Nat))), (5, .val (.int .i64 x.2)), (3, .val (.bool false)), (0, .val (.string s))]) (fun _ => []) (fun x h' => x.1 ≤ s.size ∧ (0 ≤ x.2 ∧ x.2 ≤ 1000000000) ∧ sat 1000000000 (s.data.toList.drop x.1) x.2 x.1 = sat 1000000000 (s.data.toList.drop 0) 0 0 ∧ h' = h) (fun x => s.size - x.1) (0, 0)
        ⟨Nat.zero_le _, ⟨Int.le_refl _, by decide⟩, rfl, rfl⟩ (by repeat (first | exact wkF_e | refine wkF_c rfl ?_)) wkB_e rfl ?_
      rintro ⟨i, n⟩ _ ⟨hi, hn, hq, rfl⟩
      have hi : i ≤ s.size := hi
      have hn : 0 ≤ n ∧ n ≤ 1000000000 := hn
      have hq : sat 1000000000 (s.data.toList.drop i) n i = sat 1000000000 (s.data.toList.drop 0) 0 0 := hq
      simp only [go_sem, Nat.reduceBEq]
      refine Br.intro (fun hb => ?_) (fun hb => ?_) <;> (try simp only [hb, go_sem, Nat.reduceBEq])
      · have hb : i < s.size := by simpa using hb
        obtain ⟨c, hc⟩ : ∃ c, s.data.toList[i]? = some c := ⟨_, List.getElem?_eq_getElem (by omega)⟩
        have wsu := wrap_succ (i := i) (by omega)
        have hdr := drop_at hc
        simp only [sidx_at hc, go_sem, Nat.reduceBEq]
        (refine (iIsDigit c _).mono ?_; rintro _ _ ⟨rfl, rfl⟩; simp only [go_sem, Nat.reduceBEq])
        refine Br.intro (fun hd => ?_) (fun hd => ?_) <;> (try simp only [hd, go_sem, Nat.reduceBEq])
        · rw [hdr] at hq
          simp only [sat, hd, if_true] at hq
          have hd' := hd
          simp only [isDig, decide_eq_true_eq] at hd'
          have w1 : IntKind.i64.wrap (n * 10) = n * 10 := IntWalk.i64_in _ (by omega)
          have w2 : IntKind.i64.wrap (n * 10 + ((c.toNat : Int) - 48)) = 10 * n + ((c.toNat : Int) - 48) := by rw [IntWalk.i64_in _ (by omega)]; omega
          simp only [sidx_at hc, u8sub hd, w1, w2, go_sem, Nat.reduceBEq]
          (refine (iMin _ _ _).mono ?_; rintro _ _ ⟨rfl, rfl⟩; simp only [go_sem, Nat.reduceBEq])
          rw [wsu]
          exact Again.intro (i + 1, min (10 * n + ((c.toNat : Int) - 48)) 1000000000) (by first | omega | (simp only; omega)) ⟨hb, ⟨by simp only; omega, by simp only; omega⟩, hq, rfl⟩ (by repeat (first | exact wkF_e | refine wkF_c rfl ?_)) wkB_e rfl
        · rw [hdr] at hq
          simp only [sat, hd, Bool.false_eq_true, if_false] at hq
          try simp only [go_sem, Nat.reduceBEq, Nat.reduceAdd, Nat.reduceLeDiff, Nat.reduceEqDiff, Int.reduceEq, not_false_eq_true, Int.reduceToNat]
          exact ⟨by rw [lead, hneg, leadN, hat, ← hq]; rfl, rfl⟩
      · have hb : i = s.size := by simp at hb; omega
        rw [List.drop_eq_nil_of_le (by omega)] at hq
        simp only [sat] at hq
        try simp only [go_sem, Nat.reduceBEq, Nat.reduceAdd, Nat.reduceLeDiff, Nat.reduceEqDiff, Int.reduceEq, not_false_eq_true, Int.reduceToNat]
        exact ⟨by rw [lead, hneg, leadN, hat, ← hq]; rfl, rfl⟩
  · have hz : s.size = 0 := by
      have : s = ⟨#[]⟩ := by simpa using h0
      rw [str_empty] at this; omega
    have hneg : isNeg s.data.toList = false := neg_nil hz
    have hat : at_ s.data.toList = 0 := by simp [at_, hneg]
    try simp only [go_sem, Nat.reduceBEq, Nat.reduceAdd, Nat.reduceLeDiff, Nat.reduceEqDiff, Int.reduceEq, not_false_eq_true, Int.reduceToNat]
    refine aloop (ι := Nat × Int) (fun x => [(4, .val (.int .i64 (x.1 : Nat))), (5, .val (.int .i64 x.2)), (3, .val (.bool false)), (0, .val (.string s))]) (fun _ => []) (fun x h' => x.1 ≤ s.size ∧ (0 ≤ x.2 ∧ x.2 ≤ 1000000000) ∧ sat 1000000000 (s.data.toList.drop x.1) x.2 x.1 = sat 1000000000 (s.data.toList.drop 0) 0 0 ∧ h' = h) (fun x => s.size - x.1) (0, 0)
      ⟨Nat.zero_le _, ⟨Int.le_refl _, by decide⟩, rfl, rfl⟩ (by repeat (first | exact wkF_e | refine wkF_c rfl ?_)) wkB_e rfl ?_
    rintro ⟨i, n⟩ _ ⟨hi, hn, hq, rfl⟩
    have hi : i ≤ s.size := hi
    have hn : 0 ≤ n ∧ n ≤ 1000000000 := hn
    have hq : sat 1000000000 (s.data.toList.drop i) n i = sat 1000000000 (s.data.toList.drop 0) 0 0 := hq
    simp only [go_sem, Nat.reduceBEq]
    refine Br.intro (fun hb => ?_) (fun hb => ?_) <;> (try simp only [hb, go_sem, Nat.reduceBEq])
    · have hb : i < s.size := by simpa using hb
      obtain ⟨c, hc⟩ : ∃ c, s.data.toList[i]? = some c := ⟨_, List.getElem?_eq_getElem (by omega)⟩
      have wsu := wrap_succ (i := i) (by omega)
      have hdr := drop_at hc
      simp only [sidx_at hc, go_sem, Nat.reduceBEq]
      (refine (iIsDigit c _).mono ?_; rintro _ _ ⟨rfl, rfl⟩; simp only [go_sem, Nat.reduceBEq])
      refine Br.intro (fun hd => ?_) (fun hd => ?_) <;> (try simp only [hd, go_sem, Nat.reduceBEq])
      · rw [hdr] at hq
        simp only [sat, hd, if_true] at hq
        have hd' := hd
        simp only [isDig, decide_eq_true_eq] at hd'
        have w1 : IntKind.i64.wrap (n * 10) = n * 10 := IntWalk.i64_in _ (by omega)
        have w2 : IntKind.i64.wrap (n * 10 + ((c.toNat : Int) - 48)) = 10 * n + ((c.toNat : Int) - 48) := by rw [IntWalk.i64_in _ (by omega)]; omega
        simp only [sidx_at hc, u8sub hd, w1, w2, go_sem, Nat.reduceBEq]
        (refine (iMin _ _ _).mono ?_; rintro _ _ ⟨rfl, rfl⟩; simp only [go_sem, Nat.reduceBEq])
        rw [wsu]
        exact Again.intro (i + 1, min (10 * n + ((c.toNat : Int) - 48)) 1000000000) (by first | omega | (simp only; omega)) ⟨hb, ⟨by simp only; omega, by simp only; omega⟩, hq, rfl⟩ (by repeat (first | exact wkF_e | refine wkF_c rfl ?_)) wkB_e rfl
      · rw [hdr] at hq
        simp only [sat, hd, Bool.false_eq_true, if_false] at hq
        try simp only [go_sem, Nat.reduceBEq, Nat.reduceAdd, Nat.reduceLeDiff, Nat.reduceEqDiff, Int.reduceEq, not_false_eq_true, Int.reduceToNat]
        exact ⟨by rw [lead, hneg, leadN, hat, ← hq]; rfl, rfl⟩
    · have hb : i = s.size := by simp at hb; omega
      rw [List.drop_eq_nil_of_le (by omega)] at hq
      simp only [sat] at hq
      try simp only [go_sem, Nat.reduceBEq, Nat.reduceAdd, Nat.reduceLeDiff, Nat.reduceEqDiff, Int.reduceEq, not_false_eq_true, Int.reduceToNat]
      exact ⟨by rw [lead, hneg, leadN, hat, ← hq]; rfl, rfl⟩
theorem sat_min2 {M M2 : Int} (hM : 0 ≤ M) (h2 : M ≤ M2) : ∀ (l : List UInt8) (n n' : Int) (k : Nat), 0 ≤ n → n ≤ M2 → n' = min n M → (sat M l n' k).1 = min (sat M2 l n k).1 M
  | [], n, n', k, _, _, h => h
  | c :: r, n, n', k, h0, h1, h => by
    simp only [sat]
    split
    · rename_i hc
      simp only [isDig, decide_eq_true_eq] at hc
      exact sat_min2 hM h2 r _ _ _ (by omega) (by omega) (by omega)
    · exact h
theorem sat_shift (M : Int) (j : Nat) : ∀ (l : List UInt8) (n : Int) (k : Nat), sat M l n (k + j) = ((sat M l n k).1, (sat M l n k).2 + j)
  | [], _, _ => rfl
  | c :: r, n, k => by
    simp only [sat]
    split
    · rw [show k + j + 1 = (k + 1) + j by omega, sat_shift M j r]
    · rfl
theorem sat_none (M : Int) : ∀ (l : List UInt8) (n : Int) (k : Nat), (∀ q : Nat, k ≤ q → (sat M l n k).2 = k → (sat M l n k).1 = n)
  | [], _, _, _, _, _ => rfl
  | c :: r, n, k, q, hq, h => by
    simp only [sat] at h ⊢
    split at h
    · rename_i hc
      exfalso
      have h1 := sat_shift M 1 r (min (10 * n + ((c.toNat : Int) - 48)) M) k
      rw [h1] at h
      have h2 : ∀ (l : List UInt8) (n : Int) (k : Nat), k ≤ (sat M l n k).2 := by
        intro l
        induction l with
        | nil => intro n k; exact Nat.le_refl _
        | cons c r ih =>
          intro n k
          simp only [sat]
          split
          · have := ih (min (10 * n + ((c.toNat : Int) - 48)) M) (k + 1); omega
          · exact Nat.le_refl _
      have := h2 r (min (10 * n + ((c.toNat : Int) - 48)) M) k
      simp only at h
      omega
    · rename_i hc; rw [if_neg hc]
def big : Int := 100000000000
def numOK (l : List UInt8) : Bool := decide (1 ≤ l.length ∧ l.length ≤ 10 ∧ (sat big l 0 0).2 = l.length ∧ (sat big l 0 0).1 ≤ 1000000000)
def isNumer (s : ByteArray) : Bool := numOK (s.data.toList.drop (at_ s.data.toList))
theorem ext_one (s : ByteArray) : (s.extract 1 s.size).data.toList = s.data.toList.drop 1 := by
  rw [ByteArray.data_extract, Array.toList_extract, List.extract_eq_take_drop]
  exact List.take_of_length_le (by rw [List.length_drop, ← size_list]; exact Nat.le_refl _)
theorem numLoop (t : ByteArray) (ht : 1 ≤ t.size ∧ t.size ≤ 10) (b : Bool) : numOK t.data.toList = b ↔ decide ((sat big t.data.toList 0 0).2 = t.size ∧ (sat big t.data.toList 0 0).1 ≤ 1000000000) = b := by
  have hsz := size_list t
  have : numOK t.data.toList = decide ((sat big t.data.toList 0 0).2 = t.size ∧ (sat big t.data.toList 0 0).1 ≤ 1000000000) := by
    unfold numOK
    apply decide_eq_decide.2
    constructor
    · rintro ⟨_, _, h3, h4⟩; exact ⟨by omega, h4⟩
    · rintro ⟨h3, h4⟩; exact ⟨by omega, by omega, by omega, h4⟩
  rw [this]
theorem iIsNumeric (s : ByteArray) (hs : s.size ≤ 1152921504606846976) (h : Hp) : ACalls Tryd.prog 23 #[.string s] h (Pu (.bool (isNumer s)) h) := by
  have hsz := size_list s
  (refine enter Tryd.func23 rfl rfl (by kernel_rfl) [] ?_; simp only [go_sem, Nat.reduceBEq])
  refine Br.intro (fun h0 => ?_) (fun h0 => ?_) <;> (try simp only [h0, go_sem, Nat.reduceBEq])
  · have hpos : 0 < s.size := by
      have : ¬ s = ⟨#[]⟩ := by simpa using h0
      rw [str_empty] at this; omega
    obtain ⟨c0, hc0⟩ : ∃ c, s.data.toList[0]? = some c := ⟨_, List.getElem?_eq_getElem (by omega)⟩
    have hix : sidx s 0 = some (.int .u8 c0.toNat) := sidx_at hc0
    have hng := neg_get hc0
    simp only [hix, go_sem, Nat.reduceBEq]
    refine Br.intro (fun h45 => ?_) (fun h45 => ?_) <;> (try simp only [h45, go_sem, Nat.reduceBEq, Int.reduceToNat])
    · have hneg : isNeg s.data.toList = true := by rw [hng, ← byte_dec]; exact h45
      have hat : at_ s.data.toList = 1 := by simp [at_, hneg]
      have hnum : isNumer s = numOK (s.extract 1 s.size).data.toList := by unfold isNumer; rw [hat, ext_one]
      rw [hnum]
      refine ⟨⟨by decide, by omega, Int.le_refl _⟩, ?_⟩
      generalize s.extract 1 s.size = t
      refine Br.intro (fun h1 => ?_) (fun h1 => ?_) <;> (try simp only [h1, go_sem, Nat.reduceBEq])
      · have h1 : (t.size : Int) < 1 := by simpa using h1
        exact ⟨by have := size_list t; unfold numOK; simp; omega, rfl⟩
      · have h1 : ¬ (t.size : Int) < 1 := by simpa using h1
        refine Br.intro (fun h2 => ?_) (fun h2 => ?_) <;> (try simp only [h2, go_sem, Nat.reduceBEq])
        · have h2 : (10 : Int) < t.size := by simpa using h2
          exact ⟨by have := size_list t; unfold numOK; simp; omega, rfl⟩
        · have h2 : ¬ (10 : Int) < t.size := by simpa using h2
          have htz := size_list t
          have ht : 1 ≤ t.size ∧ t.size ≤ 10 := by omega
          have res : ∀ b, decide ((sat big t.data.toList 0 0).2 = t.size ∧ (sat big t.data.toList 0 0).1 ≤ 1000000000) = b → numOK t.data.toList = b := fun b hb => (numLoop t ht b).2 hb
          refine aloop (ι := Nat × Int) (fun x => [(5, .val (.int .i64 (x.1 : Nat))), (4, .val (.int .i64 x.2)), (3, .val (.string t))]) (fun _ => []) (fun x h' => x.1 ≤ t.size ∧ (0 ≤ x.2 ∧ x.2 < ((10 ^ x.1 : Nat) : Int)) ∧ sat big (t.data.toList.drop x.1) x.2 x.1 = sat big t.data.toList 0 0 ∧ h' = h) (fun x => t.size - x.1) (0, 0)
            ⟨Nat.zero_le _, ⟨Int.le_refl _, by decide⟩, rfl, rfl⟩ (by repeat (first | exact wkF_e | refine wkF_c rfl ?_)) wkB_e rfl ?_
          rintro ⟨i, n⟩ _ ⟨hi, hn, hq, rfl⟩
          have hi : i ≤ t.size := hi
          have hn : 0 ≤ n ∧ n < ((10 ^ i : Nat) : Int) := hn
          have hq : sat big (t.data.toList.drop i) n i = sat big t.data.toList 0 0 := hq
          have hp : 10 ^ i ≤ 10 ^ 10 := Nat.pow_le_pow_right (by omega) (by omega)
          simp only [go_sem, Nat.reduceBEq]
          refine Br.intro (fun hb => ?_) (fun hb => ?_) <;> (try simp only [hb, go_sem, Nat.reduceBEq])
          · have hb : i < t.size := by simpa using hb
            obtain ⟨c, hc⟩ : ∃ c, t.data.toList[i]? = some c := ⟨_, List.getElem?_eq_getElem (by omega)⟩
            have wsu := wrap_succ (i := i) (by omega)
            have hdr := drop_at hc
            simp only [sidx_at hc, go_sem, Nat.reduceBEq]
            (refine (iIsDigit c _).mono ?_; rintro _ _ ⟨rfl, rfl⟩; simp only [go_sem, Nat.reduceBEq])
            refine Br.intro (fun hd => ?_) (fun hd => ?_) <;> (try simp only [hd, go_sem, Nat.reduceBEq])
            · rw [hdr] at hq
              have hd0 : isDig c = false := by simpa using hd
              simp only [sat, hd0, Bool.false_eq_true, if_false] at hq
              have e0 : decide ((sat big t.data.toList 0 0).2 = t.size ∧ (sat big t.data.toList 0 0).1 ≤ 1000000000) = false := by rw [← hq]; simp; omega
              exact ⟨by rw [res _ e0], rfl⟩
            · rw [hdr] at hq
              have hd0 : isDig c = true := by simpa using hd
              simp only [sat, hd0, if_true] at hq
              have hd' := hd0
              simp only [isDig, decide_eq_true_eq] at hd'
              have hp1 : 10 ^ (i + 1) = 10 ^ i * 10 := Nat.pow_succ ..
              have w1 : IntKind.i64.wrap (n * 10) = n * 10 := IntWalk.i64_in _ (by omega)
              have w2 : IntKind.i64.wrap (n * 10 + ((c.toNat : Int) - 48)) = 10 * n + ((c.toNat : Int) - 48) := by rw [IntWalk.i64_in _ (by omega)]; omega
              have w3 : min (10 * n + ((c.toNat : Int) - 48)) big = 10 * n + ((c.toNat : Int) - 48) := by unfold big; omega
              rw [w3] at hq
              simp only [sidx_at hc, u8sub hd0, w1, w2, wsu, go_sem, Nat.reduceBEq]
              exact Again.intro (i + 1, 10 * n + ((c.toNat : Int) - 48)) (by first | omega | (simp only; omega)) ⟨hb, ⟨by simp only; omega, by simp only; omega⟩, hq, rfl⟩ (by repeat (first | exact wkF_e | refine wkF_c rfl ?_)) wkB_e rfl
          · have hb : i = t.size := by simp at hb; omega
            rw [List.drop_eq_nil_of_le (by omega)] at hq
            simp only [sat] at hq
            have e0 : decide ((sat big t.data.toList 0 0).2 = t.size ∧ (sat big t.data.toList 0 0).1 ≤ 1000000000) = decide (n ≤ 1000000000) := by rw [← hq]; simp [hb]
            exact ⟨by rw [res _ e0], rfl⟩
    · have hneg : isNeg s.data.toList = false := by rw [hng, ← byte_dec]; exact h45
      have hat : at_ s.data.toList = 0 := by simp [at_, hneg]
      have hnum : isNumer s = numOK s.data.toList := by unfold isNumer; rw [hat]; rfl
      rw [hnum]
      generalize s = t
      refine Br.intro (fun h1 => ?_) (fun h1 => ?_) <;> (try simp only [h1, go_sem, Nat.reduceBEq])
      · have h1 : (t.size : Int) < 1 := by simpa using h1
        exact ⟨by have := size_list t; unfold numOK; simp; omega, rfl⟩
      · have h1 : ¬ (t.size : Int) < 1 := by simpa using h1
        refine Br.intro (fun h2 => ?_) (fun h2 => ?_) <;> (try simp only [h2, go_sem, Nat.reduceBEq])
        · have h2 : (10 : Int) < t.size := by simpa using h2
          exact ⟨by have := size_list t; unfold numOK; simp; omega, rfl⟩
        · have h2 : ¬ (10 : Int) < t.size := by simpa using h2
          have htz := size_list t
          have ht : 1 ≤ t.size ∧ t.size ≤ 10 := by omega
          have res : ∀ b, decide ((sat big t.data.toList 0 0).2 = t.size ∧ (sat big t.data.toList 0 0).1 ≤ 1000000000) = b → numOK t.data.toList = b := fun b hb => (numLoop t ht b).2 hb
          refine aloop (ι := Nat × Int) (fun x => [(5, .val (.int .i64 (x.1 : Nat))), (4, .val (.int .i64 x.2)), (3, .val (.string t))]) (fun _ => []) (fun x h' => x.1 ≤ t.size ∧ (0 ≤ x.2 ∧ x.2 < ((10 ^ x.1 : Nat) : Int)) ∧ sat big (t.data.toList.drop x.1) x.2 x.1 = sat big t.data.toList 0 0 ∧ h' = h) (fun x => t.size - x.1) (0, 0)
            ⟨Nat.zero_le _, ⟨Int.le_refl _, by decide⟩, rfl, rfl⟩ (by repeat (first | exact wkF_e | refine wkF_c rfl ?_)) wkB_e rfl ?_
          rintro ⟨i, n⟩ _ ⟨hi, hn, hq, rfl⟩
          have hi : i ≤ t.size := hi
          have hn : 0 ≤ n ∧ n < ((10 ^ i : Nat) : Int) := hn
          have hq : sat big (t.data.toList.drop i) n i = sat big t.data.toList 0 0 := hq
          have hp : 10 ^ i ≤ 10 ^ 10 := Nat.pow_le_pow_right (by omega) (by omega)
          simp only [go_sem, Nat.reduceBEq]
          refine Br.intro (fun hb => ?_) (fun hb => ?_) <;> (try simp only [hb, go_sem, Nat.reduceBEq])
          · have hb : i < t.size := by simpa using hb
            obtain ⟨c, hc⟩ : ∃ c, t.data.toList[i]? = some c := ⟨_, List.getElem?_eq_getElem (by omega)⟩
            have wsu := wrap_succ (i := i) (by omega)
            have hdr := drop_at hc
            simp only [sidx_at hc, go_sem, Nat.reduceBEq]
            (refine (iIsDigit c _).mono ?_; rintro _ _ ⟨rfl, rfl⟩; simp only [go_sem, Nat.reduceBEq])
            refine Br.intro (fun hd => ?_) (fun hd => ?_) <;> (try simp only [hd, go_sem, Nat.reduceBEq])
            · rw [hdr] at hq
              have hd0 : isDig c = false := by simpa using hd
              simp only [sat, hd0, Bool.false_eq_true, if_false] at hq
              have e0 : decide ((sat big t.data.toList 0 0).2 = t.size ∧ (sat big t.data.toList 0 0).1 ≤ 1000000000) = false := by rw [← hq]; simp; omega
              exact ⟨by rw [res _ e0], rfl⟩
            · rw [hdr] at hq
              have hd0 : isDig c = true := by simpa using hd
              simp only [sat, hd0, if_true] at hq
              have hd' := hd0
              simp only [isDig, decide_eq_true_eq] at hd'
              have hp1 : 10 ^ (i + 1) = 10 ^ i * 10 := Nat.pow_succ ..
              have w1 : IntKind.i64.wrap (n * 10) = n * 10 := IntWalk.i64_in _ (by omega)
              have w2 : IntKind.i64.wrap (n * 10 + ((c.toNat : Int) - 48)) = 10 * n + ((c.toNat : Int) - 48) := by rw [IntWalk.i64_in _ (by omega)]; omega
              have w3 : min (10 * n + ((c.toNat : Int) - 48)) big = 10 * n + ((c.toNat : Int) - 48) := by unfold big; omega
              rw [w3] at hq
              simp only [sidx_at hc, u8sub hd0, w1, w2, wsu, go_sem, Nat.reduceBEq]
              exact Again.intro (i + 1, 10 * n + ((c.toNat : Int) - 48)) (by first | omega | (simp only; omega)) ⟨hb, ⟨by simp only; omega, by simp only; omega⟩, hq, rfl⟩ (by repeat (first | exact wkF_e | refine wkF_c rfl ?_)) wkB_e rfl
          · have hb : i = t.size := by simp at hb; omega
            rw [List.drop_eq_nil_of_le (by omega)] at hq
            simp only [sat] at hq
            have e0 : decide ((sat big t.data.toList 0 0).2 = t.size ∧ (sat big t.data.toList 0 0).1 ≤ 1000000000) = decide (n ≤ 1000000000) := by rw [← hq]; simp [hb]
            exact ⟨by rw [res _ e0], rfl⟩
  · have hz : s.size = 0 := by
      have : s = ⟨#[]⟩ := by simpa using h0
      rw [str_empty] at this; omega
    have hneg : isNeg s.data.toList = false := neg_nil hz
    have hat : at_ s.data.toList = 0 := by simp [at_, hneg]
    have hnum : isNumer s = numOK s.data.toList := by unfold isNumer; rw [hat]; rfl
    have hlt : decide ((s.size : Int) < 1) = true := by simp [hz]
    rw [hnum]
    simp only [hlt, go_sem, Nat.reduceBEq]
    exact ⟨by unfold numOK; simp; omega, rfl⟩
def scanP (l : List UInt8) : Int × Nat := sat 1000000001 (l.drop (at_ l)) 0 (at_ l)
def scan8 (s : ByteArray) : Int × Nat := if (scanP s.data.toList).2 = at_ s.data.toList then (0, 0) else (if isNeg s.data.toList then -(scanP s.data.toList).1 else (scanP s.data.toList).1, (scanP s.data.toList).2)
theorem scanP_facts (l : List UInt8) : 0 ≤ (scanP l).1 ∧ (scanP l).1 ≤ 1000000001 ∧ at_ l ≤ (scanP l).2 ∧ ((scanP l).2 = at_ l → (scanP l).1 = 0) ∧ leadN 1000000000 l = min (scanP l).1 1000000000 ∧ (at_ l ≤ l.length → (scanP l).2 ≤ l.length) ∧
    ((scanP l).2 = l.length ∧ at_ l < (scanP l).2 ∧ (scanP l).2 ≤ at_ l + 10 ∧ (scanP l).1 ≤ 1000000000 ↔ numOK (l.drop (at_ l)) = true) := by
  have h1 := sat_bounds (M := 1000000001) (by decide) (l.drop (at_ l)) 0 (at_ l) (Int.le_refl _) (by decide)
  have h2 := sat_none 1000000001 (l.drop (at_ l)) 0 (at_ l) (at_ l) (Nat.le_refl _)
  have h3 := sat_min2 (M := 1000000000) (M2 := 1000000001) (by decide) (by decide) (l.drop (at_ l)) 0 0 (at_ l) (Int.le_refl _) (by decide) (by decide)
  have h4 := sat_count big 1000000001 (l.drop (at_ l)) 0 0 (at_ l)
  have h5 := sat_shift big (at_ l) (l.drop (at_ l)) 0 0
  have h6 := sat_min2 (M := 1000000001) (M2 := big) (by decide) (by decide) (l.drop (at_ l)) 0 0 (at_ l) (Int.le_refl _) (by decide) (by decide)
  rw [Nat.zero_add] at h5
  rw [List.length_drop] at h1
  refine ⟨h1.1, h1.2.1, h1.2.2.1, h2, h3, fun h => ?_, ?_⟩
  · have := h1.2.2.2
    show (sat 1000000001 (l.drop (at_ l)) 0 (at_ l)).2 ≤ _
    omega
  · have e1 : (scanP l).2 = (sat big (l.drop (at_ l)) 0 0).2 + at_ l := by
      show (sat 1000000001 (l.drop (at_ l)) 0 (at_ l)).2 = _
      rw [← h4, h5]
    have e2 : (scanP l).1 = min (sat big (l.drop (at_ l)) 0 0).1 1000000001 := by
      show (sat 1000000001 (l.drop (at_ l)) 0 (at_ l)).1 = _
      rw [h6, h5]
    unfold numOK
    rw [decide_eq_true_eq, List.length_drop, e1, e2]
    omega
theorem lead_scan (s : ByteArray) : max (-1000000000) (min 1000000000 (scan8 s).1) = lead s := by
  obtain ⟨f1, f2, f3, f4, f5, f6, f7⟩ := scanP_facts s.data.toList
  unfold scan8 lead
  rw [f5]
  split
  · rename_i hk
    rw [f4 hk]
    split <;> decide
  · split <;> simp only <;> omega
theorem sScan (s : ByteArray) (hs : s.size ≤ 1152921504606846976) (h : Hp) : ACalls Tryd.prog 127 #[.string s] h (Pu (.tuple #[.int .i64 (scan8 s).1, .int .i64 ((scan8 s).2 : Nat)]) h) := by
  have hsz := size_list s
  (refine enter Tryd.func127 rfl rfl (by kernel_rfl) [] ?_; simp only [go_sem, Nat.reduceBEq])
  refine Br.intro (fun h0 => ?_) (fun h0 => ?_) <;> (try simp only [h0, go_sem, Nat.reduceBEq])
  · have hpos : 0 < s.size := by have := of_decide_eq_true h0; omega
    obtain ⟨c0, hc0⟩ : ∃ c, s.data.toList[0]? = some c := ⟨_, List.getElem?_eq_getElem (by omega)⟩
    have hix : sidx s 0 = some (.int .u8 c0.toNat) := sidx_at hc0
    have hng := neg_get hc0
    simp only [hix, go_sem, Nat.reduceBEq]
    refine Br.intro (fun h45 => ?_) (fun h45 => ?_) <;> (try simp only [h45, go_sem, Nat.reduceBEq])
    · have hneg : isNeg s.data.toList = true := by rw [hng, ← byte_dec]; exact h45
      have hat : at_ s.data.toList = 1 := by simp [at_, hneg]
      refine aloop (ι := Nat × Int) (fun x => [(6, .val (.int .i64 (x.1 : Nat))), (5, .val (.int .i64 x.2)), (4, .val (.int .i64 1)), (0, .val (.string s))]) (fun _ => []) (fun x h' => x.1 ≤ s.size ∧ (0 ≤ x.2 ∧ x.2 ≤ 1000000001) ∧ sat 1000000001 (s.data.toList.drop x.1) x.2 x.1 = sat 1000000001 (s.data.toList.drop 1) 0 1 ∧ h' = h) (fun x => s.size - x.1) (1, 0)
        ⟨hpos, ⟨Int.le_refl _, by decide⟩, rfl, rfl⟩ (by repeat (first | exact wkF_e | refine wkF_c rfl ?_)) wkB_e rfl ?_
      rintro ⟨i, n⟩ _ ⟨hi, hn, hq, rfl⟩
      have hi : i ≤ s.size := hi
      have hn : 0 ≤ n ∧ n ≤ 1000000001 := hn
      have hq : sat 1000000001 (s.data.toList.drop i) n i = sat 1000000001 (s.data.toList.drop 1) 0 1 := hq
      simp only [go_sem, Nat.reduceBEq]
      refine Br.intro (fun hb => ?_) (fun hb => ?_) <;> (try simp only [hb, go_sem, Nat.reduceBEq])
      · have hb : i < s.size := by simpa using hb
        obtain ⟨c, hc⟩ : ∃ c, s.data.toList[i]? = some c := ⟨_, List.getElem?_eq_getElem (by omega)⟩
        have wsu := wrap_succ (i := i) (by omega)
        have hdr := drop_at hc
        have hc8 := c.toNat_lt
        have wc : IntKind.i64.wrap (c.toNat : Int) = c.toNat := IntWalk.i64_in _ (by omega)
        simp only [sidx_at hc, wc, go_sem, Nat.reduceBEq]
        (refine (l1In_c _ _ _ _).mono ?_; rintro _ _ ⟨rfl, rfl⟩; simp only [go_sem, Nat.reduceBEq])
        refine Br.intro (fun hd => ?_) (fun hd => ?_) <;> (try simp only [hd, go_sem, Nat.reduceBEq])
        · have hd : isDig c = true := by have := of_decide_eq_true hd; unfold isDig; rw [decide_eq_true_eq]; omega
          rw [hdr] at hq
          simp only [sat, hd, if_true] at hq
          have hd' := hd
          simp only [isDig, decide_eq_true_eq] at hd'
          have w1 : IntKind.i64.wrap (10 * n) = 10 * n := IntWalk.i64_in _ (by omega)
          have w2 : IntKind.i64.wrap (10 * n + ((c.toNat : Int) - 48)) = 10 * n + ((c.toNat : Int) - 48) := IntWalk.i64_in _ (by omega)
          try simp only [sidx_at hc, u8sub hd, w1, w2, go_sem, Nat.reduceBEq]
          (refine (sMin _ _ _).mono ?_; rintro _ _ ⟨rfl, rfl⟩; simp only [go_sem, Nat.reduceBEq])
          rw [wsu]
          exact Again.intro (i + 1, min (10 * n + ((c.toNat : Int) - 48)) 1000000001) (by first | omega | (simp only; omega)) ⟨hb, ⟨by simp only; omega, by simp only; omega⟩, hq, rfl⟩ (by repeat (first | exact wkF_e | refine wkF_c rfl ?_)) wkB_e rfl
        · have hd : isDig c = false := by have := of_decide_eq_false hd; unfold isDig; rw [decide_eq_false_iff_not]; omega
          rw [hdr] at hq
          simp only [sat, hd, Bool.false_eq_true, if_false] at hq
          have hP : scanP s.data.toList = (n, i) := by unfold scanP; rw [hat]; exact hq.symm
          have hS : scan8 s = if i = 1 then (0, 0) else (-n, i) := by unfold scan8; rw [hP, hat, hneg]; rfl
          refine Br.intro (fun he => ?_) (fun he => ?_) <;> (try simp only [he, go_sem, Nat.reduceBEq])
          · have he : i = 1 := by have := of_decide_eq_true he; omega
            rw [hS, if_pos he]
            exact ⟨rfl, rfl⟩
          · have he : ¬ i = 1 := by have := of_decide_eq_false he; omega
            rw [hS, if_neg he]
            have hw : IntKind.i64.wrap (0 - n) = -n := by rw [IntWalk.i64_in _ (by omega)]; omega
            try simp only [hw, go_sem]
            exact ⟨rfl, rfl⟩
      · have hb : i = s.size := by simp at hb; omega
        rw [List.drop_eq_nil_of_le (by omega)] at hq
        simp only [sat] at hq
        have hP : scanP s.data.toList = (n, i) := by unfold scanP; rw [hat]; exact hq.symm
        have hS : scan8 s = if i = 1 then (0, 0) else (-n, i) := by unfold scan8; rw [hP, hat, hneg]; rfl
        refine Br.intro (fun he => ?_) (fun he => ?_) <;> (try simp only [he, go_sem, Nat.reduceBEq])
        · have he : i = 1 := by have := of_decide_eq_true he; omega
          rw [hS, if_pos he]
          exact ⟨rfl, rfl⟩
        · have he : ¬ i = 1 := by have := of_decide_eq_false he; omega
          rw [hS, if_neg he]
          have hw : IntKind.i64.wrap (0 - n) = -n := by rw [IntWalk.i64_in _ (by omega)]; omega
          try simp only [hw, go_sem]
          exact ⟨rfl, rfl⟩
    · have hneg : isNeg s.data.toList = false := by rw [hng, ← byte_dec]; exact h45
      have hat : at_ s.data.toList = 0 := by simp [at_, hneg]
      refine aloop (ι := Nat × Int) (fun x => [(6, .val (.int .i64 (x.1 : Nat))), (5, .val (.int .i64 x.2)), (4, .val (.int .i64 0)), (0, .val (.string s))]) (fun _ => []) (fun x h' => x.1 ≤ s.size ∧ (0 ≤ x.2 ∧ x.2 ≤ 1000000001) ∧ sat 1000000001 (s.data.toList.drop x.1) x.2 x.1 = sat 1000000001 (s.data.toList.drop 0) 0 0 ∧ h' = h) (fun x => s.size - x.1) (0, 0)
        ⟨Nat.zero_le _, ⟨Int.le_refl _, by decide⟩, rfl, rfl⟩ (by repeat (first | exact wkF_e | refine wkF_c rfl ?_)) wkB_e rfl ?_
      rintro ⟨i, n⟩ _ ⟨hi, hn, hq, rfl⟩
      have hi : i ≤ s.size := hi
      have hn : 0 ≤ n ∧ n ≤ 1000000001 := hn
      have hq : sat 1000000001 (s.data.toList.drop i) n i = sat 1000000001 (s.data.toList.drop 0) 0 0 := hq
      simp only [go_sem, Nat.reduceBEq]
      refine Br.intro (fun hb => ?_) (fun hb => ?_) <;> (try simp only [hb, go_sem, Nat.reduceBEq])
      · have hb : i < s.size := by simpa using hb
        obtain ⟨c, hc⟩ : ∃ c, s.data.toList[i]? = some c := ⟨_, List.getElem?_eq_getElem (by omega)⟩
        have wsu := wrap_succ (i := i) (by omega)
        have hdr := drop_at hc
        have hc8 := c.toNat_lt
        have wc : IntKind.i64.wrap (c.toNat : Int) = c.toNat := IntWalk.i64_in _ (by omega)
        simp only [sidx_at hc, wc, go_sem, Nat.reduceBEq]
        (refine (l1In_c _ _ _ _).mono ?_; rintro _ _ ⟨rfl, rfl⟩; simp only [go_sem, Nat.reduceBEq])
        refine Br.intro (fun hd => ?_) (fun hd => ?_) <;> (try simp only [hd, go_sem, Nat.reduceBEq])
        · have hd : isDig c = true := by have := of_decide_eq_true hd; unfold isDig; rw [decide_eq_true_eq]; omega
          rw [hdr] at hq
          simp only [sat, hd, if_true] at hq
          have hd' := hd
          simp only [isDig, decide_eq_true_eq] at hd'
          have w1 : IntKind.i64.wrap (10 * n) = 10 * n := IntWalk.i64_in _ (by omega)
          have w2 : IntKind.i64.wrap (10 * n + ((c.toNat : Int) - 48)) = 10 * n + ((c.toNat : Int) - 48) := IntWalk.i64_in _ (by omega)
          try simp only [sidx_at hc, u8sub hd, w1, w2, go_sem, Nat.reduceBEq]
          (refine (sMin _ _ _).mono ?_; rintro _ _ ⟨rfl, rfl⟩; simp only [go_sem, Nat.reduceBEq])
          rw [wsu]
          exact Again.intro (i + 1, min (10 * n + ((c.toNat : Int) - 48)) 1000000001) (by first | omega | (simp only; omega)) ⟨hb, ⟨by simp only; omega, by simp only; omega⟩, hq, rfl⟩ (by repeat (first | exact wkF_e | refine wkF_c rfl ?_)) wkB_e rfl
        · have hd : isDig c = false := by have := of_decide_eq_false hd; unfold isDig; rw [decide_eq_false_iff_not]; omega
          rw [hdr] at hq
          simp only [sat, hd, Bool.false_eq_true, if_false] at hq
          have hP : scanP s.data.toList = (n, i) := by unfold scanP; rw [hat]; exact hq.symm
          have hS : scan8 s = if i = 0 then (0, 0) else (n, i) := by unfold scan8; rw [hP, hat, hneg]; rfl
          refine Br.intro (fun he => ?_) (fun he => ?_) <;> (try simp only [he, go_sem, Nat.reduceBEq, Int.reduceEq])
          · have he : i = 0 := by have := of_decide_eq_true he; omega
            rw [hS, if_pos he]
            exact ⟨rfl, rfl⟩
          · have he : ¬ i = 0 := by have := of_decide_eq_false he; omega
            rw [hS, if_neg he]
            try simp only [go_sem]
            exact ⟨rfl, rfl⟩
      · have hb : i = s.size := by simp at hb; omega
        rw [List.drop_eq_nil_of_le (by omega)] at hq
        simp only [sat] at hq
        have hP : scanP s.data.toList = (n, i) := by unfold scanP; rw [hat]; exact hq.symm
        have hS : scan8 s = if i = 0 then (0, 0) else (n, i) := by unfold scan8; rw [hP, hat, hneg]; rfl
        refine Br.intro (fun he => ?_) (fun he => ?_) <;> (try simp only [he, go_sem, Nat.reduceBEq, Int.reduceEq])
        · have he : i = 0 := by have := of_decide_eq_true he; omega
          rw [hS, if_pos he]
          exact ⟨rfl, rfl⟩
        · have he : ¬ i = 0 := by have := of_decide_eq_false he; omega
          rw [hS, if_neg he]
          try simp only [go_sem]
          exact ⟨rfl, rfl⟩
  · have hz : s.size = 0 := by have := of_decide_eq_false h0; omega
    have hneg : isNeg s.data.toList = false := neg_nil hz
    have hat : at_ s.data.toList = 0 := by simp [at_, hneg]
    refine aloop (ι := Nat × Int) (fun x => [(6, .val (.int .i64 (x.1 : Nat))), (5, .val (.int .i64 x.2)), (4, .val (.int .i64 0)), (0, .val (.string s))]) (fun _ => []) (fun x h' => x.1 ≤ s.size ∧ (0 ≤ x.2 ∧ x.2 ≤ 1000000001) ∧ sat 1000000001 (s.data.toList.drop x.1) x.2 x.1 = sat 1000000001 (s.data.toList.drop 0) 0 0 ∧ h' = h) (fun x => s.size - x.1) (0, 0)
      ⟨Nat.zero_le _, ⟨Int.le_refl _, by decide⟩, rfl, rfl⟩ (by repeat (first | exact wkF_e | refine wkF_c rfl ?_)) wkB_e rfl ?_
    rintro ⟨i, n⟩ _ ⟨hi, hn, hq, rfl⟩
    have hi : i ≤ s.size := hi
    have hn : 0 ≤ n ∧ n ≤ 1000000001 := hn
    have hq : sat 1000000001 (s.data.toList.drop i) n i = sat 1000000001 (s.data.toList.drop 0) 0 0 := hq
    simp only [go_sem, Nat.reduceBEq]
    refine Br.intro (fun hb => ?_) (fun hb => ?_) <;> (try simp only [hb, go_sem, Nat.reduceBEq])
    · have hb : i < s.size := by simpa using hb
      obtain ⟨c, hc⟩ : ∃ c, s.data.toList[i]? = some c := ⟨_, List.getElem?_eq_getElem (by omega)⟩
      have wsu := wrap_succ (i := i) (by omega)
      have hdr := drop_at hc
      have hc8 := c.toNat_lt
      have wc : IntKind.i64.wrap (c.toNat : Int) = c.toNat := IntWalk.i64_in _ (by omega)
      simp only [sidx_at hc, wc, go_sem, Nat.reduceBEq]
      (refine (l1In_c _ _ _ _).mono ?_; rintro _ _ ⟨rfl, rfl⟩; simp only [go_sem, Nat.reduceBEq])
      refine Br.intro (fun hd => ?_) (fun hd => ?_) <;> (try simp only [hd, go_sem, Nat.reduceBEq])
      · have hd : isDig c = true := by have := of_decide_eq_true hd; unfold isDig; rw [decide_eq_true_eq]; omega
        rw [hdr] at hq
        simp only [sat, hd, if_true] at hq
        have hd' := hd
        simp only [isDig, decide_eq_true_eq] at hd'
        have w1 : IntKind.i64.wrap (10 * n) = 10 * n := IntWalk.i64_in _ (by omega)
        have w2 : IntKind.i64.wrap (10 * n + ((c.toNat : Int) - 48)) = 10 * n + ((c.toNat : Int) - 48) := IntWalk.i64_in _ (by omega)
        try simp only [sidx_at hc, u8sub hd, w1, w2, go_sem, Nat.reduceBEq]
        (refine (sMin _ _ _).mono ?_; rintro _ _ ⟨rfl, rfl⟩; simp only [go_sem, Nat.reduceBEq])
        rw [wsu]
        exact Again.intro (i + 1, min (10 * n + ((c.toNat : Int) - 48)) 1000000001) (by first | omega | (simp only; omega)) ⟨hb, ⟨by simp only; omega, by simp only; omega⟩, hq, rfl⟩ (by repeat (first | exact wkF_e | refine wkF_c rfl ?_)) wkB_e rfl
      · have hd : isDig c = false := by have := of_decide_eq_false hd; unfold isDig; rw [decide_eq_false_iff_not]; omega
        rw [hdr] at hq
        simp only [sat, hd, Bool.false_eq_true, if_false] at hq
        have hP : scanP s.data.toList = (n, i) := by unfold scanP; rw [hat]; exact hq.symm
        have hS : scan8 s = if i = 0 then (0, 0) else (n, i) := by unfold scan8; rw [hP, hat, hneg]; rfl
        refine Br.intro (fun he => ?_) (fun he => ?_) <;> (try simp only [he, go_sem, Nat.reduceBEq, Int.reduceEq])
        · have he : i = 0 := by have := of_decide_eq_true he; omega
          rw [hS, if_pos he]
          exact ⟨rfl, rfl⟩
        · have he : ¬ i = 0 := by have := of_decide_eq_false he; omega
          rw [hS, if_neg he]
          try simp only [go_sem]
          exact ⟨rfl, rfl⟩
    · have hb : i = s.size := by simp at hb; omega
      rw [List.drop_eq_nil_of_le (by omega)] at hq
      simp only [sat] at hq
      have hP : scanP s.data.toList = (n, i) := by unfold scanP; rw [hat]; exact hq.symm
      have hS : scan8 s = if i = 0 then (0, 0) else (n, i) := by unfold scan8; rw [hP, hat, hneg]; rfl
      refine Br.intro (fun he => ?_) (fun he => ?_) <;> (try simp only [he, go_sem, Nat.reduceBEq, Int.reduceEq])
      · have he : i = 0 := by have := of_decide_eq_true he; omega
        rw [hS, if_pos he]
        exact ⟨rfl, rfl⟩
      · have he : ¬ i = 0 := by have := of_decide_eq_false he; omega
        rw [hS, if_neg he]
        try simp only [go_sem]
        exact ⟨rfl, rfl⟩
theorem sLeadingInt (s : ByteArray) (hs : s.size ≤ 1152921504606846976) (h : Hp) : ACalls Tryd.prog 116 #[.string s] h (Pu (.int .i64 (lead s)) h) := by
  (refine enter Tryd.func116 rfl rfl (by kernel_rfl) [] ?_; simp only [go_sem, Nat.reduceBEq])
  (refine (sScan s hs _).mono ?_; rintro _ _ ⟨rfl, rfl⟩; simp only [go_sem, Nat.reduceBEq])
  (refine (sMin _ _ _).mono ?_; rintro _ _ ⟨rfl, rfl⟩; simp only [go_sem, Nat.reduceBEq])
  (refine (sMax _ _ _).mono ?_; rintro _ _ ⟨rfl, rfl⟩; simp only [go_sem, Nat.reduceBEq])
  exact ⟨by rw [lead_scan], rfl⟩
theorem sIsNumeric (s : ByteArray) (hs : s.size ≤ 1152921504606846976) (h : Hp) : ACalls Tryd.prog 115 #[.string s] h (Pu (.bool (isNumer s)) h) := by
  have hsz := size_list s
  obtain ⟨f1, f2, f3, f4, f5, f6, f7⟩ := scanP_facts s.data.toList
  have hat : at_ s.data.toList = if isNeg s.data.toList then 1 else 0 := rfl
  have hres : ∀ b : Bool, (b = true ↔ ((scanP s.data.toList).2 = s.data.toList.length ∧ at_ s.data.toList < (scanP s.data.toList).2 ∧ (scanP s.data.toList).2 ≤ at_ s.data.toList + 10 ∧ (scanP s.data.toList).1 ≤ 1000000000)) → (Value.bool b) = .bool (isNumer s) := fun b hb => by
    have : b = isNumer s := by
      unfold isNumer
      rw [Bool.eq_iff_iff, hb, f7]
    rw [this]
  (refine enter Tryd.func115 rfl rfl (by kernel_rfl) [] ?_; simp only [go_sem, Nat.reduceBEq])
  (refine (sScan s hs _).mono ?_; rintro _ _ ⟨rfl, rfl⟩; simp only [go_sem, Nat.reduceBEq])
  unfold scan8
  by_cases hk : (scanP s.data.toList).2 = at_ s.data.toList
  · simp only [if_pos hk, go_sem]
    simp only [Int.natCast_zero, Int.lt_irrefl, decide_false, go_sem, Nat.reduceBEq]
    exact ⟨hres _ (by simp; omega), rfl⟩
  · simp only [if_neg hk, go_sem]
    have hpos : decide ((0 : Int) < ((scanP s.data.toList).2 : Nat)) = true := decide_eq_true (by omega)
    simp only [hpos, go_sem, Nat.reduceBEq]
    refine Br.intro (fun h1 => ?_) (fun h1 => ?_) <;> (try simp only [h1, go_sem, Nat.reduceBEq])
    · have h1 : (scanP s.data.toList).2 = s.size := by have := of_decide_eq_true h1; omega
      (refine (l1In_c _ _ _ _).mono ?_; rintro _ _ ⟨rfl, rfl⟩; simp only [go_sem, Nat.reduceBEq])
      refine Br.intro (fun h2 => ?_) (fun h2 => ?_) <;> (try simp only [h2, go_sem, Nat.reduceBEq])
      · have h2 := of_decide_eq_true h2
        refine Br.intro (fun h3 => ?_) (fun h3 => ?_) <;> (try simp only [h3, go_sem, Nat.reduceBEq])
        · have h3 := of_decide_eq_true h3
          refine ⟨hres _ ?_, rfl⟩
          simp only [true_iff]
          cases hn : isNeg s.data.toList <;> simp only [hn, if_true, if_false, Bool.false_eq_true] at h2 hat <;> omega
        · have h3 := of_decide_eq_false h3
          refine Br.intro (fun h4 => ?_) (fun h4 => ?_) <;> (try simp only [h4, go_sem, Nat.reduceBEq])
          · have h4 := of_decide_eq_true h4
            obtain ⟨c0, hc0⟩ : ∃ c, s.data.toList[0]? = some c := ⟨_, List.getElem?_eq_getElem (by omega)⟩
            have hix : sidx s 0 = some (.int .u8 c0.toNat) := sidx_at hc0
            have hng := neg_get hc0
            simp only [hix, go_sem, Nat.reduceBEq]
            refine ⟨hres _ ?_, rfl⟩
            have e45 : decide ((c0.toNat : Int) = 45) = isNeg s.data.toList := by rw [hng, ← byte_dec]; rfl
            rw [e45]
            cases hn : isNeg s.data.toList <;> simp only [hn, if_true, if_false, Bool.false_eq_true, false_iff, true_iff] at h2 hat ⊢ <;> omega
          · have h4 := of_decide_eq_false h4
            refine ⟨hres _ ?_, rfl⟩
            simp only [Bool.false_eq_true, false_iff]
            cases hn : isNeg s.data.toList <;> simp only [hn, if_true, if_false, Bool.false_eq_true] at h2 hat <;> omega
      · have h2 := of_decide_eq_false h2
        refine ⟨hres _ ?_, rfl⟩
        simp only [Bool.false_eq_true, false_iff]
        cases hn : isNeg s.data.toList <;> simp only [hn, if_true, if_false, Bool.false_eq_true] at h2 hat <;> omega
    · have h1 : ¬ (scanP s.data.toList).2 = s.size := by have := of_decide_eq_false h1; omega
      refine ⟨hres _ ?_, rfl⟩
      simp only [Bool.false_eq_true, false_iff]
      omega
end Go.Proofs.YtconhonjkfpfmaaDoor
