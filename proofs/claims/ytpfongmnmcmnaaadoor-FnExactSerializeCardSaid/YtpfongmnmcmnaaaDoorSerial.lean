/-
  What IsPlain, KeyValue, appendSerial and Serialize of the program, and l11Text and Serialize of the reference return.
-/
import Derived.Test.YtpfongmnmcmnaaaDoorIsVal
import Derived.Test.YtpfongmnmcmnaaaDoorFmt
import Derived.Test.YtpfongmnmcmnaaaDoorSxSerial
import Derived.Test.YtpfongmnmcmnaaaDoorSxAppStr
namespace Go.Proofs.YtpfongmnmcmnaaaDoor
set_option maxRecDepth 8000
open Go Go.Sx
def serOf (v : V) : ByteArray × Bool := if v.valid && v.plain then (⟨v.ser.toArray⟩, true) else (⟨#[]⟩, false)
def PlI (v : V) : Prop := v.bulk ≤ 1099511627776 → ∀ (sl : Value) (h : Hp), RdE h v.items sl → ACalls Tryd.prog 15 #[.agg #[.int .i64 v.kind, .int .i64 v.num, .string v.str, .int .i64 v.next, sl]] h (Pu (.bool v.plain) h)
theorem iPlain : ∀ v, PlI v := V.ind fun v ih hbk sl h rd => by
  have hB := V.bulk_eq v
  have hlen := V.bulks_len v.items
  have hpe := V.plain_eq v
  obtain ⟨a, c, xs, rfl, hc, hr, hat⟩ := rd.rows (by decide) v.items.length (fm_len edt_len _)
  (refine enter Tryd.func15 rfl rfl (by kernel_rfl) [] ?_; simp only [go_sem, Nat.reduceBEq])
  refine Br.intro (fun hk => ?_) (fun hk => ?_) <;> (try simp only [hk, go_sem, Nat.reduceBEq])
  · have hk : v.kind = 4 := by simpa using hk
    rw [if_pos hk] at hpe
    refine aloop (ι := Nat) (fun i => [(11, .val (.int .i64 (i : Nat))), (10, .val (.int .i64 (v.items.length : Nat))), (9, .val (.slice a v.items.length c))]) (fun _ => []) (fun i h' => i ≤ v.items.length ∧ h = h' ∧ plainEs (v.items.drop i) = v.plain) (fun i => v.items.length - i) 0
      ⟨Nat.zero_le _, rfl, hpe.symm⟩ (by repeat (first | exact wkF_e | refine wkF_c rfl ?_)) wkB_e rfl ?_
    rintro i _ ⟨hi, rfl, hq⟩
    have hi : i ≤ v.items.length := hi
    have hq : plainEs (v.items.drop i) = v.plain := hq
    simp only [go_sem, Nat.reduceBEq]
    refine Br.intro (fun hb => ?_) (fun hb => ?_) <;> (try simp only [hb, go_sem, Nat.reduceBEq])
    · have hb : i < v.items.length := by simpa using hb
      obtain ⟨b, off, rfl, hat'⟩ := hat (by omega)
      obtain ⟨e, he, hm⟩ := get_lt hb
      have wsu := wrap_succ (i := i) (by omega)
      have hbe := bulk_in hm
      have hq2 := plainEs_at he
      simp only [ix_nat hb, go_sem, Nat.reduceBEq]
      refine hsem_entry tyS50 hat' hr he rfl fun s2 rd2 => ?_
      obtain ⟨a2, c2, _, rfl, _⟩ := rd2.rows (by decide) e.2.items.length (fm_len edt_len _)
      simp only [go_sem, Nat.reduceBEq, Nat.reduceAdd, Nat.reduceLeDiff]
      (refine (ih e hm (by omega) _ _ rd2).mono ?_; rintro _ _ ⟨rfl, rfl⟩; simp only [go_sem, Nat.reduceBEq])
      refine Br.intro (fun hp => ?_) (fun hp => ?_) <;> (try simp only [hp, go_sem, Nat.reduceBEq])
      · have hp : e.2.plain = false := by simpa using hp
        exact ⟨by rw [← hq, hq2, hp]; rfl, rfl⟩
      · have hp : e.2.plain = true := by simpa using hp
        rw [wsu]
        refine Again.intro (i + 1) (by first | omega | (simp only; omega)) ⟨hb, rfl, ?_⟩ (by repeat (first | exact wkF_e | refine wkF_c rfl ?_)) wkB_e rfl
        rw [← hq, hq2, hp]
        rfl
    · have hb : i = v.items.length := by simp at hb; omega
      subst hb
      rw [List.drop_length, plainEs_nil] at hq
      exact ⟨by rw [← hq], rfl⟩
  · have hk : ¬ v.kind = 4 := by simpa using hk
    rw [if_neg hk] at hpe
    (refine (iInRange _ _ _ _).mono ?_; rintro _ _ ⟨rfl, rfl⟩; simp only [go_sem, Nat.reduceBEq])
    exact ⟨by rw [hpe], rfl⟩
def PlS (v : V) : Prop := v.bulk ≤ 1099511627776 → ∀ (sl : Value) (h : Hp), RdE h v.items sl → ACalls Tryd.prog 11 #[.agg #[.int .i64 v.kind, .int .i64 v.num, .string v.str, .int .i64 v.next, sl]] h (Pu (.bool v.plain) h)
theorem sPlain : ∀ v, PlS v := V.ind fun v ih hbk sl h rd => by
  have hB := V.bulk_eq v
  have hlen := V.bulks_len v.items
  have hpe := V.plain_eq v
  obtain ⟨a, c, xs, rfl, hc, hr, hat⟩ := rd.rows (by decide) v.items.length (fm_len edt_len _)
  (refine enter Tryd.func11 rfl rfl (by kernel_rfl) [] ?_; simp only [go_sem, Nat.reduceBEq])
  refine Br.intro (fun hk => ?_) (fun hk => ?_) <;> (try simp only [hk, go_sem, Nat.reduceBEq])
  · have hk : ¬ v.kind = 4 := by simpa using hk
    rw [if_neg hk] at hpe
    (refine (l1In_c _ _ _ _).mono ?_; rintro _ _ ⟨rfl, rfl⟩; simp only [go_sem, Nat.reduceBEq])
    exact ⟨by rw [hpe], rfl⟩
  · have hk : v.kind = 4 := by simpa using hk
    rw [if_pos hk] at hpe
    refine aloop (ι := Nat) (fun i => [(3, .val (.int .i64 (i : Nat))), (1, .box 1 0)]) (fun _ => [(1, [.int .i64 v.kind, .int .i64 v.num, .string v.str, .int .i64 v.next, .slice a v.items.length c])]) (fun i h' => i ≤ v.items.length ∧ h = h' ∧ plainEs (v.items.drop i) = v.plain) (fun i => v.items.length - i) 0
      ⟨Nat.zero_le _, rfl, hpe.symm⟩ (by repeat (first | exact wkF_e | refine wkF_c rfl ?_)) (wkB_c rfl wkB_e) rfl ?_
    rintro i _ ⟨hi, rfl, hq⟩
    have hi : i ≤ v.items.length := hi
    have hq : plainEs (v.items.drop i) = v.plain := hq
    simp only [go_sem, Nat.reduceBEq]
    refine Br.intro (fun hb => ?_) (fun hb => ?_) <;> (try simp only [hb, go_sem, Nat.reduceBEq])
    · have hb : i < v.items.length := by simpa using hb
      obtain ⟨b, off, rfl, hat'⟩ := hat (by omega)
      obtain ⟨e, he, hm⟩ := get_lt hb
      have wsu := wrap_succ (i := i) (by omega)
      have hbe := bulk_in hm
      have hq2 := plainEs_at he
      simp only [ix_nat hb, go_sem, Nat.reduceBEq, Nat.reduceAdd]
      refine hsem_eval tyS30 hat' hr he rfl fun s2 rd2 => ?_
      obtain ⟨a2, c2, _, rfl, _⟩ := rd2.rows (by decide) e.2.items.length (fm_len edt_len _)
      simp only [go_sem, Nat.reduceBEq]
      (refine (ih e hm (by omega) _ _ rd2).mono ?_; rintro _ _ ⟨rfl, rfl⟩; simp only [go_sem, Nat.reduceBEq])
      refine Br.intro (fun hp => ?_) (fun hp => ?_) <;> (try simp only [hp, go_sem, Nat.reduceBEq])
      · have hp : e.2.plain = false := by simpa using hp
        exact ⟨by rw [← hq, hq2, hp]; rfl, rfl⟩
      · have hp : e.2.plain = true := by simpa using hp
        rw [wsu]
        refine Again.intro (i + 1) (by first | omega | (simp only; omega)) ⟨hb, rfl, ?_⟩ (by repeat (first | exact wkF_e | refine wkF_c rfl ?_)) (wkB_c rfl wkB_e) rfl
        rw [← hq, hq2, hp]
        rfl
    · have hb : i = v.items.length := by simp at hb; omega
      subst hb
      rw [List.drop_length, plainEs_nil] at hq
      exact ⟨by rw [← hq], rfl⟩
theorem iTextVal (s : ByteArray) (h : Hp) : ACalls Tryd.prog 39 #[.string s] h (Pu (.agg #[.int .i64 3, .int .i64 0, .string s, .int .i64 0, .slice none 0 0]) h) := by
  (refine enter Tryd.func39 rfl rfl (by kernel_rfl) [] ?_; simp only [go_sem, Nat.reduceBEq, Nat.reduceAdd, Nat.reduceLeDiff])
  exact ⟨rfl, rfl⟩
theorem iIntVal (n : Int) (h : Hp) : ACalls Tryd.prog 40 #[.int .i64 n] h (Pu (.agg #[.int .i64 2, .int .i64 n, .string ⟨#[]⟩, .int .i64 0, .slice none 0 0]) h) := by
  (refine enter Tryd.func40 rfl rfl (by kernel_rfl) [] ?_; simp only [go_sem, Nat.reduceBEq, Nat.reduceAdd, Nat.reduceLeDiff])
  exact ⟨rfl, rfl⟩
theorem iKeyVal (k : Ky) (h : Hp) : ACalls Tryd.prog 29 #[.agg #[.bool k.text, .int .i64 k.num, .string k.str]] h (Pu (.agg #[.int .i64 k.asV.kind, .int .i64 k.asV.num, .string k.asV.str, .int .i64 0, .slice none 0 0]) h) := by
  obtain ⟨t, n, s⟩ := k
  cases t with
  | true =>
    (refine enter Tryd.func29 rfl rfl (by kernel_rfl) [] ?_; simp only [go_sem, Nat.reduceBEq])
    (refine (iTextVal s _).mono ?_; rintro _ _ ⟨rfl, rfl⟩; simp only [go_sem, Nat.reduceBEq, Nat.reduceAdd, Nat.reduceLeDiff])
    exact ⟨rfl, rfl⟩
  | false =>
    (refine enter Tryd.func29 rfl rfl (by kernel_rfl) [] ?_; simp only [go_sem, Nat.reduceBEq])
    (refine (iIntVal n _).mono ?_; rintro _ _ ⟨rfl, rfl⟩; simp only [go_sem, Nat.reduceBEq, Nat.reduceAdd, Nat.reduceLeDiff])
    exact ⟨rfl, rfl⟩
def SerR (h0 : Hp) (l : List UInt8) (u : Value) (h' : Hp) : Prop := Mine h0 h' 1 u (bcells l)
theorem i64_nat {n : Nat} (h : n ≤ 9223372036854775807) : IntKind.i64.min ≤ ((n : Nat) : Int) ∧ ((n : Nat) : Int) ≤ IntKind.i64.max := by
  have h1 : IntKind.i64.min = -9223372036854775808 := by decide
  have h2 : IntKind.i64.max = 9223372036854775807 := by decide
  omega
theorem iSerFlat (k n : Int) (s : ByteArray) (nx : Int) (sl : Value) (hk : 0 ≤ k ∧ k ≤ 3) (hn : IntKind.i64.min ≤ n ∧ n ≤ IntKind.i64.max) (h0 h : Hp) (l : List UInt8) (x : Value) (m : Mine h0 h 1 x (bcells l)) (hl : l.length + s.size + 60 ≤ 70368744177664) (hT : Pow h0) :
    ACalls Tryd.prog 16 #[x, .agg #[.int .i64 k, .int .i64 n, .string s, .int .i64 nx, sl]] h (SerR h0 (l ++ flatSer k n s)) := by
  have hi := itoa_le21 hn
  have hi2 := itoa_le21 (i64_nat (n := s.size) (by omega))
  have hsz : s.data.toList.length = s.size := Array.length_toList
  (refine enter Tryd.func16 rfl rfl (by kernel_rfl) [] ?_; simp only [go_sem, Nat.reduceBEq])
  by_cases k0 : k = 0
  · have d0 := decide_eq_true k0
    have e0 : flatSer k n s = [78, 59] := by unfold flatSer; rw [if_pos k0]
    simp only [d0, go_sem, Nat.reduceBEq]
    refine bytes_append_str (st := ⟨#[78, 59]⟩) slT38 (by kernel_rfl) m (by show _ + 2 ≤ _; omega) fun v' h' m' => ?_
    simp only [go_sem, Nat.reduceBEq]
    rw [e0]
    exact m'
  have d0 := decide_eq_false k0
  by_cases k1 : k = 1
  · have d1 := decide_eq_true k1
    have e0 : flatSer k n s = [98, 58] ++ Lib.itoa n ++ [59] := by unfold flatSer; rw [if_neg k0, if_pos k1]
    simp only [d0, d1, go_sem, Nat.reduceBEq]
    refine (iFormatInt n hn _ (hT.ext m.ext)).mono ?_
    rintro _ h1 ⟨rfl, e1⟩
    simp only [go_sem, Nat.reduceBEq]
    refine ⟨i64_room (by simp; omega), i64_room (by simp; omega), ?_⟩
    rw [show (⟨#[98, 58]⟩ : ByteArray) ++ ⟨(Lib.itoa n).toArray⟩ ++ ⟨#[59]⟩ = ⟨(flatSer k n s).toArray⟩ by rw [e0, bytes_add, bytes_add]]
    refine bytes_append_str (st := ⟨(flatSer k n s).toArray⟩) slT38 (by kernel_rfl) (m.mono e1) (by show _ + (flatSer k n s).toArray.size ≤ _; rw [List.size_toArray, e0]; simp only [List.length_append, List.length_cons, List.length_nil]; omega) fun v' h' m' => ?_
    simp only [go_sem, Nat.reduceBEq]
    exact m'
  have d1 := decide_eq_false k1
  by_cases k2 : k = 2
  · have d2 := decide_eq_true k2
    have e0 : flatSer k n s = [105, 58] ++ Lib.itoa n ++ [59] := by unfold flatSer; rw [if_neg k0, if_neg k1, if_pos k2]
    simp only [d0, d1, d2, go_sem, Nat.reduceBEq]
    refine (iFormatInt n hn _ (hT.ext m.ext)).mono ?_
    rintro _ h1 ⟨rfl, e1⟩
    simp only [go_sem, Nat.reduceBEq]
    refine ⟨i64_room (by simp; omega), i64_room (by simp; omega), ?_⟩
    rw [show (⟨#[105, 58]⟩ : ByteArray) ++ ⟨(Lib.itoa n).toArray⟩ ++ ⟨#[59]⟩ = ⟨(flatSer k n s).toArray⟩ by rw [e0, bytes_add, bytes_add]]
    refine bytes_append_str (st := ⟨(flatSer k n s).toArray⟩) slT38 (by kernel_rfl) (m.mono e1) (by show _ + (flatSer k n s).toArray.size ≤ _; rw [List.size_toArray, e0]; simp only [List.length_append, List.length_cons, List.length_nil]; omega) fun v' h' m' => ?_
    simp only [go_sem, Nat.reduceBEq]
    exact m'
  have d2 := decide_eq_false k2
  have k3 : k = 3 := by omega
  have d3 := decide_eq_true k3
  have e0 : flatSer k n s = [115, 58] ++ Lib.itoa s.size ++ [58] ++ s.data.toList ++ [59] := by unfold flatSer; rw [if_neg k0, if_neg k1, if_neg k2]
  simp only [d0, d1, d2, d3, go_sem, Nat.reduceBEq]
  refine regionD_intro (lb := [35, 41]) (by kernel_rfl) ?_
  simp only [go_sem, Nat.reduceBEq]
  refine (iFormatInt s.size (i64_nat (by omega)) _ (hT.ext m.ext)).mono ?_
  rintro _ h1 ⟨rfl, e1⟩
  simp only [go_sem, Nat.reduceBEq]
  refine ⟨i64_room (by simp; omega), i64_room (by simp; omega), i64_room (by simp; omega), i64_room (by simp; omega), ?_⟩
  rw [show (⟨#[115, 58]⟩ : ByteArray) ++ ⟨(Lib.itoa s.size).toArray⟩ ++ ⟨#[58]⟩ ++ s ++ ⟨#[59]⟩ = ⟨(flatSer k n s).toArray⟩ by rw [e0, bytes_add, bytes_add, bytes_addS, bytes_add]]
  refine bytes_append_str (st := ⟨(flatSer k n s).toArray⟩) slT38 (by kernel_rfl) (m.mono e1) (by show _ + (flatSer k n s).toArray.size ≤ _; rw [List.size_toArray, e0]; simp only [List.length_append, List.length_cons, List.length_nil]; omega) fun v' h' m' => ?_
  simp only [go_sem, Nat.reduceBEq]
  exact m'
def SerI (v : V) : Prop := v.ok → v.bulk ≤ 274877906944 → ∀ (h0 h : Hp) (l : List UInt8) (x sl : Value), Mine h0 h 1 x (bcells l) → l.length + 128 * v.bulk + 300 ≤ 70368744177664 → RdE h0 v.items sl → Pow h0 →
    ACalls Tryd.prog 16 #[x, .agg #[.int .i64 v.kind, .int .i64 v.num, .string v.str, .int .i64 v.next, sl]] h (SerR h0 (l ++ v.ser))
theorem iSer : ∀ v, SerI v := V.ind fun v ih => by
  intro ok hbk h0 h l x sl m hl rd hT
  have hB := V.bulk_eq v
  by_cases hk : 0 ≤ v.kind ∧ v.kind ≤ 3
  · rw [V.ser_eq, if_pos hk]
    exact iSerFlat _ _ _ _ _ hk (V.ok_num ok) h0 h l x m (by omega) hT
  rw [V.ser_eq, if_neg hk]
  have hlen := V.bulks_len v.items
  obtain ⟨a, c, xs, rfl, hc, hr, hat⟩ := rd.rows (by decide) v.items.length (fm_len edt_len _)
  have d0 : decide (v.kind = 0) = false := decide_eq_false (by omega)
  have d1 : decide (v.kind = 1) = false := decide_eq_false (by omega)
  have d2 : decide (v.kind = 2) = false := decide_eq_false (by omega)
  have d3 : decide (v.kind = 3) = false := decide_eq_false (by omega)
  have hq1 := i64_nat (n := v.items.length) (by omega)
  have hi := itoa_le21 hq1
  have hi2 := itoa_le21 (V.ok_next ok)
  (refine enter Tryd.func16 rfl rfl (by kernel_rfl) [] ?_; simp only [go_sem, Nat.reduceBEq])
  simp only [d0, d1, d2, d3, go_sem, Nat.reduceBEq]
  refine regionD_intro (lb := [47, 53]) (by kernel_rfl) ?_
  simp only [go_sem, Nat.reduceBEq]
  refine (iFormatInt v.items.length hq1 _ (hT.ext m.ext)).mono ?_
  rintro _ h1 ⟨rfl, e1⟩
  simp only [go_sem, Nat.reduceBEq]
  refine ⟨i64_room (by simp; omega), i64_room (by simp; omega), ?_⟩
  refine (iFormatInt v.next (V.ok_next ok) _ (hT.ext (m.ext.trans e1))).mono ?_
  rintro _ h2 ⟨rfl, e2⟩
  simp only [go_sem, Nat.reduceBEq]
  refine ⟨i64_room (by simp; omega), i64_room (by simp; omega), ?_⟩
  rw [show (⟨#[97, 58]⟩ : ByteArray) ++ ⟨(Lib.itoa v.items.length).toArray⟩ ++ ⟨#[58]⟩ ++ ⟨(Lib.itoa v.next).toArray⟩ ++ ⟨#[123]⟩ = ⟨([97, 58] ++ Lib.itoa v.items.length ++ [58] ++ Lib.itoa v.next ++ [123]).toArray⟩ by rw [bytes_add, bytes_add, bytes_add, bytes_add]]
  generalize hhd : [97, 58] ++ Lib.itoa v.items.length ++ [58] ++ Lib.itoa v.next ++ [123] = hd
  have hhl : hd.length ≤ 50 := by rw [← hhd]; simp only [List.length_append, List.length_cons, List.length_nil]; omega
  refine bytes_append_str (st := ⟨hd.toArray⟩) slT38 (by kernel_rfl) (m.mono (e1.trans e2)) (by show _ + hd.toArray.size ≤ _; rw [List.size_toArray]; omega) fun x3 h3 m3 => ?_
  simp only [go_sem, Nat.reduceBEq]
  refine aloop (ι := Nat × Value) (fun y => [(61, .val (.int .i64 (y.1 : Nat))), (60, .val (.int .i64 (v.items.length : Nat))), (59, .val (.slice a v.items.length c)), (0, .val y.2)]) (fun _ => []) (fun y h' => y.1 ≤ v.items.length ∧ Mine h0 h' 1 y.2 (bcells (l ++ hd ++ serEs (v.items.take y.1)))) (fun y => v.items.length - y.1) (0, x3)
    ⟨Nat.zero_le _, by simpa [serEs_nil] using m3⟩ (by repeat (first | exact wkF_e | refine wkF_c rfl ?_)) wkB_e rfl ?_
  rintro ⟨i, x4⟩ h4 ⟨hi, m4⟩
  have hi : i ≤ v.items.length := hi
  have m4 : Mine h0 h4 1 x4 (bcells (l ++ hd ++ serEs (v.items.take i))) := m4
  have ht := serEs_take (V.ok_items ok) i
  simp only [go_sem, Nat.reduceBEq]
  refine Br.intro (fun hb => ?_) (fun hb => ?_) <;> (try simp only [hb, go_sem, Nat.reduceBEq])
  · have hb : i < v.items.length := by simpa using hb
    obtain ⟨b, off, rfl, hat'⟩ := hat (by omega)
    obtain ⟨e, he, hm⟩ := get_lt hb
    have wsu := wrap_succ (i := i) (by omega)
    have hcut := bulks_cut he
    obtain ⟨oke, okv⟩ := V.oks_mem (V.ok_items ok) hm
    have hks := kser_len oke
    have hss := asV_str e.1
    simp only [ix_nat hb, go_sem, Nat.reduceBEq]
    refine hsem_entry0 tyS50 (hat'.mono m4.ext) hr he rfl fun s2 rd2 => ?_
    obtain ⟨a2, c2, _, rfl, _⟩ := rd2.rows (by decide) e.2.items.length (fm_len edt_len _)
    simp only [go_sem, Nat.reduceBEq, Nat.reduceAdd, Nat.reduceLeDiff]
    (refine (iKeyVal e.1 _).mono ?_; rintro _ _ ⟨rfl, rfl⟩; simp only [go_sem, Nat.reduceBEq])
    refine (iSerFlat _ _ _ _ _ (asV_kind e.1) (asV_num oke) h0 _ _ _ m4 (by simp only [List.length_append]; omega) hT).mono ?_
    rintro x5 h5 m5
    have m5 : Mine h0 h5 1 x5 (bcells (l ++ hd ++ serEs (v.items.take i) ++ e.1.ser)) := m5
    simp only [go_sem, Nat.reduceBEq, Nat.reduceAdd, Nat.reduceLeDiff]
    refine (ih e hm okv (by omega) h0 h5 _ x5 _ m5 (by simp only [List.length_append]; omega) rd2 hT).mono ?_
    rintro x6 h6 m6
    have m6 : Mine h0 h6 1 x6 (bcells (l ++ hd ++ serEs (v.items.take i) ++ e.1.ser ++ e.2.ser)) := m6
    simp only [wsu, go_sem, Nat.reduceBEq]
    refine Again.intro (i + 1, x6) (by first | omega | (simp only; omega)) ⟨hb, ?_⟩ (by repeat (first | exact wkF_e | refine wkF_c rfl ?_)) wkB_e rfl
    rw [serEs_snoc he]
    simpa only [List.append_assoc] using m6
  · have hb : i = v.items.length := by simp at hb; omega
    subst hb
    have hbt : V.bulks (v.items.take v.items.length) = V.bulks v.items := by rw [List.take_length]
    refine bytes_lit1 slT38 125 fun u9 g9 n9 => ?_
    simp only [go_sem, Nat.reduceBEq]
    refine bytes_append slT38 (l2 := [125]) (m4.mono n9.ext) n9.rd (by simp only [List.length_append, List.length_cons, List.length_nil]; omega) fun v9 k9 m9 => ?_
    simp only [go_sem, Nat.reduceBEq]
    rw [List.take_length] at m9
    show Mine h0 k9 1 v9 _
    subst hhd
    simpa only [List.append_assoc, List.cons_append, List.nil_append] using m9
theorem iSerialize (v : V) (ok : v.ok) (hb : v.bulk ≤ 1073741824) (sl : Value) (h : Hp) (rd : RdE h v.items sl) (hE : Env h) :
    ACalls Tryd.prog 7 #[.agg #[.int .i64 v.kind, .int .i64 v.num, .string v.str, .int .i64 v.next, sl]] h (Is (.tuple #[.string (serOf v).1, .bool (serOf v).2]) h) := by
  (refine enter Tryd.func7 rfl rfl (by kernel_rfl) [] ?_; simp only [go_sem, Nat.reduceBEq, Nat.reduceAdd, Nat.reduceLeDiff])
  obtain ⟨a, c, xs, rfl, hc, hr, hat⟩ := rd.rows (by decide) v.items.length (fm_len edt_len _)
  refine (iIsValue v (by omega) _ _ rd hE).mono ?_
  rintro _ h1 ⟨rfl, e1⟩
  simp only [go_sem, Nat.reduceBEq]
  by_cases hv : v.valid = true
  case neg =>
    have hv : v.valid = false := by simpa using hv
    simp only [hv, go_sem, Nat.reduceBEq]
    exact ⟨by unfold serOf; simp [hv], e1⟩
  simp only [hv, go_sem, Nat.reduceBEq, Nat.reduceAdd, Nat.reduceLeDiff]
  (refine (iPlain v (by omega) _ _ (rd.mono e1)).mono ?_; rintro _ _ ⟨rfl, rfl⟩; simp only [go_sem, Nat.reduceBEq])
  by_cases hp : v.plain = true
  case neg =>
    have hp : v.plain = false := by simpa using hp
    simp only [hp, go_sem, Nat.reduceBEq]
    exact ⟨by unfold serOf; simp [hp], e1⟩
  simp only [hp, go_sem, Nat.reduceBEq, Nat.reduceAdd, Nat.reduceLeDiff]
  refine (iSer v ok (by omega) h1 h1 [] _ _ (Mine.nil (Ext.refl _)) (by simp only [List.length_nil]; omega) (rd.mono e1) (hE.1.ext e1)).mono ?_
  rintro x2 h2 m2
  have m2 : Mine h1 h2 1 x2 (bcells ([] ++ v.ser)) := m2
  rw [List.nil_append] at m2
  simp only [go_sem, Nat.reduceBEq]
  refine cvK_bytes bytT38 isStr9 m2.rd ?_
  simp only [go_sem, Nat.reduceBEq]
  exact ⟨by unfold serOf; simp [hv, hp], e1.trans m2.ext⟩
theorem sTextVal (s : ByteArray) (h : Hp) : ACalls Tryd.prog 34 #[.string s] h (Pu (.agg #[.int .i64 3, .int .i64 0, .string s, .int .i64 0, .slice none 0 0]) h) := by
  (refine enter Tryd.func34 rfl rfl (by kernel_rfl) [] ?_; simp only [go_sem, Nat.reduceBEq, Nat.reduceAdd, Nat.reduceLeDiff])
  exact ⟨rfl, rfl⟩
theorem sIntVal (n : Int) (h : Hp) : ACalls Tryd.prog 35 #[.int .i64 n] h (Pu (.agg #[.int .i64 2, .int .i64 n, .string ⟨#[]⟩, .int .i64 0, .slice none 0 0]) h) := by
  (refine enter Tryd.func35 rfl rfl (by kernel_rfl) [] ?_; simp only [go_sem, Nat.reduceBEq, Nat.reduceAdd, Nat.reduceLeDiff])
  exact ⟨rfl, rfl⟩
theorem sKeyVal (k : Ky) (h : Hp) : ACalls Tryd.prog 23 #[.agg #[.bool k.text, .int .i64 k.num, .string k.str]] h (Pu (.agg #[.int .i64 k.asV.kind, .int .i64 k.asV.num, .string k.asV.str, .int .i64 0, .slice none 0 0]) h) := by
  obtain ⟨t, n, s⟩ := k
  cases t with
  | true =>
    (refine enter Tryd.func23 rfl rfl (by kernel_rfl) [] ?_; simp only [go_sem, Nat.reduceBEq])
    (refine (sTextVal s _).mono ?_; rintro _ _ ⟨rfl, rfl⟩; simp only [go_sem, Nat.reduceBEq, Nat.reduceAdd, Nat.reduceLeDiff])
    exact ⟨rfl, rfl⟩
  | false =>
    (refine enter Tryd.func23 rfl rfl (by kernel_rfl) [] ?_; simp only [go_sem, Nat.reduceBEq])
    (refine (sIntVal n _).mono ?_; rintro _ _ ⟨rfl, rfl⟩; simp only [go_sem, Nat.reduceBEq, Nat.reduceAdd, Nat.reduceLeDiff])
    exact ⟨rfl, rfl⟩
theorem i64_nat2 {n : Nat} (h : n ≤ 9223372036854775807) : IntKind.i64.min ≤ ((n : Nat) : Int) ∧ ((n : Nat) : Int) ≤ IntKind.i64.max := by
  have h1 : IntKind.i64.min = -9223372036854775808 := by decide
  have h2 : IntKind.i64.max = 9223372036854775807 := by decide
  omega
theorem sSerFlat (k n : Int) (s : ByteArray) (nx : Int) (sl : Value) (hk : 0 ≤ k ∧ k ≤ 3) (hn : IntKind.i64.min ≤ n ∧ n ≤ IntKind.i64.max) (hs : s.size ≤ 70368744177664) (h : Hp) :
    ACalls Tryd.prog 12 #[.agg #[.int .i64 k, .int .i64 n, .string s, .int .i64 nx, sl]] h (Is (.string ⟨(flatSer k n s).toArray⟩) h) := by
  have hi := itoa_le21 hn
  have hi2 := itoa_le21 (i64_nat2 (n := s.size) (by omega))
  (refine enter Tryd.func12 rfl rfl (by kernel_rfl) [] ?_; simp only [go_sem, Nat.reduceBEq])
  by_cases k0 : k = 0
  · have d0 := decide_eq_true k0
    have e0 : flatSer k n s = [78, 59] := by unfold flatSer; rw [if_pos k0]
    simp only [d0, go_sem, Nat.reduceBEq]
    rw [e0]
    exact ⟨rfl, Ext.refl _⟩
  have d0 := decide_eq_false k0
  by_cases k1 : k = 1
  · have d1 := decide_eq_true k1
    have e0 : flatSer k n s = [98, 58] ++ Lib.itoa n ++ [59] := by unfold flatSer; rw [if_neg k0, if_pos k1]
    simp only [d0, d1, go_sem, Nat.reduceBEq]
    refine (sFormatInt n hn _).mono ?_
    rintro _ h1 ⟨rfl, e1⟩
    simp only [go_sem, Nat.reduceBEq]
    refine ⟨i64_room (by simp; omega), i64_room (by simp; omega), ?_⟩
    exact ⟨by rw [e0, show (⟨#[98, 58]⟩ : ByteArray) ++ ⟨(Lib.itoa n).toArray⟩ ++ ⟨#[59]⟩ = ⟨([98, 58] ++ Lib.itoa n ++ [59]).toArray⟩ by rw [bytes_add, bytes_add]], e1⟩
  have d1 := decide_eq_false k1
  by_cases k2 : k = 2
  · have d2 := decide_eq_true k2
    have e0 : flatSer k n s = [105, 58] ++ Lib.itoa n ++ [59] := by unfold flatSer; rw [if_neg k0, if_neg k1, if_pos k2]
    simp only [d0, d1, d2, go_sem, Nat.reduceBEq]
    refine (sFormatInt n hn _).mono ?_
    rintro _ h1 ⟨rfl, e1⟩
    simp only [go_sem, Nat.reduceBEq]
    refine ⟨i64_room (by simp; omega), i64_room (by simp; omega), ?_⟩
    exact ⟨by rw [e0, show (⟨#[105, 58]⟩ : ByteArray) ++ ⟨(Lib.itoa n).toArray⟩ ++ ⟨#[59]⟩ = ⟨([105, 58] ++ Lib.itoa n ++ [59]).toArray⟩ by rw [bytes_add, bytes_add]], e1⟩
  have d2 := decide_eq_false k2
  have k3 : k = 3 := by omega
  have d3 := decide_eq_true k3
  have e0 : flatSer k n s = [115, 58] ++ Lib.itoa s.size ++ [58] ++ s.data.toList ++ [59] := by unfold flatSer; rw [if_neg k0, if_neg k1, if_neg k2]
  simp only [d0, d1, d2, d3, go_sem, Nat.reduceBEq]
  refine regionD_intro (lb := [26, 32]) (by kernel_rfl) ?_
  simp only [go_sem, Nat.reduceBEq]
  refine (sFormatInt s.size (i64_nat2 (by omega)) _).mono ?_
  rintro _ h1 ⟨rfl, e1⟩
  simp only [go_sem, Nat.reduceBEq]
  refine ⟨i64_room (by simp; omega), i64_room (by simp; omega), i64_room (by simp; omega), i64_room (by simp; omega), ?_⟩
  have e2 : (⟨#[115, 58]⟩ : ByteArray) ++ ⟨(Lib.itoa s.size).toArray⟩ ++ ⟨#[58]⟩ ++ s ++ ⟨#[59]⟩ = ⟨(flatSer k n s).toArray⟩ := by
    rw [e0, bytes_add, bytes_add, bytes_addS, bytes_add]
  exact ⟨by rw [← e2], e1⟩
def SerS (v : V) : Prop := v.ok → v.bulk ≤ 274877906944 → ∀ (h : Hp) (sl : Value), RdE h v.items sl → ACalls Tryd.prog 12 #[.agg #[.int .i64 v.kind, .int .i64 v.num, .string v.str, .int .i64 v.next, sl]] h (Is (.string ⟨v.ser.toArray⟩) h)
theorem sSer : ∀ v, SerS v := V.ind fun v ih => by
  intro ok hbk h sl rd
  have hB := V.bulk_eq v
  by_cases hk : 0 ≤ v.kind ∧ v.kind ≤ 3
  · rw [V.ser_eq, if_pos hk]
    exact sSerFlat _ _ _ _ _ hk (V.ok_num ok) (by omega) h
  rw [V.ser_eq, if_neg hk]
  have hlen := V.bulks_len v.items
  obtain ⟨a, c, xs, rfl, hc, hr, hat⟩ := rd.rows (by decide) v.items.length (fm_len edt_len _)
  have d0 : decide (v.kind = 0) = false := decide_eq_false (by omega)
  have d1 : decide (v.kind = 1) = false := decide_eq_false (by omega)
  have d2 : decide (v.kind = 2) = false := decide_eq_false (by omega)
  have d3 : decide (v.kind = 3) = false := decide_eq_false (by omega)
  have hq1 := i64_nat2 (n := v.items.length) (by omega)
  have hi := itoa_le21 hq1
  have hi2 := itoa_le21 (V.ok_next ok)
  (refine enter Tryd.func12 rfl rfl (by kernel_rfl) [] ?_; simp only [go_sem, Nat.reduceBEq])
  simp only [d0, d1, d2, d3, go_sem, Nat.reduceBEq]
  refine regionD_intro (lb := [36, 42]) (by kernel_rfl) ?_
  simp only [go_sem, Nat.reduceBEq]
  refine (sFormatInt v.items.length hq1 _).mono ?_
  rintro _ h1 ⟨rfl, e1⟩
  simp only [go_sem, Nat.reduceBEq]
  refine ⟨i64_room (by simp; omega), i64_room (by simp; omega), ?_⟩
  refine (sFormatInt v.next (V.ok_next ok) _).mono ?_
  rintro _ h2 ⟨rfl, e2⟩
  simp only [go_sem, Nat.reduceBEq]
  refine ⟨i64_room (by simp; omega), i64_room (by simp; omega), ?_⟩
  rw [show (⟨#[97, 58]⟩ : ByteArray) ++ ⟨(Lib.itoa v.items.length).toArray⟩ ++ ⟨#[58]⟩ ++ ⟨(Lib.itoa v.next).toArray⟩ ++ ⟨#[123]⟩ = ⟨([97, 58] ++ Lib.itoa v.items.length ++ [58] ++ Lib.itoa v.next ++ [123]).toArray⟩ by rw [bytes_add, bytes_add, bytes_add, bytes_add]]
  generalize hhd : [97, 58] ++ Lib.itoa v.items.length ++ [58] ++ Lib.itoa v.next ++ [123] = hd
  have hhl : hd.length ≤ 50 := by rw [← hhd]; simp only [List.length_append, List.length_cons, List.length_nil]; omega
  refine aloop (ι := Nat) (fun i => [(4, .val (.int .i64 (i : Nat))), (3, .val (.string ⟨(hd ++ serEs (v.items.take i)).toArray⟩)), (1, .box 1 0)]) (fun _ => [(1, [.int .i64 v.kind, .int .i64 v.num, .string v.str, .int .i64 v.next, .slice a v.items.length c])]) (fun i h' => i ≤ v.items.length ∧ Ext h h') (fun i => v.items.length - i) 0
    ⟨Nat.zero_le _, e1.trans e2⟩ (by rw [List.take_zero, serEs_nil, List.append_nil]; exact (by repeat (first | exact wkF_e | refine wkF_c rfl ?_))) (wkB_c rfl wkB_e) rfl ?_
  rintro i h4 ⟨hi, e4⟩
  have hi : i ≤ v.items.length := hi
  have e4 : Ext h h4 := e4
  have ht := serEs_take (V.ok_items ok) i
  simp only [go_sem, Nat.reduceBEq]
  refine Br.intro (fun hb => ?_) (fun hb => ?_) <;> (try simp only [hb, go_sem, Nat.reduceBEq])
  · have hb : i < v.items.length := by simpa using hb
    obtain ⟨b, off, rfl, hat'⟩ := hat (by omega)
    obtain ⟨e, he, hm⟩ := get_lt hb
    have wsu := wrap_succ (i := i) (by omega)
    have hcut := bulks_cut he
    obtain ⟨oke, okv⟩ := V.oks_mem (V.ok_items ok) hm
    have hss := asV_str e.1
    have hks : (flatSer e.1.asV.kind e.1.asV.num e.1.asV.str).length ≤ e.1.str.size + 30 := kser_len oke
    have hvs := ser_len e.2 okv
    refine regionD_still (lb := [55, 64]) (pl := [68]) h e4 (by kernel_rfl) ?_
    simp only [ix_nat hb, go_sem, Nat.reduceBEq]
    refine hsem_ekey tyS48 (hat'.mono e4) (hr.mono e4) he rfl ?_
    simp only [go_sem, Nat.reduceBEq]
    (refine (sKeyVal e.1 _).mono ?_; rintro _ _ ⟨rfl, rfl⟩; simp only [go_sem, Nat.reduceBEq])
    refine ⟨e4, ?_⟩
    refine (sSerFlat _ _ _ _ _ (asV_kind e.1) (asV_num oke) (by omega) _).mono ?_
    rintro _ h5 ⟨rfl, e5⟩
    simp only [ix_nat hb, go_sem, Nat.reduceBEq, Nat.reduceAdd]
    refine ⟨e4.trans e5, i64_room (by simp only [List.size_toArray, List.length_append]; omega), ?_⟩
    refine hsem_eval tyS30 hat' hr he rfl fun s2 rd2 => ?_
    obtain ⟨a2, c2, _, rfl, _⟩ := rd2.rows (by decide) e.2.items.length (fm_len edt_len _)
    simp only [go_sem, Nat.reduceBEq]
    refine (ih e hm okv (by omega) _ _ (rd2.mono (e4.trans e5))).mono ?_
    rintro _ h6 ⟨rfl, e6⟩
    simp only [wsu, go_sem, Nat.reduceBEq]
    refine ⟨(e4.trans e5).trans e6, i64_room (by simp only [List.size_toArray, List.length_append]; omega), ?_⟩
    have hcat : (⟨(hd ++ serEs (v.items.take i)).toArray⟩ : ByteArray) ++ ⟨(flatSer e.1.asV.kind e.1.asV.num e.1.asV.str).toArray⟩ ++ ⟨e.2.ser.toArray⟩ = ⟨(hd ++ serEs (v.items.take (i + 1))).toArray⟩ := by
      rw [bytes_add, bytes_add, serEs_snoc he]
      unfold Ky.ser
      simp only [List.append_assoc]
    rw [hcat]
    exact Again.intro (i + 1) (by first | omega | (simp only; omega)) ⟨hb, (e4.trans e5).trans e6⟩ (by repeat (first | exact wkF_e | refine wkF_c rfl ?_)) (wkB_c rfl wkB_e) rfl
  · have hb : i = v.items.length := by simp at hb; omega
    subst hb
    have hbt : V.bulks (v.items.take v.items.length) = V.bulks v.items := by rw [List.take_length]
    rw [List.take_length] at ht
    rw [List.take_length]
    refine ⟨i64_room (by simp only [List.size_toArray, List.length_append, List.length_cons, List.length_nil]; omega), ?_⟩
    subst hhd
    exact ⟨by rw [bytes_add]; simp only [List.append_assoc, List.cons_append, List.nil_append], e4⟩
theorem sSerialize (v : V) (ok : v.ok) (hb : v.bulk ≤ 1073741824) (sl : Value) (h : Hp) (rd : RdE h v.items sl) :
    ACalls Tryd.prog 5 #[.agg #[.int .i64 v.kind, .int .i64 v.num, .string v.str, .int .i64 v.next, sl]] h (Is (.tuple #[.string (serOf v).1, .bool (serOf v).2]) h) := by
  (refine enter Tryd.func5 rfl rfl (by kernel_rfl) [] ?_; simp only [go_sem, Nat.reduceBEq, Nat.reduceAdd, Nat.reduceLeDiff])
  obtain ⟨a, c, xs, rfl, hc, hr, hat⟩ := rd.rows (by decide) v.items.length (fm_len edt_len _)
  refine (sIsValue v (by omega) _ _ rd).mono ?_
  rintro _ h1 ⟨rfl, e1⟩
  simp only [go_sem, Nat.reduceBEq]
  by_cases hv : v.valid = true
  case neg =>
    have hv : v.valid = false := by simpa using hv
    simp only [hv, go_sem, Nat.reduceBEq]
    exact ⟨by unfold serOf; simp [hv], e1⟩
  simp only [hv, go_sem, Nat.reduceBEq, Nat.reduceAdd, Nat.reduceLeDiff]
  (refine (sPlain v (by omega) _ _ (rd.mono e1)).mono ?_; rintro _ _ ⟨rfl, rfl⟩; simp only [go_sem, Nat.reduceBEq])
  by_cases hp : v.plain = true
  case neg =>
    have hp : v.plain = false := by simpa using hp
    simp only [hp, go_sem, Nat.reduceBEq]
    exact ⟨by unfold serOf; simp [hp], e1⟩
  simp only [hp, go_sem, Nat.reduceBEq, Nat.reduceAdd, Nat.reduceLeDiff]
  refine (sSer v ok (by omega) h1 _ (rd.mono e1)).mono ?_
  rintro _ h2 ⟨rfl, e2⟩
  simp only [go_sem, Nat.reduceBEq]
  exact ⟨by unfold serOf; simp [hv, hp], e1.trans e2⟩
end Go.Proofs.YtpfongmnmcmnaaaDoor
