/-
  The statement FnExactCountRefs is proved: for each argument the law returns true; nothing is assumed.
-/
import Derived.Test.YtpelbeoapmbloaaRowEntryS
import Derived.Test.YtpelbeoapmbloaaSxDataT
import Derived.Test.YtpelbeoapmbloaaFacts
import Derived.Test.YtpelbeoapmbloaaSxLaw
import Derived.Test.YtpelbeoapmbloaaValEq
import Derived.Test.YtpelbeoapmbloaaValSz
import Derived.Test.YtpelbeoapmbloaaSxOpen
import Derived.Test.YtpelbeoapmbloaaSxTab
import Derived.Test.YtpelbeoapmbloaaRefs
import Derived.Test.YtpelbeoapmbloaaHpM
namespace Go.Proofs.Ytpelbeoapmbloaa
set_option maxRecDepth 8000
open Go Go.Sx
theorem markValueS_c (l : List (V)) (k : Nat) (hk : k + cntG cV l ≤ 4611686018427387904) (sl : Value) (bag : Bag) (h0 h : Hp) (m : My h0 h ((.row 5 (l.flatMap V.dt), sl) :: bag)) :
    ACalls Try.prog 24 #[sl, .int .i64 (k : Nat)] h fun v h' => v = .int .i64 ((k + cntG cV l : Nat)) ∧ My h0 h' ((.row 5 ((mkG cV mkV1 l k).flatMap V.dt), sl) :: bag) := by
  obtain ⟨a, c, rfl, hc, hcm, hat⟩ := m.row_shape (by decide) l.length (fm_len V.dt_len l)
  have hlm : l.length ≤ maxLen := Nat.le_trans hc hcm
  (refine enter Try.func24 rfl rfl (by kernel_rfl) [] ?_; simp only [go_sem])
  refine aloop (ι := Nat) (fun i => [(5, .val (.int .i64 (i : Nat))), (1, .val (.int .i64 ((k + cntG cV (l.take i) : Nat)))), (0, .val (.slice a l.length c))]) (fun _ => []) (fun i h' => i ≤ l.length ∧ My h0 h' ((.row 5 ((mkG cV mkV1 (l.take i) k).flatMap V.dt ++ (l.drop i).flatMap V.dt), .slice a l.length c) :: bag)) (fun i => l.length - i) 0
    ⟨Nat.zero_le _, m⟩ (by repeat (first | exact wkF_e | refine wkF_c rfl ?_)) wkB_e rfl ?_
  rintro i h1 ⟨hi, m1⟩
  have hi : i ≤ l.length := hi
  simp only [go_sem, Nat.reduceBEq]
  refine Br.intro (fun hb => ?_) (fun hb => ?_) <;> (try simp only [hb, go_sem, Nat.reduceBEq])
  · have hb : i < l.length := by simpa using hb
    obtain ⟨b, rfl⟩ := hat (by omega)
    have hpos : 0 < l.length := by omega
    obtain ⟨e, he, hm⟩ := get_lt hb
    have hsn := cntG_snoc (c := cV) he
    rw [cV] at hsn
    have hms := mkG_snoc (c := cV) (m := mkV1) he k
    have hle := cntG_le (c := cV) he
    rw [cV] at hle
    have hA : ((mkG cV mkV1 (l.take i) k).flatMap V.dt).length = i * 5 := by rw [fm_len V.dt_len, mkG_len, List.length_take]; congr 1; omega
    have m1 : My h0 h1 ((.row 5 ((mkG cV mkV1 (l.take i) k).flatMap V.dt ++ (l.drop i).flatMap V.dt), .slice (some ⟨b, 0, none⟩) l.length c) :: bag) := m1
    rw [drop_cons he, List.flatMap_cons, V.dt_eq] at m1
    have fin : ∀ h' , My h0 h' ((.row 5 ((mkG cV mkV1 (l.take i) k).flatMap V.dt ++ (V.dt (mkV1 (k + cntG cV (l.take i)) e) ++ (l.drop (i + 1)).flatMap V.dt)), .slice (some ⟨b, 0, none⟩) l.length c) :: bag) → My h0 h' ((.row 5 ((mkG cV mkV1 (l.take (i + 1)) k).flatMap V.dt ++ (l.drop (i + 1)).flatMap V.dt), .slice (some ⟨b, 0, none⟩) l.length c) :: bag) := fun h' m => by
      rw [hms, List.flatMap_append, List.flatMap_cons, List.flatMap_nil, List.append_nil, List.append_assoc]; exact m
    rw [V.dt_eq] at fin
    have hq0 : k + cntG cV (l.take i) ≤ 4611686018427387904 := by omega
    generalize hq : k + cntG cV (l.take i) = q at *
    generalize (mkG cV mkV1 (l.take i) k).flatMap V.dt = A at *
    generalize hR : (l.drop (i + 1)).flatMap V.dt = R at *
    have wq0 : IntKind.i64.wrap (((q : Nat) : Int) + 1) = ((q + 1 : Nat) : Int) := by rw [IntWalk.i64_in _ (by omega)]; rfl
    have wq1 : IntKind.i64.wrap (((q + 1 : Nat) : Int) + 1) = ((q + 2 : Nat) : Int) := by rw [IntWalk.i64_in _ (by omega)]; rfl
    have wq2 : IntKind.i64.wrap (((q + 2 : Nat) : Int) + 1) = ((q + 3 : Nat) : Int) := by rw [IntWalk.i64_in _ (by omega)]; rfl
    have wq3 : IntKind.i64.wrap (((q + 3 : Nat) : Int) + 1) = ((q + 4 : Nat) : Int) := by rw [IntWalk.i64_in _ (by omega)]; rfl
    have wsu := wrap_succ (i := i) (by unfold maxLen at hlm; omega)
    simp only [ix_nat hb, go_sem, Nat.reduceBEq]
    refine hsem_my_cell (A := A) (R := R) (j := 0) tyS3 rfl m1 hpos (Nat.le_of_ble_eq_true rfl) rfl rfl (by omega) fun h2 m2 => ?_
    simp only [ix_nat hb, wq0, go_sem, Nat.reduceBEq]
    refine hsem_my_cell (A := A) (R := R) (j := 1) tyS3 rfl m2 hpos (Nat.le_of_ble_eq_true rfl) rfl rfl (by omega) fun h3 m3 => ?_
    simp only [wq1, go_sem, Nat.reduceBEq]
    refine (markText_c (q + 2) (by omega) _).mono ?_
    rintro _ h4 ⟨rfl, x4⟩
    have m4 := m3.mono x4
    simp only [ix_nat hb, go_sem, Nat.reduceBEq, Nat.reduceAdd]
    refine hsem_my_cell (A := A) (R := R) (j := 2) tyS9 rfl m4 hpos (Nat.le_of_ble_eq_true rfl) rfl rfl (by omega) fun h5 m5 => ?_
    simp only [ix_nat hb, wq2, go_sem, Nat.reduceBEq, Nat.reduceAdd]
    refine hsem_my_cell (A := A) (R := R) (j := 3) tyS3 rfl m5 hpos (Nat.le_of_ble_eq_true rfl) rfl rfl (by omega) fun h6 m6 => ?_
    simp only [ix_nat hb, wq3, go_sem, Nat.reduceBEq, Nat.reduceAdd]
    obtain ⟨u4, m7⟩ := m6.openAt (A := A) (R := R) (j := 4) rfl
    refine hsem_my_get (A := A) (R := R) (j := 4) tyS27 m7.swap hpos (d := .raw u4) rfl (by omega) fun u' hu' => ?_
    obtain ⟨rfl, _⟩ := Rd_raw.1 hu'
    simp only [go_sem, Nat.reduceBEq]
    refine (markEntryS_c (e.items) (q + 4) (by omega) _ _ _ _ m7).mono ?_
    rintro _ h7 ⟨rfl, m8⟩
    have m9 := m8.closeAt (A := A) (R := R) (j := 4) rfl
    generalize hq4 : q + 4 + cntEs (e.items) = q4 at *
    simp only [go_sem, Nat.reduceBEq]
    rw [wsu]
    have hend : k + cntG cV (l.take (i + 1)) = q4 := by omega
    refine Again.intro (i + 1) (by first | omega | (simp only; omega)) ⟨hb, ?_⟩ (by simp only [hend]; exact (by repeat (first | exact wkF_e | refine wkF_c rfl ?_))) wkB_e rfl
    have m10 := fin _ m9
    rw [← hR] at m10
    exact m10
  · have hb : i = l.length := by simp at hb; omega
    subst hb
    have m1 : My h0 h1 ((.row 5 ((mkG cV mkV1 (l.take l.length) k).flatMap V.dt ++ (l.drop l.length).flatMap V.dt), .slice a l.length c) :: bag) := m1
    rw [List.take_length, List.drop_length, List.flatMap_nil, List.append_nil] at m1
    rw [List.take_length]
    exact ⟨rfl, m1⟩
end Go.Proofs.Ytpelbeoapmbloaa
namespace Go.Proofs.Ytpelbeoapmbloaa
set_option maxRecDepth 8000
open Go Go.Sx
def EqValue (e : V) : Prop := ∀ (h : Hp) (ys zs : List Value), RdL h (V.dt e) ys → RdL h (V.dt e) zs → ACalls Try.prog 9 #[.agg ys.toArray, .agg zs.toArray] h (Pu (.bool true) h)
theorem eqValueS_s (l : List (V)) (ih : ∀ e ∈ l, EqValue e) (hl : l.length ≤ 4611686018427387904) (s1 s2 : Value) (h : Hp) (r1 : Rd h (.row 5 (l.flatMap V.dt)) s1) (r2 : Rd h (.row 5 (l.flatMap V.dt)) s2) :
    ACalls Try.prog 22 #[s1, s2] h (Pu (.bool true) h) := by
  obtain ⟨a1, c1, xs1, rfl, hc1, hr1, hat1⟩ := r1.rows (by decide) l.length (fm_len V.dt_len l)
  obtain ⟨a2, c2, xs2, rfl, hc2, hr2, hat2⟩ := r2.rows (by decide) l.length (fm_len V.dt_len l)
  (refine enter Try.func22 rfl rfl (by kernel_rfl) [] ?_; simp only [go_sem, Nat.reduceBEq])
  refine aloop (ι := Nat) (fun i => [(5, .val (.int .i64 (i : Nat))), (0, .val (.slice a1 l.length c1)), (1, .val (.slice a2 l.length c2))]) (fun _ => []) (fun i h' => i ≤ l.length ∧ h' = h) (fun i => l.length - i) 0 ⟨Nat.zero_le _, rfl⟩ (by repeat (first | exact wkF_e | refine wkF_c rfl ?_)) wkB_e rfl ?_
  rintro i _ ⟨hi, rfl⟩
  simp only [go_sem, Nat.reduceBEq]
  refine Br.intro (fun hb => ?_) (fun hb => ?_) <;> (try simp only [hb, go_sem, Nat.reduceBEq])
  · have hb : i < l.length := by simpa using hb
    obtain ⟨b1, o1, rfl, hat1'⟩ := hat1 (by omega)
    obtain ⟨b2, o2, rfl, hat2'⟩ := hat2 (by omega)
    obtain ⟨e, he, hm⟩ := get_lt hb
    have wsu := wrap_succ (i := i) (by omega)
    refine regionD_intro (lb := []) (by kernel_rfl) ?_
    simp only [ix_nat hb, go_sem, Nat.reduceBEq]
    refine hsem_row (f := V.dt) (o := 0) (ds := V.dt e) V.dt_len tyS29 hat1' hr1 he (Nat.le_refl _) (by rw [List.drop_zero, List.take_of_length_le (Nat.le_of_eq (V.dt_len e))]) ?_ fun ys1 q1 => ?_
    · omega
    simp only [ix_nat hb, go_sem, Nat.reduceBEq]
    refine hsem_row (f := V.dt) (o := 0) (ds := V.dt e) V.dt_len tyS29 hat2' hr2 he (Nat.le_refl _) (by rw [List.drop_zero, List.take_of_length_le (Nat.le_of_eq (V.dt_len e))]) ?_ fun ys2 q2 => ?_
    · omega
    simp only [go_sem, Nat.reduceBEq]
    (refine (ih e hm _ _ _ q1 q2).mono ?_; rintro _ _ ⟨rfl, rfl⟩; simp only [go_sem, Nat.reduceBEq])
    simp only [wsu, go_sem]
    exact Again.intro (i + 1) (by first | omega | (simp only; omega)) ⟨hb, rfl⟩ (by repeat (first | exact wkF_e | refine wkF_c rfl ?_)) wkB_e rfl
  · exact ⟨rfl, rfl⟩
def ToValue (e : V) : Prop := ∀ (h : Hp) (ys : List Value), RdL h (V.dt e) ys → ACalls Try.prog 44 #[.agg ys.toArray] h fun u h' => ∃ us, u = .agg us.toArray ∧ us.length = 5 ∧ My h h' ((V.dt e).zip us)
theorem toValueS_s (l : List (V)) (ih : ∀ e ∈ l, ToValue e) (hl : l.length ≤ 1048576) (sl : Value) (h : Hp) (rd : Rd h (.row 5 (l.flatMap V.dt)) sl) :
    ACalls Try.prog 18 #[sl] h fun u h' => My h h' [(.row 5 (l.flatMap V.dt), u)] := by
  obtain ⟨a, c, xs, rfl, hc, hr, hat⟩ := rd.rows (by decide) l.length (fm_len V.dt_len l)
  (refine enter Try.func18 rfl rfl (by kernel_rfl) [] ?_; simp only [go_sem, Nat.reduceBEq])
  refine hsem_my_make slT51 (by decide) rfl rfl hl (by decide) (My.nil (Ext.refl h)) fun bo h1 m1 => ?_
  simp only [go_sem, Nat.reduceBEq]
  generalize hzz : SlT.zero _ = zz at m1
  refine aloop (ι := Nat) (fun i => [(4, .val (.int .i64 (i : Nat))), (3, .val (.slice (some ⟨bo, 0, none⟩) l.length l.length)), (0, .val (.slice a l.length c))]) (fun _ => []) (fun i h' => i ≤ l.length ∧ My h h' [(.row 5 ((l.take i).flatMap V.dt ++ zeros zz (l.length - i)), .slice (some ⟨bo, 0, none⟩) l.length l.length)]) (fun i => l.length - i) 0
    ⟨Nat.zero_le _, m1⟩ (by repeat (first | exact wkF_e | refine wkF_c rfl ?_)) wkB_e rfl ?_
  rintro i h2 ⟨hi, m2⟩
  have hi : i ≤ l.length := hi
  have m2 : My h h2 [(.row 5 ((l.take i).flatMap V.dt ++ zeros zz (l.length - i)), .slice (some ⟨bo, 0, none⟩) l.length l.length)] := m2
  simp only [go_sem, Nat.reduceBEq]
  refine Br.intro (fun hb => ?_) (fun hb => ?_) <;> (try simp only [hb, go_sem, Nat.reduceBEq])
  · have hb : i < l.length := by simpa using hb
    obtain ⟨b, o, rfl, hat'⟩ := hat (by omega)
    have hat2 := hat'.mono m2.ext
    have hr2 := hr.mono m2.ext
    obtain ⟨e, he, hm⟩ := get_lt hb
    have wsu := wrap_succ (i := i) (by omega)
    simp only [ix_nat hb, go_sem, Nat.reduceBEq]
    refine hsem_row (f := V.dt) (o := 0) (ds := V.dt e) V.dt_len tyS79 hat2 hr2 he (Nat.le_refl _) (by rw [List.drop_zero, List.take_of_length_le (Nat.le_of_eq (V.dt_len e))]) ?_ fun ys1 q1 => ?_
    · omega
    simp only [go_sem, Nat.reduceBEq]
    refine (ih e hm _ _ q1).mono ?_
    rintro _ h3 ⟨us, rfl, hus, n3⟩
    simp only [ix_nat hb, go_sem, Nat.reduceBEq]
    have m3 := m2.add n3
    rw [zeros_sub zz hb] at m3
    refine hsem_my_put tyS29 m3 (by omega) (by rw [List.length_map, ← hzz]; rfl) (V.dt_len e) hus ?_ fun h4 m4 => ?_
    · rw [fm_len V.dt_len, List.length_take, Nat.min_eq_left hi]
    simp only [wsu, go_sem, Nat.reduceBEq]
    refine Again.intro (i + 1) (by first | omega | (simp only; omega)) ⟨hb, ?_⟩ (by repeat (first | exact wkF_e | refine wkF_c rfl ?_)) wkB_e rfl
    rw [take_snoc he, List.flatMap_append, List.flatMap_cons, List.flatMap_nil, List.append_nil, List.append_assoc]
    exact m4
  · have hb : i = l.length := by simp at hb; omega
    subst hb
    rw [List.take_length, Nat.sub_self] at m2
    simpa [zeros] using m2
end Go.Proofs.Ytpelbeoapmbloaa
namespace Go.Proofs.Ytpelbeoapmbloaa
set_option maxRecDepth 8000
open Go Go.Sx
theorem vsz_in {l : List V} {e : V} (h : e ∈ l) : e.bulk ≤ szG V.bulk l := by have := gsum_mem (w := V.bulk) h; unfold szG; omega
theorem toValueS_c (l : List V) (hb : szG V.bulk l ≤ 1048576) (sl : Value) (h : Hp) (rd : Rd h (.row 5 (l.flatMap V.dt)) sl) :
    ACalls Try.prog 18 #[sl] h fun u h' => My h h' [(.row 5 (l.flatMap V.dt), u)] := by
  refine toValueS_s l (fun e he h ys r => ?_) (by unfold szG at hb; omega) sl h rd
  have hbe := vsz_in he
  obtain ⟨s1, rfl, q1⟩ := RdL_val r
  refine (toV_c e (by omega) h s1 q1).mono ?_
  rintro _ h2 ⟨a, c, rfl, m⟩
  refine ⟨_, rfl, rfl, ?_⟩
  simp only [V.dt_eq, List.zip_cons_cons, List.zip_nil_right, My.raw_iff, one_int, one_str, and_self, true_and]
  exact m
theorem eqValueS_c (l : List V) (hb : szG V.bulk l ≤ 1048576) (s1 s2 : Value) (h : Hp) (r1 : Rd h (.row 5 (l.flatMap V.dt)) s1) (r2 : Rd h (.row 5 (l.flatMap V.dt)) s2) :
    ACalls Try.prog 22 #[s1, s2] h (Pu (.bool true) h) := by
  refine eqValueS_s l (fun e he h ys zs q1 q2 => ?_) (by unfold szG at hb; omega) s1 s2 h r1 r2
  have hbe := vsz_in he
  exact eqVal_c e (by omega) h ys zs q1 q2
end Go.Proofs.Ytpelbeoapmbloaa
namespace Go.Proofs.Ytpelbeoapmbloaa
set_option maxRecDepth 8000
open Go Go.Sx
def SzValue (e : V) : Prop := ∀ (ys : List Value) (l : Int) (h : Hp), RdL h (V.dt e) ys → 0 ≤ l → l ≤ 1048576 → ACalls Try.prog 41 #[.agg ys.toArray, .int .i64 l] h (Pu (.int .i64 (less l (V.bulk e))) h)
theorem szValueS_s (es : List V) (ih : ∀ e ∈ es, SzValue e) (hl : es.length ≤ maxLen) (sl : Value) (l : Int) (h : Hp) (rd : Rd h (.row 5 (es.flatMap V.dt)) sl) (l0 : 0 ≤ l) (l1 : l ≤ 1048576) :
    ACalls Try.prog 15 #[sl, .int .i64 l] h (Pu (.int .i64 (less l (szG V.bulk es))) h) := by
  obtain ⟨a, c, xs, rfl, hc, hr, hat⟩ := rd.rows (by decide) es.length (fm_len V.dt_len es)
  (refine enter Try.func15 rfl rfl (by kernel_rfl) [] ?_; simp only [go_sem, Nat.reduceBEq])
  simp only [less_wrap l0 l1 hl, go_sem]
  refine Br.intro (fun hb => ?_) (fun hb => ?_) <;> (try simp only [hb, go_sem, Nat.reduceBEq])
  · have hb : l - (es.length : Int) < 0 := by simpa using hb
    exact ⟨by unfold szG; rw [less_neg (by unfold less; split <;> omega)], rfl⟩
  · have hb : ¬ l - (es.length : Int) < 0 := by simpa using hb
    have e0 : l - (es.length : Int) = less l (es.length + gsum V.bulk (es.take 0)) := by unfold less; simp [gsum]; omega
    rw [e0]
    refine aloop (ι := Nat) (fun i => [(5, .val (.int .i64 (i : Nat))), (1, .val (.int .i64 (less l (es.length + gsum V.bulk (es.take i))))), (0, .val (.slice a es.length c))]) (fun _ => []) (fun i h' => i ≤ es.length ∧ 0 ≤ less l (es.length + gsum V.bulk (es.take i)) ∧ h = h') (fun i => es.length - i) 0
      ⟨Nat.zero_le _, by rw [← e0]; omega, rfl⟩ (by repeat (first | exact wkF_e | refine wkF_c rfl ?_)) wkB_e rfl ?_
    intro i h1 hx
    have hx : i ≤ es.length ∧ 0 ≤ less l (es.length + gsum V.bulk (es.take i)) ∧ h = h1 := hx
    have hi := hx.1
    have hf := hx.2.1
    have he := hx.2.2
    clear hx
    subst he
    simp only [go_sem, Nat.reduceBEq]
    refine Br.intro (fun hb => ?_) (fun hb => ?_) <;> (try simp only [hb, go_sem, Nat.reduceBEq])
    · have hb : i < es.length := by simpa using hb
      obtain ⟨b, off, rfl, hat'⟩ := hat (by omega)
      obtain ⟨e, he, hm⟩ := get_lt hb
      simp only [ix_nat hb, go_sem, Nat.reduceBEq]
      refine hsem_row (f := V.dt) (o := 0) (ds := V.dt e) V.dt_len tyS79 hat' hr he (Nat.le_refl _) (by rw [List.drop_zero, List.take_of_length_le (by rw [V.dt_len]; exact Nat.le_refl _)]) ?_ fun ys r1 => ?_
      · omega
      simp only [go_sem, Nat.reduceBEq]
      (refine (ih e hm _ _ _ r1 hf (less_le l1)).mono ?_; rintro _ _ ⟨rfl, rfl⟩; simp only [go_sem, Nat.reduceBEq])
      rw [less_add hf, Nat.add_assoc, ← gsum_snoc he]
      refine Br.intro (fun hc => ?_) (fun hc => ?_) <;> (try simp only [hc, go_sem, Nat.reduceBEq])
      · have hc : less l (es.length + gsum V.bulk (es.take (i + 1))) < 0 := by simpa using hc
        refine ⟨?_, rfl⟩
        unfold szG
        rw [gsum_split V.bulk es (i + 1), ← Nat.add_assoc, less_neg hc]
      · have hc : 0 ≤ less l (es.length + gsum V.bulk (es.take (i + 1))) := by simpa using hc
        rw [wrap_succ (i := i) (by unfold maxLen at hl; omega)]
        exact Again.intro (i + 1) (by first | omega | (simp only; omega)) ⟨hb, hc, rfl⟩ (by repeat (first | exact wkF_e | refine wkF_c rfl ?_)) wkB_e rfl
    · have hb : i = es.length := by simp at hb; omega
      subst hb
      refine ⟨?_, rfl⟩
      rw [List.take_length]
      rfl
theorem szValueS_c (es : List V) (ok : ∀ e ∈ es, e.ok) (hl : es.length ≤ maxLen) (sl : Value) (l : Int) (h : Hp) (rd : Rd h (.row 5 (es.flatMap V.dt)) sl) (l0 : 0 ≤ l) (l1 : l ≤ 1048576) :
    ACalls Try.prog 15 #[sl, .int .i64 l] h (Pu (.int .i64 (less l (szG V.bulk es))) h) := szValueS_s es (fun e he ys l h r l0 l1 => by obtain ⟨s, rfl, q⟩ := RdL_val r; exact szValue_c e (ok e he) s l h q l0 l1) hl sl l h rd l0 l1
end Go.Proofs.Ytpelbeoapmbloaa
namespace Go.Proofs.Ytpelbeoapmbloaa
set_option maxRecDepth 8000
open Go Go.Sx Go.ChangeShapes Go.WideShapes Go.RowKit Go.ChangeMaps
section
variable {H : Type} {enc : TypeId × Value → H} {w : World} {base : Nat} {sp : Nat → Bool} {held : Bool}
theorem openKey {n : Nat} {cs : List Value} {x : DataW H × List MemPlace} (h : DataW.trod enc Try.prog w base sp held n 90 cs = some x) : ∃ k : Ky, k.ok ∧ RdL (vis w) k.dt cs := by
  obtain ⟨hl, m, _, hf⟩ := trod_fields Try.underlying90 h
  have hl : cs.length = 3 := hl
  match cs, hl with
  | [c0, c1, c2], _ =>
    obtain ⟨y0, h0⟩ := hf 0 _ rfl
    obtain ⟨y1, h1⟩ := hf 1 _ rfl
    obtain ⟨y2, h2⟩ := hf 2 _ rfl
    obtain ⟨b, e0⟩ := trod_bool1 Try.underlying4 h0
    obtain ⟨k, e1, b1⟩ := trod_one Try.underlying3 h1
    obtain ⟨s, e2, _, b2⟩ := DataW.trod_string Try.underlying9 h2
    have e0 : [c0] = [.bool b] := e0
    have e1 : [c1] = [.int .i64 k] := e1
    have e2 : [c2] = [.string s] := e2
    cases e0; cases e1; cases e2
    exact ⟨⟨b, k, s⟩, ⟨b1, b2⟩, by simp only [Ky.dt, RdL_cc, Rd_raw, RdL_nil, true_and, and_true]; exact ⟨rfl, rfl, rfl⟩⟩
theorem openV_ : ∀ (n : Nat) {cs : List Value} {x : DataW H × List MemPlace}, DataW.trod enc Try.prog w base sp held n 79 cs = some x → ∃ v : V, v.ok ∧ RdL (vis w) v.dt cs := by
  intro n
  induction n using Nat.strongRecOn with
  | _ n ih =>
    intro cs x h
    obtain ⟨hl, m, hm, hf⟩ := trod_fields Try.underlying79 h
    have hl : cs.length = 5 := hl
    match cs, hl with
    | [c0, c1, c2, c3, c4], _ =>
      obtain ⟨y0, h0⟩ := hf 0 _ rfl
      obtain ⟨y1, h1⟩ := hf 1 _ rfl
      obtain ⟨y2, h2⟩ := hf 2 _ rfl
      obtain ⟨y3, h3⟩ := hf 3 _ rfl
      obtain ⟨y4, h4⟩ := hf 4 _ rfl
      obtain ⟨k, e0, b0⟩ := trod_one Try.underlying3 h0
      obtain ⟨q, e1, b1⟩ := trod_one Try.underlying3 h1
      obtain ⟨s, e2, _, b2⟩ := DataW.trod_string Try.underlying9 h2
      obtain ⟨nx, e3, b3⟩ := trod_one Try.underlying3 h3
      have e0 : [c0] = [.int .i64 k] := e0
      have e1 : [c1] = [.int .i64 q] := e1
      have e2 : [c2] = [.string s] := e2
      have e3 : [c3] = [.int .i64 nx] := e3
      cases e0; cases e1; cases e2; cases e3
      obtain ⟨es, v, e4, hok, hlen, hrd⟩ := open_list (α := Ky × V) (f := edt) (ok := fun e => e.1.ok ∧ e.2.ok) (z := 8) Try.underlying77 (by kernel_rfl) (by decide) (fun n' cs' x' hn' h' => by
        obtain ⟨hl', m', hm', hf'⟩ := trod_fields Try.underlying109 h'
        obtain ⟨z0, g0⟩ := hf' 0 _ rfl
        obtain ⟨z1, g1⟩ := hf' 1 _ rfl
        have hl' : cs'.length = 8 := hl'
        obtain ⟨ky, ko, kr⟩ := openKey g0
        obtain ⟨v', vo, vr⟩ := ih m' (by omega) g1
        have kr : RdL (vis w) ky.dt (cs'.take 3) := kr
        have vr : RdL (vis w) v'.dt ((cs'.drop 3).take 5) := vr
        refine ⟨(ky, v'), ⟨ko, vo⟩, ?_⟩
        have : cs' = cs'.take 3 ++ (cs'.drop 3).take 5 := by
          rw [List.take_of_length_le (l := cs'.drop 3) (by rw [List.length_drop]; omega), List.take_append_drop]
        rw [this]
        exact kr.append vr) h4
      have e4 : [c4] = [v] := e4
      cases e4
      refine ⟨⟨k, q, s, nx, es⟩, ?_, ?_⟩
      · simp only [V.ok]
        refine ⟨b0, b1, b2, b3, hlen, ?_⟩
        have : ∀ l : List (Ky × V), (∀ e ∈ l, e.1.ok ∧ e.2.ok) → V.oks l := by
          intro l
          induction l with
          | nil => intro _; simp only [V.oks]
          | cons e r ihl =>
            intro hall
            obtain ⟨ky, v'⟩ := e
            have := hall (ky, v') (by simp)
            simp only [V.oks]
            exact ⟨this.1.1, this.1.2, this.2, ihl fun e he => hall e (by simp [he])⟩
        exact this es hok
      · exact RdL_val_mk (v := ⟨k, q, s, nx, es⟩) hrd
theorem openV {v0 : Value} {d : DataW H} {ps : List MemPlace} {r : Reach} {b0 : Nat} (hval : Value.okWide Try.prog w r b0 79 v0) (h : DataW.Trod enc Try.prog w base sp held 79 v0 d ps) :
    ∃ (v : V) (sl : Value), v0 = .agg #[.int .i64 v.kind, .int .i64 v.num, .string v.str, .int .i64 v.next, sl] ∧ v.ok ∧ RdE (vis w) v.items sl := by
  obtain ⟨n, h⟩ := h
  obtain ⟨v, hok, hr⟩ := openV_ n h
  obtain ⟨sl, he, hs⟩ := RdL_val hr
  unfold Value.okWide at hval
  rw [Try.underlying79] at hval
  obtain ⟨cs, rfl, _⟩ := hval
  refine ⟨v, sl, ?_, hok, hs⟩
  have : cs.toList = _ := he
  rw [← this]
theorem openValueS {v0 : Value} {d : DataW H} {ps : List MemPlace} (h : DataW.Trod enc Try.prog w base sp held 43 v0 d ps) (h1 : oneCell v0 = true) :
    ∃ (l : List V), (∀ k ∈ l, k.ok) ∧ l.length ≤ maxLen ∧ Rd (vis w) (.row 5 (l.flatMap V.dt)) v0 := by
  obtain ⟨n, h⟩ := h
  obtain ⟨l, v, e, hok, hlen, hrd⟩ := open_list (α := V) (f := V.dt) (ok := V.ok) (z := 5) Try.underlying43 (by kernel_rfl) (by decide) (fun n' cs' x' _ h' => openV_ n' h') h
  have : v0 = v := by cases v0 <;> first | (simp [Value.cells] at e; exact e) | (simp [oneCell] at h1)
  subst this
  exact ⟨l, hok, hlen, hrd⟩
end
end Go.Proofs.Ytpelbeoapmbloaa
namespace Go.Proofs.Ytpelbeoapmbloaa
set_option maxRecDepth 8000
open Go Go.Sx Go.ChangeShapes Go.WideShapes Go.RowKit Go.ChangeMaps
section
variable {H : Type} {enc : TypeId × Value → H} {w : World} {base : Nat} {sp : Nat → Bool} {held : Bool}
theorem openSl_ {n : Nat} {cs : List Value} {x : DataW H × List MemPlace} (h : DataW.trod enc Try.prog w base sp held n 92 cs = some x) : ∃ s : Sl, s.ok ∧ RdL (vis w) s.dt cs := by
  obtain ⟨hl, m, hm, hf⟩ := trod_fields Try.underlying92 h
  have hl : cs.length = 10 := hl
  obtain ⟨z0, g0⟩ := hf 0 _ rfl
  obtain ⟨z1, g1⟩ := hf 1 _ rfl
  obtain ⟨z2, g2⟩ := hf 2 _ rfl
  obtain ⟨z3, g3⟩ := hf 3 _ rfl
  obtain ⟨ky, ko, kr⟩ := openKey g0
  obtain ⟨v, vo, vr⟩ := openV_ _ g1
  obtain ⟨b, e2⟩ := trod_bool1 Try.underlying4 g2
  obtain ⟨k, e3, b3⟩ := trod_one Try.underlying3 g3
  have kr : RdL (vis w) ky.dt (cs.take 3) := kr
  have vr : RdL (vis w) v.dt ((cs.drop 3).take 5) := vr
  have e2 : (cs.drop 8).take 1 = [.bool b] := e2
  have e3 : (cs.drop 9).take 1 = [.int .i64 k] := e3
  refine ⟨⟨ky, v, b, k⟩, ⟨ko, vo, b3⟩, ?_⟩
  have e : cs = cs.take 3 ++ ((cs.drop 3).take 5 ++ [.bool b, .int .i64 k]) := by
    match cs, hl with
    | [c0, c1, c2, c3, c4, c5, c6, c7, c8, c9], _ =>
      simp at e2 e3
      subst e2
      subst e3
      rfl
  rw [e]
  unfold Sl.dt
  refine kr.append (vr.append ?_)
  simp only [RdL_cc, Rd_raw, RdL_nil, true_and, and_true]
  exact ⟨rfl, rfl⟩
theorem openTb_ {n : Nat} {cs : List Value} {x : DataW H × List MemPlace} (h : DataW.trod enc Try.prog w base sp held n 25 cs = some x) : ∃ t : Tb, t.ok ∧ RdL (vis w) t.dt cs := by
  obtain ⟨hl, m, hm, hf⟩ := trod_fields Try.underlying25 h
  have hl : cs.length = 5 := hl
  match cs, hl with
  | [c0, c1, c2, c3, c4], _ =>
    obtain ⟨y0, h0⟩ := hf 0 _ rfl
    obtain ⟨y1, h1⟩ := hf 1 _ rfl
    obtain ⟨y2, h2⟩ := hf 2 _ rfl
    obtain ⟨y3, h3⟩ := hf 3 _ rfl
    obtain ⟨y4, h4⟩ := hf 4 _ rfl
    obtain ⟨b, e0⟩ := trod_bool1 Try.underlying4 h0
    obtain ⟨nx, e3, b3⟩ := trod_one Try.underlying3 h3
    obtain ⟨ct, e4, b4⟩ := trod_one Try.underlying3 h4
    have e0 : [c0] = [.bool b] := e0
    have e3 : [c3] = [.int .i64 nx] := e3
    have e4 : [c4] = [.int .i64 ct] := e4
    cases e0; cases e3; cases e4
    obtain ⟨hs, v1, e1, hok, hlen, hrd⟩ := open_list (α := Int) (f := idt) (ok := fun n => IntKind.i64.min ≤ n ∧ n ≤ IntKind.i64.max) (z := 1) Try.underlying22 (by kernel_rfl) (by decide) (fun n' cs' x' _ h' => by
      obtain ⟨q, e, b⟩ := trod_one Try.underlying3 h'
      subst e
      refine ⟨q, b, ?_⟩
      simp only [idt, RdL_cc, Rd_raw, RdL_nil, true_and, and_true]
      rfl) h1
    have e1 : [c1] = [v1] := e1
    cases e1
    obtain ⟨ss, v2, e2, sok, slen, srd⟩ := open_list (α := Sl) (f := Sl.dt) (ok := Sl.ok) (z := 10) Try.underlying23 (by kernel_rfl) (by decide) (fun n' cs' x' _ h' => openSl_ h') h2
    have e2 : [c2] = [v2] := e2
    cases e2
    refine ⟨⟨b, hs, ss, nx, ct⟩, ⟨hok, sok, b3, b4, hlen, slen⟩, ?_⟩
    simp only [Tb.dt, RdL_cc, Rd_raw, RdL_nil, true_and, and_true]
    exact ⟨rfl, hrd, srd, rfl, rfl⟩
theorem openT {v0 : Value} {d : DataW H} {ps : List MemPlace} {r : Reach} {b0 : Nat} (hval : Value.okWide Try.prog w r b0 25 v0) (h : DataW.Trod enc Try.prog w base sp held 25 v0 d ps) :
    ∃ (t : Tb) (s u : Value), v0 = .agg #[.bool t.hashed, s, u, .int .i64 t.next, .int .i64 t.count] ∧ t.ok ∧ RdI (vis w) t.heads s ∧ RdT (vis w) t.slots u := by
  obtain ⟨n, h⟩ := h
  obtain ⟨t, hok, hr⟩ := openTb_ h
  obtain ⟨s, u, he, hs, hu⟩ := RdL_tab hr
  unfold Value.okWide at hval
  rw [Try.underlying25] at hval
  obtain ⟨cs, rfl, _⟩ := hval
  refine ⟨t, s, u, ?_, hok, hs, hu⟩
  have : cs.toList = _ := he
  rw [← this]
theorem openKey1 {v0 : Value} {d : DataW H} {ps : List MemPlace} {r : Reach} {b0 : Nat} (hval : Value.okWide Try.prog w r b0 90 v0) (h : DataW.Trod enc Try.prog w base sp held 90 v0 d ps) :
    ∃ k : Ky, v0 = .agg #[.bool k.text, .int .i64 k.num, .string k.str] ∧ k.ok := by
  obtain ⟨n, h⟩ := h
  obtain ⟨k, hok, hr⟩ := openKey h
  have he := RdL_key hr
  unfold Value.okWide at hval
  rw [Try.underlying90] at hval
  obtain ⟨cs, rfl, _⟩ := hval
  refine ⟨k, ?_, hok⟩
  have : cs.toList = _ := he
  rw [← this]
theorem openBk_ {n : Nat} {cs : List Value} {x : DataW H × List MemPlace} (h : DataW.trod enc Try.prog w base sp held n 98 cs = some x) : ∃ t : Bk, t.ok ∧ RdL (vis w) t.dt cs := by
  obtain ⟨hl, m, hm, hf⟩ := trod_fields Try.underlying98 h
  have hl : cs.length = 6 := hl
  obtain ⟨z0, g0⟩ := hf 0 _ rfl
  obtain ⟨z1, g1⟩ := hf 1 _ rfl
  obtain ⟨k, e0, b0⟩ := trod_one Try.underlying3 g0
  obtain ⟨t, tok, tr⟩ := openTb_ g1
  have e0 : (cs.drop 0).take 1 = [.int .i64 k] := e0
  have tr : RdL (vis w) t.dt ((cs.drop 1).take 5) := tr
  refine ⟨⟨k, t⟩, ⟨b0, tok⟩, ?_⟩
  have e : cs = .int .i64 k :: (cs.drop 1).take 5 := by
    match cs, hl with
    | [c0, c1, c2, c3, c4, c5], _ =>
      simp at e0
      subst e0
      rfl
  rw [e]
  unfold Bk.dt
  exact RdL_cc.2 ⟨Rd_raw.2 ⟨rfl, rfl⟩, tr⟩
theorem openH {v0 : Value} {d : DataW H} {ps : List MemPlace} {r : Reach} {b0 : Nat} (hval : Value.okWide Try.prog w r b0 42 v0) (h : DataW.Trod enc Try.prog w base sp held 42 v0 d ps) :
    ∃ (l : List Bk) (s : Value), v0 = .agg #[s] ∧ (∀ b ∈ l, b.ok) ∧ l.length ≤ maxLen ∧ RdB (vis w) l s := by
  obtain ⟨n, h⟩ := h
  unfold Value.okWide at hval
  rw [Try.underlying42] at hval
  obtain ⟨cs, rfl, _⟩ := hval
  obtain ⟨hl, m, hm, hf⟩ := trod_fields Try.underlying42 h
  have hl : cs.toList.length = 1 := hl
  obtain ⟨z0, g0⟩ := hf 0 _ rfl
  obtain ⟨l, v, e, hok, hlen, hrd⟩ := open_list (α := Bk) (f := Bk.dt) (ok := Bk.ok) (z := 6) Try.underlying40 (by kernel_rfl) (by decide) (fun n' cs' x' _ h' => openBk_ h') g0
  have e : (cs.toList.drop 0).take 1 = [v] := e
  have e2 : cs.toList = [v] := by rw [List.drop_zero, List.take_of_length_le (by omega)] at e; exact e
  refine ⟨l, v, ?_, hok, hlen, hrd⟩
  rw [← e2]
end
end Go.Proofs.Ytpelbeoapmbloaa
namespace Go.Proofs.Ytpelbeoapmbloaa
set_option maxRecDepth 8000
open Go Go.Sx Go.ChangeShapes Go.WideShapes Go.ChangeAt Go.RowKit Go.ChangeMaps
theorem own : ownKnob Try.prog.godebug = none := by kernel_rfl
theorem laidOut : laidOutB Try.prog = true := by kernel_rfl
theorem FnExactCountRefs_law (l : List Bk) (ok0 : ∀ b ∈ l, b.ok) (l0 : l.length ≤ maxLen) (s0 : Value) (rs : List V) (ok1 : ∀ k ∈ rs, k.ok) (l1 : rs.length ≤ maxLen) (s1 : Value) (h : Hp) (r0 : RdB h l s0) (r1 : Rd h (.row 5 (rs.flatMap V.dt)) s1) : ACalls Try.prog 4 #[.agg #[s0], s1] h (Is (.bool true) h) := by
  obtain ⟨sa0, sc0, _, rfl, _⟩ := r0.rows (by decide) l.length (fm_len Bk.dt_len _)
  obtain ⟨sa1, sc1, _, rfl, _⟩ := r1.rows (by decide) rs.length (fm_len V.dt_len _)
  (refine enter Try.func4 rfl rfl (by kernel_rfl) [] ?_; simp only [go_sem, Nat.reduceBEq, Nat.reduceLeDiff])
  (refine (szHeap_c l ok0 l0 _ _ _ r0 (by decide) (by decide)).mono ?_; rintro _ _ ⟨rfl, rfl⟩; simp only [go_sem, Nat.reduceBEq])
  refine Br.intro (fun hb => ?_) (fun hb => ?_) <;> (try simp only [hb, go_sem, Nat.reduceBEq])
  · exact ⟨rfl, Ext.refl _⟩
  have f : 0 ≤ less 1048576 (szG Bk.bulk l) := by simpa using hb
  (refine (szValueS_c rs ok1 l1 _ _ _ r1 f (less_le (by decide))).mono ?_; rintro _ _ ⟨rfl, rfl⟩; simp only [go_sem, Nat.reduceBEq])
  rw [less_add f]
  refine Br.intro (fun hb => ?_) (fun hb => ?_) <;> (try simp only [hb, go_sem, Nat.reduceBEq, Nat.reduceLeDiff])
  · exact ⟨rfl, Ext.refl _⟩
  have f : 0 ≤ less 1048576 ((szG Bk.bulk l) + szG V.bulk rs) := by simpa using hb
  have f : ((szG Bk.bulk l) + szG V.bulk rs) ≤ 1048576 := by unfold less at f; split at f <;> omega
  have hb0 : szG Bk.bulk l ≤ 1048576 := by omega
  have hC0 := cntB_bulk l
  have hb1 : szG V.bulk rs ≤ 1048576 := by omega
  have hC1 := cntV_bulk rs
  have hLn := szG_len (w := Bk.bulk) l
  have hLr := szG_len (w := V.bulk) rs
  have hW := counts_len l rs
  have hR0 := cntI_len (counts l rs)
  refine (toHeap_c l hb0 _ _ r0).mono ?_
  rintro _ h1 ⟨a1, c1, rfl, m1⟩
  have M1 := m1
  simp only [go_sem, Nat.reduceBEq]
  refine (toValueS_c rs hb1 _ _ (r1.mono M1.ext)).mono ?_
  rintro _ h2 m2
  obtain ⟨a2, c2, rfl, _⟩ := m2.row_shape (by decide) rs.length (fm_len V.dt_len _)
  have M2 := M1.add m2
  simp only [go_sem, Nat.reduceBEq]
  refine (sCountRefs l rs (by omega) (by omega) _ _ _ (M2.drop).rd M2.rd).mono ?_
  rintro _ h3 ⟨a3_0, c3_0,  rfl, m3⟩
  have M3 := M2.add m3
  simp only [go_sem, Nat.reduceBEq, Nat.reduceLeDiff]
  have M4 := M3.third
  have M5 := M4.drop
  have M6 := M5.swap
  have M7 := M6.drop
  refine (toHeap_c l hb0 _ _ (r0.mono M7.ext)).mono ?_
  rintro _ h8 ⟨a8, c8, rfl, m8⟩
  have M8 := M7.add m8
  simp only [go_sem, Nat.reduceBEq, Nat.reduceLeDiff]
  refine (toValueS_c rs hb1 _ _ (r1.mono M8.ext)).mono ?_
  rintro _ h9 m9
  obtain ⟨a9, c9, rfl, _⟩ := m9.row_shape (by decide) rs.length (fm_len V.dt_len _)
  have M9 := M8.add m9
  simp only [go_sem, Nat.reduceBEq, Nat.reduceLeDiff]
  refine (iCountRefs l rs (by omega) (by omega) _ _ _ (M9.drop).rd M9.rd).mono ?_
  rintro _ h10 ⟨a10_0, c10_0,  rfl, m10⟩
  have M10 := M9.add m10
  simp only [go_sem, Nat.reduceBEq]
  (refine (eqIntS_c (counts l rs) (by omega) _ _ _ M10.rd (M10.drop.drop.drop).rd).mono ?_; rintro _ _ ⟨rfl, rfl⟩; simp only [go_sem, Nat.reduceBEq])
  refine regionD_intro (lb := [40, 41]) (by kernel_rfl) ?_
  simp only [go_sem, Nat.reduceBEq, Nat.reduceLeDiff]
  refine (toHeap_c l hb0 _ _ (r0.mono M10.ext)).mono ?_
  rintro _ h11 ⟨a11, c11, rfl, m11⟩
  have M11 := M10.add m11
  simp only [go_sem, Nat.reduceBEq]
  (refine (eqHeap_c l (by omega) _ _ _ (M11.drop.drop.drop).rd M11.rd).mono ?_; rintro _ _ ⟨rfl, rfl⟩; simp only [go_sem, Nat.reduceBEq])
  have M12 := M11.drop
  refine (toValueS_c rs hb1 _ _ (r1.mono M12.ext)).mono ?_
  rintro _ h13 m13
  obtain ⟨a13, c13, rfl, _⟩ := m13.row_shape (by decide) rs.length (fm_len V.dt_len _)
  have M13 := M12.add m13
  simp only [go_sem, Nat.reduceBEq]
  (refine (eqValueS_c rs (by omega) _ _ _ (M13.drop.drop).rd M13.rd).mono ?_; rintro _ _ ⟨rfl, rfl⟩; simp only [go_sem, Nat.reduceBEq, Nat.reduceLeDiff])
  have M14 := M13.drop
  have M15 := M14.third
  refine (markHeap_c l 1 (by omega) _ _ _ _ M15).mono ?_
  rintro _ h16 ⟨rfl, M16⟩
  simp only [go_sem, Nat.reduceBEq]
  have M17 := M16.third
  refine (markValueS_c rs (1 + cntG cB l) (by omega) _ _ _ _ M17).mono ?_
  rintro _ h18 ⟨rfl, M18⟩
  simp only [nat_neg, go_sem, Nat.reduceBEq]
  (refine (eqIntS_c (counts l rs) (by omega) _ _ _ (M18.drop.drop).rd (M18.drop.drop.drop).rd).mono ?_; rintro _ _ ⟨rfl, rfl⟩; simp only [go_sem, Nat.reduceBEq])
  have M19 := M18.third
  refine (markIntS_c (counts l rs) 1 (by omega) _ _ _ _ M19).mono ?_
  rintro _ h20 ⟨rfl, M20⟩
  simp only [go_sem, Nat.reduceBEq]
  refine (heldIntS_c (counts l rs) 1 (by omega) _ _ M20.rd).mono ?_
  rintro _ h21 ⟨rfl, e21⟩
  have M22 := M20.mono e21
  simp only [go_sem, Nat.reduceBEq]
  rw [nat_neg]
  simp only [go_sem, Nat.reduceBEq, Nat.reduceLeDiff]
  refine (toHeap_c l hb0 _ _ (r0.mono M22.ext)).mono ?_
  rintro _ h23 ⟨a23, c23, rfl, m23⟩
  have M23 := M22.add m23
  simp only [go_sem, Nat.reduceBEq]
  refine (toValueS_c rs hb1 _ _ (r1.mono M23.ext)).mono ?_
  rintro _ h24 m24
  obtain ⟨a24, c24, rfl, _⟩ := m24.row_shape (by decide) rs.length (fm_len V.dt_len _)
  have M24 := M23.add m24
  simp only [go_sem, Nat.reduceBEq]
  refine (iCountRefs l rs (by omega) (by omega) _ _ _ (M24.drop).rd M24.rd).mono ?_
  rintro _ h25 ⟨a25_0, c25_0,  rfl, m25⟩
  have M25 := M24.add m25
  simp only [go_sem, Nat.reduceBEq]
  have M26 := M25.third
  have M27 := M26.drop
  have M28 := M27.swap
  have M29 := M28.drop
  (refine (eqIntS_c (counts l rs) (by omega) _ _ _ M29.rd (M29.drop.drop.drop.drop).rd).mono ?_; rintro _ _ ⟨rfl, rfl⟩; simp only [go_sem, Nat.reduceBEq])
  refine (heldIntS_c (counts l rs) 1 (by omega) _ _ (M29.drop).rd).mono ?_
  rintro _ h30 ⟨rfl, e30⟩
  have M31 := M29.mono e30
  simp only [go_sem, Nat.reduceBEq]
  rw [nat_neg]
  simp only [go_sem, Nat.reduceBEq]
  exact ⟨rfl, M31.ext⟩
theorem FnExactCountRefs_lifted (os : Os) (started : os.Started) (H : Type) (enc : TypeId × Value → H) :
    ReturnsInHanded {} Try.checked os 4 .any (Rows.fnExactCountRefsSpec.pre6 enc Try.prog Try.f4 Rows.fnExactCountRefsRow.domain false) (Rows.fnExactCountRefsSpec.post enc Try.prog Try.f4 false true false false) := by
  refine returnsInHanded_of_change (C := Try.checked) own started (by kernel_rfl) Try.func4
    (ChangeSpec.witness6 (enc := enc) (C := Try.checked) false ⟨#[], #[.agg #[.slice none 0 0], .slice none 0 0], []⟩ 8 (by kernel_rfl) (by kernel_rfl) (by kernel_rfl) (by kernel_rfl)) ?_
  intro W base args ds gs before hval0 hW _ _
  have hval : ∀ (j : Nat) t v, Try.f4.params[j]? = some t → args[j]? = some v → Value.okWide Try.prog W .any base t v := hval0
  have hW' := hW
  obtain ⟨p, q, hA0, hV, rfl, _, _⟩ := hW
  have hA : DataW.TrodAll enc Try.prog W 0 (fun _ => true) true Try.f4.params.toList args.toList ds p := hA0
  rw [Try.params4] at hA hval
  obtain ⟨v0, vs0, d0, ds0, p0, q0, hargs, rfl, rfl, h0, r0⟩ := trodAll_cons hA
  obtain ⟨v1, vs1, d1, ds1, p1, q1, rfl, rfl, rfl, h1, r1⟩ := trodAll_cons r0
  obtain ⟨rfl, rfl, rfl⟩ := trodAll_nil r1
  obtain rfl : args = #[v0, v1] := by cases args; simp_all
  obtain ⟨rfl, rfl⟩ := trodVars_none hV
  obtain ⟨a0, s0, rfl, w0, l0, e0⟩ := openH (hval 0 42 v0 rfl rfl) h0
  obtain ⟨_, _, _, rfl⟩ := okWide_slice Try.underlying43 (hval 1 43 v1 rfl rfl)
  obtain ⟨a1, w1, l1, e1⟩ := openValueS h1 rfl
  clear hA0 hval0
  simp only [List.append_nil] at hW'
  exact (to_below (FnExactCountRefs_law a0 w0 l0 s0 a1 w1 l1 _ _ e0 e1)).mono fun e W' ⟨he, hb⟩ => ⟨_, he, law_post laidOut (by kernel_rfl) rfl Try.underlying4 rfl hW' rfl rfl rfl hb⟩
theorem FnExactCountRefs_proved : Rows.FnExactCountRefsSaid :=
  OpenClaim.holds_of_wide 4 Try.f4 rfl rfl rfl rfl rfl rfl rfl ⟨rfl, rfl, rfl, rfl, rfl⟩ rfl rfl rfl rfl rfl (by kernel_rfl) Try.func4 (by kernel_rfl)
    (of_decide_eq_true (by kernel_rfl)) (by unfold Func.isWrapper; first | (rw [if_pos (by decide +kernel)]; kernel_rfl) | (rw [if_neg (by decide +kernel)]; exact ⟨rfl, rfl⟩))
    (fun os started H enc _ => FnExactCountRefs_lifted os started H enc)
end Go.Proofs.Ytpelbeoapmbloaa
