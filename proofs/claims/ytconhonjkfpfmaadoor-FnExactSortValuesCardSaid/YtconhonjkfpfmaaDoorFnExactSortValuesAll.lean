/-
  The statement FnExactSortValues is proved: for each argument the law returns true; nothing is assumed.
-/
import Derived.Test.YtconhonjkfpfmaaDoorFacts
import Derived.Test.YtconhonjkfpfmaaDoorSxOpen
import Derived.Test.YtconhonjkfpfmaaDoorSxLaw
import Derived.Test.YtconhonjkfpfmaaDoorSxDataV
import Derived.Test.YtconhonjkfpfmaaDoorSxDataT
import Derived.Test.YtconhonjkfpfmaaDoorSort
import Derived.Test.YtconhonjkfpfmaaDoorValSEq
import Derived.Test.YtconhonjkfpfmaaDoorSzValueS
import Derived.Test.YtconhonjkfpfmaaDoorRows
import Derived.Test.YtconhonjkfpfmaaDoorTie
import Derived.Test.YtconhonjkfpfmaaDoorCards
import Derived.ProofKit
import Derived.LaidMore
import Derived.OpenShut
import Derived.Stop.Joined
import Derived.SevenTiedAt
namespace Go.Proofs.YtconhonjkfpfmaaDoor
set_option maxRecDepth 8000
open Go Go.Sx Go.ChangeShapes Go.WideShapes Go.RowKit Go.ChangeMaps
section
variable {H : Type} {enc : TypeId × Value → H} {w : World} {base : Nat} {sp : Nat → Bool} {held : Bool}
theorem openKey {n : Nat} {cs : List Value} {x : DataW H × List MemPlace} (h : DataW.trod enc Tryd.prog w base sp held n 113 cs = some x) : ∃ k : Ky, k.ok ∧ RdL (vis w) k.dt cs := by
  obtain ⟨hl, m, _, hf⟩ := trod_fields Tryd.underlying113 h
  have hl : cs.length = 3 := hl
  match cs, hl with
  | [c0, c1, c2], _ =>
    obtain ⟨y0, h0⟩ := hf 0 _ rfl
    obtain ⟨y1, h1⟩ := hf 1 _ rfl
    obtain ⟨y2, h2⟩ := hf 2 _ rfl
    obtain ⟨b, e0⟩ := trod_bool1 Tryd.underlying4 h0
    obtain ⟨k, e1, b1⟩ := trod_one Tryd.underlying3 h1
    obtain ⟨s, e2, _, b2⟩ := DataW.trod_string Tryd.underlying9 h2
    have e0 : [c0] = [.bool b] := e0
    have e1 : [c1] = [.int .i64 k] := e1
    have e2 : [c2] = [.string s] := e2
    cases e0; cases e1; cases e2
    exact ⟨⟨b, k, s⟩, ⟨b1, b2⟩, by simp only [Ky.dt, RdL_cc, Rd_raw, RdL_nil, true_and, and_true]; exact ⟨rfl, rfl, rfl⟩⟩
theorem openV_ : ∀ (n : Nat) {cs : List Value} {x : DataW H × List MemPlace}, DataW.trod enc Tryd.prog w base sp held n 88 cs = some x → ∃ v : V, v.ok ∧ RdL (vis w) v.dt cs := by
  intro n
  induction n using Nat.strongRecOn with
  | _ n ih =>
    intro cs x h
    obtain ⟨hl, m, hm, hf⟩ := trod_fields Tryd.underlying88 h
    have hl : cs.length = 5 := hl
    match cs, hl with
    | [c0, c1, c2, c3, c4], _ =>
      obtain ⟨y0, h0⟩ := hf 0 _ rfl
      obtain ⟨y1, h1⟩ := hf 1 _ rfl
      obtain ⟨y2, h2⟩ := hf 2 _ rfl
      obtain ⟨y3, h3⟩ := hf 3 _ rfl
      obtain ⟨y4, h4⟩ := hf 4 _ rfl
      obtain ⟨k, e0, b0⟩ := trod_one Tryd.underlying3 h0
      obtain ⟨q, e1, b1⟩ := trod_one Tryd.underlying3 h1
      obtain ⟨s, e2, _, b2⟩ := DataW.trod_string Tryd.underlying9 h2
      obtain ⟨nx, e3, b3⟩ := trod_one Tryd.underlying3 h3
      have e0 : [c0] = [.int .i64 k] := e0
      have e1 : [c1] = [.int .i64 q] := e1
      have e2 : [c2] = [.string s] := e2
      have e3 : [c3] = [.int .i64 nx] := e3
      cases e0; cases e1; cases e2; cases e3
      obtain ⟨es, v, e4, hok, hlen, hrd⟩ := open_list (α := Ky × V) (f := edt) (ok := fun e => e.1.ok ∧ e.2.ok) (z := 8) Tryd.underlying86 (by kernel_rfl) (by decide) (fun n' cs' x' hn' h' => by
        obtain ⟨hl', m', hm', hf'⟩ := trod_fields Tryd.underlying115 h'
        obtain ⟨z0, g0⟩ := hf' 0 _ rfl
        obtain ⟨z1, g1⟩ := hf' 1 _ rfl
        have hl' : cs'.length = 8 := hl'
        obtain ⟨ky, ko, kr⟩ := openKey g0
        obtain ⟨v', vo, vr⟩ := ih m' (by omega) g1
        have kr : RdL (vis w) ky.dt (cs'.take 3) := kr
        have vr : RdL (vis w) v'.dt ((cs'.drop 3).take 5) := vr
        refine ⟨(ky, v'), ⟨ko, vo⟩, ?_⟩
        have : cs' = cs'.take 3 ++ (cs'.drop 3).take 5 := by
          rw [List.take_of_length_le (l := cs'.drop 3) (by rw [List.length_drop]; omega), List.take_append_drop]
        rw [this]
        exact kr.append vr) h4
      have e4 : [c4] = [v] := e4
      cases e4
      refine ⟨⟨k, q, s, nx, es⟩, ?_, ?_⟩
      · simp only [V.ok]
        refine ⟨b0, b1, b2, b3, hlen, ?_⟩
        have : ∀ l : List (Ky × V), (∀ e ∈ l, e.1.ok ∧ e.2.ok) → V.oks l := by
          intro l
          induction l with
          | nil => intro _; simp only [V.oks]
          | cons e r ihl =>
            intro hall
            obtain ⟨ky, v'⟩ := e
            have := hall (ky, v') (by simp)
            simp only [V.oks]
            exact ⟨this.1.1, this.1.2, this.2, ihl fun e he => hall e (by simp [he])⟩
        exact this es hok
      · exact RdL_val_mk (v := ⟨k, q, s, nx, es⟩) hrd
theorem openV {v0 : Value} {d : DataW H} {ps : List MemPlace} {r : Reach} {b0 : Nat} (hval : Value.okWide Tryd.prog w r b0 88 v0) (h : DataW.Trod enc Tryd.prog w base sp held 88 v0 d ps) :
    ∃ (v : V) (sl : Value), v0 = .agg #[.int .i64 v.kind, .int .i64 v.num, .string v.str, .int .i64 v.next, sl] ∧ v.ok ∧ RdE (vis w) v.items sl := by
  obtain ⟨n, h⟩ := h
  obtain ⟨v, hok, hr⟩ := openV_ n h
  obtain ⟨sl, he, hs⟩ := RdL_val hr
  unfold Value.okWide at hval
  rw [Tryd.underlying88] at hval
  obtain ⟨cs, rfl, _⟩ := hval
  refine ⟨v, sl, ?_, hok, hs⟩
  have : cs.toList = _ := he
  rw [← this]
theorem openValueS {v0 : Value} {d : DataW H} {ps : List MemPlace} (h : DataW.Trod enc Tryd.prog w base sp held 54 v0 d ps) (h1 : oneCell v0 = true) :
    ∃ (l : List V), (∀ k ∈ l, k.ok) ∧ l.length ≤ maxLen ∧ Rd (vis w) (.row 5 (l.flatMap V.dt)) v0 := by
  obtain ⟨n, h⟩ := h
  obtain ⟨l, v, e, hok, hlen, hrd⟩ := open_list (α := V) (f := V.dt) (ok := V.ok) (z := 5) Tryd.underlying54 (by kernel_rfl) (by decide) (fun n' cs' x' _ h' => openV_ n' h') h
  have : v0 = v := by cases v0 <;> first | (simp [Value.cells] at e; exact e) | (simp [oneCell] at h1)
  subst this
  exact ⟨l, hok, hlen, hrd⟩
end
end Go.Proofs.YtconhonjkfpfmaaDoor
namespace Go.Proofs.YtconhonjkfpfmaaDoor
set_option maxRecDepth 8000
open Go Go.Sx
theorem dig_byte (k : Nat) : IntKind.u8.wrap (IntKind.i64.wrap (48 + ((k : Nat) : Int).tmod 10)) = (((UInt8.ofNat (48 + k % 10)).toNat : Nat) : Int) := by
  have h1 : ((k : Nat) : Int).tmod 10 = ((k % 10 : Nat) : Int) := by rw [Int.tmod_eq_emod_of_nonneg (by omega)]; rfl
  rw [h1, IntWalk.i64_in _ (by omega)]
  have h2 : (UInt8.ofNat (48 + k % 10)).toNat = 48 + k % 10 := by
    rw [UInt8.toNat_ofNat']; omega
  rw [h2]
  have : k % 10 < 10 := Nat.mod_lt _ (by omega)
  generalize k % 10 = r at *
  have h3 : ∀ r : Nat, r < 10 → IntKind.u8.wrap (48 + (r : Int)) = ((48 + r : Nat) : Int) := by decide
  exact h3 r this
theorem quo10 (k : Nat) (hk : k ≤ 4611686018427387904) : IntKind.i64.wrap (((k : Nat) : Int).tdiv 10) = ((k / 10 : Nat) : Int) := by
  have h1 : ((k : Nat) : Int).tdiv 10 = ((k / 10 : Nat) : Int) := by rw [Int.tdiv_eq_ediv_of_nonneg (by omega)]; rfl
  rw [h1, IntWalk.i64_in _ (by omega)]
theorem markText_c (k : Nat) (hk : k ≤ 4611686018427387904) (h : Hp) : ACalls Tryd.prog 71 #[.int .i64 (k : Nat)] h (Is (.string (mtext k)) h) := by
  (refine enter Tryd.func71 rfl rfl (by kernel_rfl) [] ?_; simp only [go_sem, Nat.reduceBEq])
  refine Br.intro (fun hb => ?_) (fun hb => ?_) <;> (try simp only [hb, go_sem, Nat.reduceBEq])
  · have hb : k = 0 := by have := of_decide_eq_true hb; omega
    subst hb
    exact ⟨by rw [mtext, if_pos rfl], Ext.refl _⟩
  · have hb : 0 < k := by have := of_decide_eq_false hb; omega
    refine aloop (ι := Nat × List UInt8) (fun x => [(0, .val (.int .i64 (x.1 : Nat))), (3, .val (.string ⟨x.2.toArray⟩))]) (fun _ => []) (fun x h' => mdig x.1 x.2 = mdig k [] ∧ x.2.length + x.1 ≤ k ∧ Ext h h') (fun x => x.1) (k, [])
      ⟨rfl, by simp, Ext.refl _⟩ (by repeat (first | exact wkF_e | refine wkF_c rfl ?_)) wkB_e rfl ?_
    rintro ⟨q, l⟩ h1 ⟨hq, hl, he⟩
    have hl : l.length + q ≤ k := hl
    have hq : mdig q l = mdig k [] := hq
    simp only [go_sem, Nat.reduceBEq]
    refine Br.intro (fun hc => ?_) (fun hc => ?_) <;> (try simp only [hc, go_sem, Nat.reduceBEq, Int.reduceEq, not_false_eq_true])
    · have hc : 0 < q := by have := of_decide_eq_true hc; omega
      simp only [dig_byte, go_sem]
      refine bytes_lit1 slT22 (UInt8.ofNat (48 + q % 10)) fun u2 h2 m2 => ?_
      simp only [go_sem, Nat.reduceBEq]
      refine cvK_bytes bytT22 isStr9 m2.rd ?_
      simp only [quo10 q (by omega), go_sem, Nat.reduceBEq, Int.reduceEq, not_false_eq_true]
      refine ⟨by rw [i64max]; simp; omega, ?_⟩
      exact Again.intro (q / 10, UInt8.ofNat (48 + q % 10) :: l) (by simp only; omega) ⟨by rw [← hq, mdig_step hc], by simp only [List.length_cons]; omega, he.trans m2.ext⟩ (by repeat (first | exact wkF_e | refine wkF_c rfl ?_)) wkB_e rfl
    · have hc : q = 0 := by have := of_decide_eq_false hc; omega
      subst hc
      rw [mdig_zero] at hq
      refine ⟨by rw [i64max]; simp; omega, ?_⟩
      refine ⟨?_, he⟩
      rw [mtext, if_neg (by omega), ← hq]
      rfl
end Go.Proofs.YtconhonjkfpfmaaDoor
namespace Go.Proofs.YtconhonjkfpfmaaDoor
set_option maxRecDepth 8000
open Go Go.Sx
def MkEntryS (l : List (Ky × V)) : Prop := ∀ (k : Nat) (_ : k + cntEs l ≤ 4611686018427387904) (sl : Value) (bag : Bag) (h0 h : Hp) (_ : My h0 h ((.row 8 (l.flatMap edt), sl) :: bag)),
    ACalls Tryd.prog 72 #[sl, .int .i64 (k : Nat)] h fun v h' => v = .int .i64 ((k + cntEs l : Nat)) ∧ My h0 h' ((.row 8 ((mkEs l k).flatMap edt), sl) :: bag)
def HdEntryS (l : List (Ky × V)) : Prop := ∀ (k : Nat) (_ : k + cntEs l ≤ 4611686018427387904) (sl : Value) (h : Hp) (_ : Rd h (.row 8 ((mkEs l k).flatMap edt)) sl),
    ACalls Tryd.prog 73 #[sl, .int .i64 (k : Nat)] h (Is (.int .i64 ((k + cntEs l : Nat))) h)
theorem markEntryS_s (l : List (Ky × V)) (k : Nat) (hk : k + cntEs l ≤ 4611686018427387904) (ih : ∀ e ∈ l, MkEntryS (e.2.items)) (sl : Value) (bag : Bag) (h0 h : Hp) (m : My h0 h ((.row 8 (l.flatMap edt), sl) :: bag)) :
    ACalls Tryd.prog 72 #[sl, .int .i64 (k : Nat)] h fun v h' => v = .int .i64 ((k + cntEs l : Nat)) ∧ My h0 h' ((.row 8 ((mkEs l k).flatMap edt), sl) :: bag) := by
  obtain ⟨a, c, rfl, hc, hcm, hat⟩ := m.row_shape (by decide) l.length (fm_len edt_len l)
  have hlm : l.length ≤ maxLen := Nat.le_trans hc hcm
  (refine enter Tryd.func72 rfl rfl (by kernel_rfl) [] ?_; simp only [go_sem])
  refine aloop (ι := Nat) (fun i => [(5, .val (.int .i64 (i : Nat))), (1, .val (.int .i64 ((k + cntEs (l.take i) : Nat)))), (0, .val (.slice a l.length c))]) (fun _ => []) (fun i h' => i ≤ l.length ∧ My h0 h' ((.row 8 ((mkEs (l.take i) k).flatMap edt ++ (l.drop i).flatMap edt), .slice a l.length c) :: bag)) (fun i => l.length - i) 0
    ⟨Nat.zero_le _, m⟩ (by repeat (first | exact wkF_e | refine wkF_c rfl ?_)) wkB_e rfl ?_
  rintro i h1 ⟨hi, m1⟩
  have hi : i ≤ l.length := hi
  simp only [go_sem, Nat.reduceBEq]
  refine Br.intro (fun hb => ?_) (fun hb => ?_) <;> (try simp only [hb, go_sem, Nat.reduceBEq, Int.reduceEq, not_false_eq_true])
  · have hb : i < l.length := by simpa using hb
    obtain ⟨b, rfl⟩ := hat (by omega)
    have hpos : 0 < l.length := by omega
    obtain ⟨e, he, hm⟩ := get_lt hb
    have hsn := cntEs_snoc he
    have hms := mkEs_snoc he k
    have hle := cntEs_le he
    have hA : ((mkEs (l.take i) k).flatMap edt).length = i * 8 := by rw [fm_len edt_len, mkEs_len, List.length_take]; congr 1; omega
    have m1 : My h0 h1 ((.row 8 ((mkEs (l.take i) k).flatMap edt ++ (l.drop i).flatMap edt), .slice (some ⟨b, 0, none⟩) l.length c) :: bag) := m1
    rw [drop_cons he, List.flatMap_cons, edt_eq] at m1
    have fin : ∀ h' , My h0 h' ((.row 8 ((mkEs (l.take i) k).flatMap edt ++ (edt (mkE (k + cntEs (l.take i)) e) ++ (l.drop (i + 1)).flatMap edt)), .slice (some ⟨b, 0, none⟩) l.length c) :: bag) → My h0 h' ((.row 8 ((mkEs (l.take (i + 1)) k).flatMap edt ++ (l.drop (i + 1)).flatMap edt), .slice (some ⟨b, 0, none⟩) l.length c) :: bag) := fun h' m => by
      rw [hms, List.flatMap_append, List.flatMap_cons, List.flatMap_nil, List.append_nil, List.append_assoc]; exact m
    rw [edt_eq] at fin
    have hq0 : k + cntEs (l.take i) ≤ 4611686018427387904 := by omega
    generalize hq : k + cntEs (l.take i) = q at *
    generalize (mkEs (l.take i) k).flatMap edt = A at *
    generalize hR : (l.drop (i + 1)).flatMap edt = R at *
    have wq0 : IntKind.i64.wrap (((q : Nat) : Int) + 1) = ((q + 1 : Nat) : Int) := by rw [IntWalk.i64_in _ (by omega)]; rfl
    have wq1 : IntKind.i64.wrap (((q + 1 : Nat) : Int) + 1) = ((q + 2 : Nat) : Int) := by rw [IntWalk.i64_in _ (by omega)]; rfl
    have wq2 : IntKind.i64.wrap (((q + 2 : Nat) : Int) + 1) = ((q + 3 : Nat) : Int) := by rw [IntWalk.i64_in _ (by omega)]; rfl
    have wq3 : IntKind.i64.wrap (((q + 3 : Nat) : Int) + 1) = ((q + 4 : Nat) : Int) := by rw [IntWalk.i64_in _ (by omega)]; rfl
    have wq4 : IntKind.i64.wrap (((q + 4 : Nat) : Int) + 1) = ((q + 5 : Nat) : Int) := by rw [IntWalk.i64_in _ (by omega)]; rfl
    have wq5 : IntKind.i64.wrap (((q + 5 : Nat) : Int) + 1) = ((q + 6 : Nat) : Int) := by rw [IntWalk.i64_in _ (by omega)]; rfl
    have wq6 : IntKind.i64.wrap (((q + 6 : Nat) : Int) + 1) = ((q + 7 : Nat) : Int) := by rw [IntWalk.i64_in _ (by omega)]; rfl
    have wsu := wrap_succ (i := i) (by unfold maxLen at hlm; omega)
    simp only [ix_nat hb, go_sem, Nat.reduceBEq]
    refine hsem_my_cell (A := A) (R := R) (j := 0) tyS4 rfl m1 hpos (Nat.le_of_ble_eq_true rfl) rfl rfl (by omega) fun h2 m2 => ?_
    simp only [ix_nat hb, wq0, go_sem, Nat.reduceBEq]
    refine hsem_my_cell (A := A) (R := R) (j := 1) tyS3 rfl m2 hpos (Nat.le_of_ble_eq_true rfl) rfl rfl (by omega) fun h3 m3 => ?_
    simp only [wq1, go_sem, Nat.reduceBEq]
    refine (markText_c (q + 2) (by omega) _).mono ?_
    rintro _ h4 ⟨rfl, x4⟩
    have m4 := m3.mono x4
    simp only [ix_nat hb, go_sem, Nat.reduceBEq, Nat.reduceAdd]
    refine hsem_my_cell (A := A) (R := R) (j := 2) tyS9 rfl m4 hpos (Nat.le_of_ble_eq_true rfl) rfl rfl (by omega) fun h5 m5 => ?_
    simp only [ix_nat hb, wq2, go_sem, Nat.reduceBEq, Nat.reduceAdd]
    refine hsem_my_cell (A := A) (R := R) (j := 3) tyS3 rfl m5 hpos (Nat.le_of_ble_eq_true rfl) rfl rfl (by omega) fun h6 m6 => ?_
    simp only [ix_nat hb, wq3, go_sem, Nat.reduceBEq, Nat.reduceAdd]
    refine hsem_my_cell (A := A) (R := R) (j := 4) tyS3 rfl m6 hpos (Nat.le_of_ble_eq_true rfl) rfl rfl (by omega) fun h7 m7 => ?_
    simp only [wq4, go_sem, Nat.reduceBEq]
    refine (markText_c (q + 5) (by omega) _).mono ?_
    rintro _ h8 ⟨rfl, x8⟩
    have m8 := m7.mono x8
    simp only [ix_nat hb, go_sem, Nat.reduceBEq, Nat.reduceAdd]
    refine hsem_my_cell (A := A) (R := R) (j := 5) tyS9 rfl m8 hpos (Nat.le_of_ble_eq_true rfl) rfl rfl (by omega) fun h9 m9 => ?_
    simp only [ix_nat hb, wq5, go_sem, Nat.reduceBEq, Nat.reduceAdd]
    refine hsem_my_cell (A := A) (R := R) (j := 6) tyS3 rfl m9 hpos (Nat.le_of_ble_eq_true rfl) rfl rfl (by omega) fun h10 m10 => ?_
    simp only [ix_nat hb, wq6, go_sem, Nat.reduceBEq, Nat.reduceAdd]
    obtain ⟨u7, m11⟩ := m10.openAt (A := A) (R := R) (j := 7) rfl
    refine hsem_my_get (A := A) (R := R) (j := 7) tyS24 m11.swap hpos (d := .raw u7) rfl (by omega) fun u' hu' => ?_
    obtain ⟨rfl, _⟩ := Rd_raw.1 hu'
    simp only [go_sem, Nat.reduceBEq]
    refine (ih e hm (q + 7) (by omega) _ _ _ _ m11).mono ?_
    rintro _ h11 ⟨rfl, m12⟩
    have m13 := m12.closeAt (A := A) (R := R) (j := 7) rfl
    generalize hq7 : q + 7 + cntEs (e.2.items) = q7 at *
    simp only [go_sem, Nat.reduceBEq]
    rw [wsu]
    have hend : k + cntEs (l.take (i + 1)) = q7 := by omega
    refine Again.intro (i + 1) (by first | omega | (simp only; omega)) ⟨hb, ?_⟩ (by simp only [hend]; exact (by repeat (first | exact wkF_e | refine wkF_c rfl ?_))) wkB_e rfl
    have m14 := fin _ m13
    rw [← hR] at m14
    exact m14
  · have hb : i = l.length := by simp at hb; omega
    subst hb
    have m1 : My h0 h1 ((.row 8 ((mkEs (l.take l.length) k).flatMap edt ++ (l.drop l.length).flatMap edt), .slice a l.length c) :: bag) := m1
    rw [List.take_length, List.drop_length, List.flatMap_nil, List.append_nil] at m1
    rw [List.take_length]
    exact ⟨rfl, m1⟩
theorem heldEntryS_s (l : List (Ky × V)) (k : Nat) (hk : k + cntEs l ≤ 4611686018427387904) (ih : ∀ e ∈ l, HdEntryS (e.2.items)) (sl : Value) (h : Hp) (rd : Rd h (.row 8 ((mkEs l k).flatMap edt)) sl) :
    ACalls Tryd.prog 73 #[sl, .int .i64 (k : Nat)] h (Is (.int .i64 ((k + cntEs l : Nat))) h) := by
  have hml := mkEs_len l k
  obtain ⟨a, c, xs, rfl, hc, hr, hat⟩ := rd.rows (by decide) l.length (by rw [fm_len edt_len, hml])
  (refine enter Tryd.func73 rfl rfl (by kernel_rfl) [] ?_; simp only [go_sem])
  refine aloop (ι := Nat) (fun i => [(5, .val (.int .i64 (i : Nat))), (1, .val (.int .i64 ((k + cntEs (l.take i) : Nat)))), (0, .val (.slice a l.length c))]) (fun _ => []) (fun i h' => i ≤ l.length ∧ Ext h h') (fun i => l.length - i) 0
    ⟨Nat.zero_le _, Ext.refl _⟩ (by repeat (first | exact wkF_e | refine wkF_c rfl ?_)) wkB_e rfl ?_
  rintro i h1 ⟨hi, x1⟩
  have hi : i ≤ l.length := hi
  have x1 : Ext h h1 := x1
  simp only [go_sem, Nat.reduceBEq]
  refine Br.intro (fun hb => ?_) (fun hb => ?_) <;> (try simp only [hb, go_sem, Nat.reduceBEq])
  · have hb : i < l.length := by simpa using hb
    obtain ⟨b, off, rfl, hat0⟩ := hat (by omega)
    have hat1 := hat0.mono x1
    have hr1 := hr.mono x1
    obtain ⟨e, he, hm⟩ := get_lt hb
    have hsn := cntEs_snoc he
    have hge := mkEs_get he k
    have hle := cntEs_le he
    have hq0 : k + cntEs (l.take i) ≤ 4611686018427387904 := by omega
    have hlm : l.length ≤ 4611686018427387904 := by have := cntEs_pos l; omega
    have wsu := wrap_succ (i := i) (by omega)
    generalize hq : k + cntEs (l.take i) = q at *
    have wq0 : IntKind.i64.wrap (((q : Nat) : Int) + 1) = ((q + 1 : Nat) : Int) := by rw [IntWalk.i64_in _ (by omega)]; rfl
    have wq1 : IntKind.i64.wrap (((q + 1 : Nat) : Int) + 1) = ((q + 2 : Nat) : Int) := by rw [IntWalk.i64_in _ (by omega)]; rfl
    have wq2 : IntKind.i64.wrap (((q + 2 : Nat) : Int) + 1) = ((q + 3 : Nat) : Int) := by rw [IntWalk.i64_in _ (by omega)]; rfl
    have wq3 : IntKind.i64.wrap (((q + 3 : Nat) : Int) + 1) = ((q + 4 : Nat) : Int) := by rw [IntWalk.i64_in _ (by omega)]; rfl
    have wq4 : IntKind.i64.wrap (((q + 4 : Nat) : Int) + 1) = ((q + 5 : Nat) : Int) := by rw [IntWalk.i64_in _ (by omega)]; rfl
    have wq5 : IntKind.i64.wrap (((q + 5 : Nat) : Int) + 1) = ((q + 6 : Nat) : Int) := by rw [IntWalk.i64_in _ (by omega)]; rfl
    have wq6 : IntKind.i64.wrap (((q + 6 : Nat) : Int) + 1) = ((q + 7 : Nat) : Int) := by rw [IntWalk.i64_in _ (by omega)]; rfl
    simp only [ix_nat hb, go_sem, Nat.reduceBEq]
    refine hsem_cell (f := edt) (o := 0) edt_len tyS4 hat1 hr1 hge (by decide) (by rw [edt_eq]; rfl) ?_ fun y0 r0 => ?_
    · omega
    obtain ⟨rfl, _⟩ := Rd_raw.1 r0
    simp only [go_sem, Nat.reduceBEq, Int.reduceEq, not_false_eq_true]
    simp only [mkE, mbit, decide_true, Bool.not_true, go_sem]
    simp only [ix_nat hb, wq0, go_sem, Nat.reduceBEq]
    refine hsem_cell (f := edt) (o := 1) edt_len tyS3 hat1 hr1 hge (by decide) (by rw [edt_eq]; rfl) ?_ fun y1 r1 => ?_
    · omega
    obtain ⟨rfl, _⟩ := Rd_raw.1 r1
    simp only [go_sem, Nat.reduceBEq]
    simp only [mkE, decide_true, Bool.not_true, wq1, go_sem, Nat.reduceBEq]
    refine regionD_still (lb := []) (pl := [39]) h1 (Ext.refl _) (by kernel_rfl) ?_
    simp only [ix_nat hb, go_sem, Nat.reduceBEq, Nat.reduceAdd]
    refine hsem_cell (f := edt) (o := 2) edt_len tyS9 hat1 hr1 hge (by decide) (by rw [edt_eq]; rfl) ?_ fun y2 r2 => ?_
    · omega
    obtain ⟨rfl, _⟩ := Rd_raw.1 r2
    simp only [go_sem, Nat.reduceBEq]
    refine (markText_c (q + 2) (by omega) _).mono ?_
    rintro _ h2 ⟨rfl, x2⟩
    simp only [go_sem, Nat.reduceBEq]
    refine ⟨x2, ?_⟩
    have hat2 := hat1.mono x2
    have hr2 := hr1.mono x2
    have X2 := x1.trans x2
    simp only [mkE, decide_true, Bool.not_true, ix_nat hb, wq2, go_sem, Nat.reduceBEq, Nat.reduceAdd]
    refine hsem_cell (f := edt) (o := 3) edt_len tyS3 hat2 hr2 hge (by decide) (by rw [edt_eq]; rfl) ?_ fun y3 r3 => ?_
    · omega
    obtain ⟨rfl, _⟩ := Rd_raw.1 r3
    simp only [go_sem, Nat.reduceBEq]
    simp only [mkE, decide_true, Bool.not_true, ix_nat hb, wq3, go_sem, Nat.reduceBEq, Nat.reduceAdd]
    refine hsem_cell (f := edt) (o := 4) edt_len tyS3 hat2 hr2 hge (by decide) (by rw [edt_eq]; rfl) ?_ fun y4 r4 => ?_
    · omega
    obtain ⟨rfl, _⟩ := Rd_raw.1 r4
    simp only [go_sem, Nat.reduceBEq]
    simp only [mkE, decide_true, Bool.not_true, wq4, go_sem, Nat.reduceBEq]
    refine regionD_still (lb := []) (pl := [70]) h2 (Ext.refl _) (by kernel_rfl) ?_
    simp only [ix_nat hb, go_sem, Nat.reduceBEq, Nat.reduceAdd]
    refine hsem_cell (f := edt) (o := 5) edt_len tyS9 hat2 hr2 hge (by decide) (by rw [edt_eq]; rfl) ?_ fun y5 r5 => ?_
    · omega
    obtain ⟨rfl, _⟩ := Rd_raw.1 r5
    simp only [go_sem, Nat.reduceBEq]
    refine (markText_c (q + 5) (by omega) _).mono ?_
    rintro _ h3 ⟨rfl, x3⟩
    simp only [go_sem, Nat.reduceBEq]
    refine ⟨x3, ?_⟩
    have hat3 := hat2.mono x3
    have hr3 := hr2.mono x3
    have X3 := X2.trans x3
    simp only [mkE, decide_true, Bool.not_true, ix_nat hb, wq5, go_sem, Nat.reduceBEq, Nat.reduceAdd]
    refine hsem_cell (f := edt) (o := 6) edt_len tyS3 hat3 hr3 hge (by decide) (by rw [edt_eq]; rfl) ?_ fun y6 r6 => ?_
    · omega
    obtain ⟨rfl, _⟩ := Rd_raw.1 r6
    simp only [go_sem, Nat.reduceBEq]
    simp only [mkE, decide_true, Bool.not_true, ix_nat hb, wq6, go_sem, Nat.reduceBEq, Nat.reduceAdd]
    refine hsem_cell (f := edt) (o := 7) edt_len tyS24 hat3 hr3 hge (by decide) (by rw [edt_eq]; rfl) ?_ fun y7 r7 => ?_
    · omega
    simp only [go_sem, Nat.reduceBEq]
    refine (ih e hm (q + 7) (by omega) _ _ r7).mono ?_
    rintro _ h4 ⟨rfl, x4⟩
    have hat4 := hat3.mono x4
    have hr4 := hr3.mono x4
    have X4 := X3.trans x4
    generalize hq7 : q + 7 + cntEs (e.2.items) = q7 at *
    have hneg7 : decide (((q7 : Nat) : Int) < 0) = false := decide_eq_false (by omega)
    simp only [hneg7, go_sem, Nat.reduceBEq]
    rw [wsu]
    have hend : k + cntEs (l.take (i + 1)) = q7 := by omega
    exact Again.intro (i + 1) (by first | omega | (simp only; omega)) ⟨hb, X4⟩ (by simp only [hend]; exact (by repeat (first | exact wkF_e | refine wkF_c rfl ?_))) wkB_e rfl
  · have hb : i = l.length := by simp at hb; omega
    subst hb
    rw [List.take_length]
    exact ⟨rfl, x1⟩
theorem markV_c : ∀ v : V, MkEntryS v.items := V.ind fun v ih k hk sl bag h0 h m => markEntryS_s v.items k hk ih sl bag h0 h m
theorem heldV_c : ∀ v : V, HdEntryS v.items := V.ind fun v ih k hk sl h rd => heldEntryS_s v.items k hk ih sl h rd
theorem markEntryS_c (l : List (Ky × V)) (k : Nat) (hk : k + cntEs l ≤ 4611686018427387904) (sl : Value) (bag : Bag) (h0 h : Hp) (m : My h0 h ((.row 8 (l.flatMap edt), sl) :: bag)) :
    ACalls Tryd.prog 72 #[sl, .int .i64 (k : Nat)] h fun v h' => v = .int .i64 ((k + cntEs l : Nat)) ∧ My h0 h' ((.row 8 ((mkEs l k).flatMap edt), sl) :: bag) := markEntryS_s l k hk (fun e _ => markV_c e.2) sl bag h0 h m
theorem heldEntryS_c (l : List (Ky × V)) (k : Nat) (hk : k + cntEs l ≤ 4611686018427387904) (sl : Value) (h : Hp) (rd : Rd h (.row 8 ((mkEs l k).flatMap edt)) sl) :
    ACalls Tryd.prog 73 #[sl, .int .i64 (k : Nat)] h (Is (.int .i64 ((k + cntEs l : Nat))) h) := heldEntryS_s l k hk (fun e _ => heldV_c e.2) sl h rd
end Go.Proofs.YtconhonjkfpfmaaDoor
namespace Go.Proofs.YtconhonjkfpfmaaDoor
set_option maxRecDepth 8000
open Go Go.Sx
theorem markValueS_c (l : List (V)) (k : Nat) (hk : k + cntG cV l ≤ 4611686018427387904) (sl : Value) (bag : Bag) (h0 h : Hp) (m : My h0 h ((.row 5 (l.flatMap V.dt), sl) :: bag)) :
    ACalls Tryd.prog 35 #[sl, .int .i64 (k : Nat)] h fun v h' => v = .int .i64 ((k + cntG cV l : Nat)) ∧ My h0 h' ((.row 5 ((mkG cV mkV1 l k).flatMap V.dt), sl) :: bag) := by
  obtain ⟨a, c, rfl, hc, hcm, hat⟩ := m.row_shape (by decide) l.length (fm_len V.dt_len l)
  have hlm : l.length ≤ maxLen := Nat.le_trans hc hcm
  (refine enter Tryd.func35 rfl rfl (by kernel_rfl) [] ?_; simp only [go_sem])
  refine aloop (ι := Nat) (fun i => [(5, .val (.int .i64 (i : Nat))), (1, .val (.int .i64 ((k + cntG cV (l.take i) : Nat)))), (0, .val (.slice a l.length c))]) (fun _ => []) (fun i h' => i ≤ l.length ∧ My h0 h' ((.row 5 ((mkG cV mkV1 (l.take i) k).flatMap V.dt ++ (l.drop i).flatMap V.dt), .slice a l.length c) :: bag)) (fun i => l.length - i) 0
    ⟨Nat.zero_le _, m⟩ (by repeat (first | exact wkF_e | refine wkF_c rfl ?_)) wkB_e rfl ?_
  rintro i h1 ⟨hi, m1⟩
  have hi : i ≤ l.length := hi
  simp only [go_sem, Nat.reduceBEq]
  refine Br.intro (fun hb => ?_) (fun hb => ?_) <;> (try simp only [hb, go_sem, Nat.reduceBEq])
  · have hb : i < l.length := by simpa using hb
    obtain ⟨b, rfl⟩ := hat (by omega)
    have hpos : 0 < l.length := by omega
    obtain ⟨e, he, hm⟩ := get_lt hb
    have hsn := cntG_snoc (c := cV) he
    rw [cV] at hsn
    have hms := mkG_snoc (c := cV) (m := mkV1) he k
    have hle := cntG_le (c := cV) he
    rw [cV] at hle
    have hA : ((mkG cV mkV1 (l.take i) k).flatMap V.dt).length = i * 5 := by rw [fm_len V.dt_len, mkG_len, List.length_take]; congr 1; omega
    have m1 : My h0 h1 ((.row 5 ((mkG cV mkV1 (l.take i) k).flatMap V.dt ++ (l.drop i).flatMap V.dt), .slice (some ⟨b, 0, none⟩) l.length c) :: bag) := m1
    rw [drop_cons he, List.flatMap_cons, V.dt_eq] at m1
    have fin : ∀ h' , My h0 h' ((.row 5 ((mkG cV mkV1 (l.take i) k).flatMap V.dt ++ (V.dt (mkV1 (k + cntG cV (l.take i)) e) ++ (l.drop (i + 1)).flatMap V.dt)), .slice (some ⟨b, 0, none⟩) l.length c) :: bag) → My h0 h' ((.row 5 ((mkG cV mkV1 (l.take (i + 1)) k).flatMap V.dt ++ (l.drop (i + 1)).flatMap V.dt), .slice (some ⟨b, 0, none⟩) l.length c) :: bag) := fun h' m => by
      rw [hms, List.flatMap_append, List.flatMap_cons, List.flatMap_nil, List.append_nil, List.append_assoc]; exact m
    rw [V.dt_eq] at fin
    have hq0 : k + cntG cV (l.take i) ≤ 4611686018427387904 := by omega
    generalize hq : k + cntG cV (l.take i) = q at *
    generalize (mkG cV mkV1 (l.take i) k).flatMap V.dt = A at *
    generalize hR : (l.drop (i + 1)).flatMap V.dt = R at *
    have wq0 : IntKind.i64.wrap (((q : Nat) : Int) + 1) = ((q + 1 : Nat) : Int) := by rw [IntWalk.i64_in _ (by omega)]; rfl
    have wq1 : IntKind.i64.wrap (((q + 1 : Nat) : Int) + 1) = ((q + 2 : Nat) : Int) := by rw [IntWalk.i64_in _ (by omega)]; rfl
    have wq2 : IntKind.i64.wrap (((q + 2 : Nat) : Int) + 1) = ((q + 3 : Nat) : Int) := by rw [IntWalk.i64_in _ (by omega)]; rfl
    have wq3 : IntKind.i64.wrap (((q + 3 : Nat) : Int) + 1) = ((q + 4 : Nat) : Int) := by rw [IntWalk.i64_in _ (by omega)]; rfl
    have wsu := wrap_succ (i := i) (by unfold maxLen at hlm; omega)
    simp only [ix_nat hb, go_sem, Nat.reduceBEq]
    refine hsem_my_cell (A := A) (R := R) (j := 0) tyS3 rfl m1 hpos (Nat.le_of_ble_eq_true rfl) rfl rfl (by omega) fun h2 m2 => ?_
    simp only [ix_nat hb, wq0, go_sem, Nat.reduceBEq]
    refine hsem_my_cell (A := A) (R := R) (j := 1) tyS3 rfl m2 hpos (Nat.le_of_ble_eq_true rfl) rfl rfl (by omega) fun h3 m3 => ?_
    simp only [wq1, go_sem, Nat.reduceBEq]
    refine (markText_c (q + 2) (by omega) _).mono ?_
    rintro _ h4 ⟨rfl, x4⟩
    have m4 := m3.mono x4
    simp only [ix_nat hb, go_sem, Nat.reduceBEq, Nat.reduceAdd]
    refine hsem_my_cell (A := A) (R := R) (j := 2) tyS9 rfl m4 hpos (Nat.le_of_ble_eq_true rfl) rfl rfl (by omega) fun h5 m5 => ?_
    simp only [ix_nat hb, wq2, go_sem, Nat.reduceBEq, Nat.reduceAdd]
    refine hsem_my_cell (A := A) (R := R) (j := 3) tyS3 rfl m5 hpos (Nat.le_of_ble_eq_true rfl) rfl rfl (by omega) fun h6 m6 => ?_
    simp only [ix_nat hb, wq3, go_sem, Nat.reduceBEq, Nat.reduceAdd]
    obtain ⟨u4, m7⟩ := m6.openAt (A := A) (R := R) (j := 4) rfl
    refine hsem_my_get (A := A) (R := R) (j := 4) tyS24 m7.swap hpos (d := .raw u4) rfl (by omega) fun u' hu' => ?_
    obtain ⟨rfl, _⟩ := Rd_raw.1 hu'
    simp only [go_sem, Nat.reduceBEq]
    refine (markEntryS_c (e.items) (q + 4) (by omega) _ _ _ _ m7).mono ?_
    rintro _ h7 ⟨rfl, m8⟩
    have m9 := m8.closeAt (A := A) (R := R) (j := 4) rfl
    generalize hq4 : q + 4 + cntEs (e.items) = q4 at *
    simp only [go_sem, Nat.reduceBEq]
    rw [wsu]
    have hend : k + cntG cV (l.take (i + 1)) = q4 := by omega
    refine Again.intro (i + 1) (by first | omega | (simp only; omega)) ⟨hb, ?_⟩ (by simp only [hend]; exact (by repeat (first | exact wkF_e | refine wkF_c rfl ?_))) wkB_e rfl
    have m10 := fin _ m9
    rw [← hR] at m10
    exact m10
  · have hb : i = l.length := by simp at hb; omega
    subst hb
    have m1 : My h0 h1 ((.row 5 ((mkG cV mkV1 (l.take l.length) k).flatMap V.dt ++ (l.drop l.length).flatMap V.dt), .slice a l.length c) :: bag) := m1
    rw [List.take_length, List.drop_length, List.flatMap_nil, List.append_nil] at m1
    rw [List.take_length]
    exact ⟨rfl, m1⟩
theorem heldValueS_c (l : List (V)) (k : Nat) (hk : k + cntG cV l ≤ 4611686018427387904) (sl : Value) (h : Hp) (rd : Rd h (.row 5 ((mkG cV mkV1 l k).flatMap V.dt)) sl) :
    ACalls Tryd.prog 36 #[sl, .int .i64 (k : Nat)] h (Is (.int .i64 ((k + cntG cV l : Nat))) h) := by
  have hml := mkG_len (c := cV) (m := mkV1) l k
  obtain ⟨a, c, xs, rfl, hc, hr, hat⟩ := rd.rows (by decide) l.length (by rw [fm_len V.dt_len, hml])
  (refine enter Tryd.func36 rfl rfl (by kernel_rfl) [] ?_; simp only [go_sem])
  refine aloop (ι := Nat) (fun i => [(5, .val (.int .i64 (i : Nat))), (1, .val (.int .i64 ((k + cntG cV (l.take i) : Nat)))), (0, .val (.slice a l.length c))]) (fun _ => []) (fun i h' => i ≤ l.length ∧ Ext h h') (fun i => l.length - i) 0
    ⟨Nat.zero_le _, Ext.refl _⟩ (by repeat (first | exact wkF_e | refine wkF_c rfl ?_)) wkB_e rfl ?_
  rintro i h1 ⟨hi, x1⟩
  have hi : i ≤ l.length := hi
  have x1 : Ext h h1 := x1
  simp only [go_sem, Nat.reduceBEq]
  refine Br.intro (fun hb => ?_) (fun hb => ?_) <;> (try simp only [hb, go_sem, Nat.reduceBEq])
  · have hb : i < l.length := by simpa using hb
    obtain ⟨b, off, rfl, hat0⟩ := hat (by omega)
    have hat1 := hat0.mono x1
    have hr1 := hr.mono x1
    obtain ⟨e, he, hm⟩ := get_lt hb
    have hsn := cntG_snoc (c := cV) he
    rw [cV] at hsn
    have hge := mkG_get (c := cV) (m := mkV1) he k
    have hle := cntG_le (c := cV) he
    rw [cV] at hle
    have hq0 : k + cntG cV (l.take i) ≤ 4611686018427387904 := by omega
    have hlm : l.length ≤ 4611686018427387904 := by have := cntG_pos (c := cV) cV_pos l; omega
    have wsu := wrap_succ (i := i) (by omega)
    generalize hq : k + cntG cV (l.take i) = q at *
    have wq0 : IntKind.i64.wrap (((q : Nat) : Int) + 1) = ((q + 1 : Nat) : Int) := by rw [IntWalk.i64_in _ (by omega)]; rfl
    have wq1 : IntKind.i64.wrap (((q + 1 : Nat) : Int) + 1) = ((q + 2 : Nat) : Int) := by rw [IntWalk.i64_in _ (by omega)]; rfl
    have wq2 : IntKind.i64.wrap (((q + 2 : Nat) : Int) + 1) = ((q + 3 : Nat) : Int) := by rw [IntWalk.i64_in _ (by omega)]; rfl
    have wq3 : IntKind.i64.wrap (((q + 3 : Nat) : Int) + 1) = ((q + 4 : Nat) : Int) := by rw [IntWalk.i64_in _ (by omega)]; rfl
    simp only [ix_nat hb, go_sem, Nat.reduceBEq]
    refine hsem_cell (f := V.dt) (o := 0) V.dt_len tyS3 hat1 hr1 hge (by decide) (by rw [V.dt_eq]; rfl) ?_ fun y0 r0 => ?_
    · omega
    obtain ⟨rfl, _⟩ := Rd_raw.1 r0
    simp only [go_sem, Nat.reduceBEq]
    simp only [mkV1, decide_true, Bool.not_true, ix_nat hb, wq0, go_sem, Nat.reduceBEq]
    refine hsem_cell (f := V.dt) (o := 1) V.dt_len tyS3 hat1 hr1 hge (by decide) (by rw [V.dt_eq]; rfl) ?_ fun y1 r1 => ?_
    · omega
    obtain ⟨rfl, _⟩ := Rd_raw.1 r1
    simp only [go_sem, Nat.reduceBEq]
    simp only [mkV1, decide_true, Bool.not_true, wq1, go_sem, Nat.reduceBEq]
    refine regionD_still (lb := []) (pl := [34]) h1 (Ext.refl _) (by kernel_rfl) ?_
    simp only [ix_nat hb, go_sem, Nat.reduceBEq, Nat.reduceAdd]
    refine hsem_cell (f := V.dt) (o := 2) V.dt_len tyS9 hat1 hr1 hge (by decide) (by rw [V.dt_eq]; rfl) ?_ fun y2 r2 => ?_
    · omega
    obtain ⟨rfl, _⟩ := Rd_raw.1 r2
    simp only [go_sem, Nat.reduceBEq]
    refine (markText_c (q + 2) (by omega) _).mono ?_
    rintro _ h2 ⟨rfl, x2⟩
    simp only [go_sem, Nat.reduceBEq]
    refine ⟨x2, ?_⟩
    have hat2 := hat1.mono x2
    have hr2 := hr1.mono x2
    have X2 := x1.trans x2
    simp only [mkV1, decide_true, Bool.not_true, ix_nat hb, wq2, go_sem, Nat.reduceBEq, Nat.reduceAdd]
    refine hsem_cell (f := V.dt) (o := 3) V.dt_len tyS3 hat2 hr2 hge (by decide) (by rw [V.dt_eq]; rfl) ?_ fun y3 r3 => ?_
    · omega
    obtain ⟨rfl, _⟩ := Rd_raw.1 r3
    simp only [go_sem, Nat.reduceBEq]
    simp only [mkV1, decide_true, Bool.not_true, ix_nat hb, wq3, go_sem, Nat.reduceBEq, Nat.reduceAdd]
    refine hsem_cell (f := V.dt) (o := 4) V.dt_len tyS24 hat2 hr2 hge (by decide) (by rw [V.dt_eq]; rfl) ?_ fun y4 r4 => ?_
    · omega
    simp only [go_sem, Nat.reduceBEq]
    refine (heldEntryS_c (e.items) (q + 4) (by omega) _ _ r4).mono ?_
    rintro _ h3 ⟨rfl, x3⟩
    have hat3 := hat2.mono x3
    have hr3 := hr2.mono x3
    have X3 := X2.trans x3
    generalize hq4 : q + 4 + cntEs (e.items) = q4 at *
    have hneg4 : decide (((q4 : Nat) : Int) < 0) = false := decide_eq_false (by omega)
    simp only [hneg4, go_sem, Nat.reduceBEq]
    rw [wsu]
    have hend : k + cntG cV (l.take (i + 1)) = q4 := by omega
    exact Again.intro (i + 1) (by first | omega | (simp only; omega)) ⟨hb, X3⟩ (by simp only [hend]; exact (by repeat (first | exact wkF_e | refine wkF_c rfl ?_))) wkB_e rfl
  · have hb : i = l.length := by simp at hb; omega
    subst hb
    rw [List.take_length]
    exact ⟨rfl, x1⟩
end Go.Proofs.YtconhonjkfpfmaaDoor
namespace Go.Proofs.YtconhonjkfpfmaaDoor
set_option maxRecDepth 8000
open Go Go.Sx Go.ChangeShapes Go.WideShapes Go.ChangeAt Go.RowKit Go.ChangeMaps
theorem own : ownKnob Tryd.prog.godebug = none := by kernel_rfl
theorem laidOut : laidOutB Tryd.prog = true := by kernel_rfl
set_option maxHeartbeats 1600000 in
theorem FnExactSortValues_law (l : List V) (ok0 : ∀ k ∈ l, k.ok) (l0 : l.length ≤ maxLen) (s0 : Value) (h : Hp) (r0 : Rd h (.row 5 (l.flatMap V.dt)) s0) (hT : Pow h) : ACalls Tryd.prog 6 #[s0] h (Is (.bool true) h) := by
  obtain ⟨sa0, sc0, _, rfl, _⟩ := r0.rows (by decide) l.length (fm_len V.dt_len _)
  (refine enter Tryd.func6 rfl rfl (by kernel_rfl) [] ?_; simp only [go_sem, Nat.reduceBEq])
  (refine (szValueS_c l ok0 l0 _ _ _ r0 (by decide) (by decide)).mono ?_; rintro _ _ ⟨rfl, rfl⟩; simp only [go_sem, Nat.reduceBEq])
  refine Br.intro (fun hb => ?_) (fun hb => ?_) <;> (try simp only [hb, go_sem, Nat.reduceBEq])
  · exact ⟨rfl, Ext.refl _⟩
  have f : 0 ≤ less 1048576 (szG V.bulk l) := by simpa using hb
  have f : (szG V.bulk l) ≤ 1048576 := by unfold less at f; split at f <;> omega
  have hb0 : szG V.bulk l ≤ 1048576 := by omega
  have hbS : szG V.bulk (sortV l) ≤ 1048576 := by rw [sortV_bulk]; exact hb0
  have hC0 := cntV_bulk l
  have hCS := cntV_bulk (sortV l)
  refine (toValueS_c l hb0 _ _ r0).mono ?_
  rintro _ h1 m1
  obtain ⟨a1, c1, rfl, _⟩ := m1.row_shape (by decide) l.length (fm_len V.dt_len _)
  have M1 := m1
  simp only [go_sem, Nat.reduceBEq]
  refine (sSort l ok0 hb0 _ _ M1.rd (hT.ext M1.ext)).mono ?_
  rintro _ h2 ⟨a2, c2, rfl, m2⟩
  have M2 := M1.add m2
  simp only [go_sem, Nat.reduceBEq]
  have M3 := M2.swap.drop
  refine (toValueS_c l hb0 _ _ (r0.mono M3.ext)).mono ?_
  rintro _ h4 m4
  obtain ⟨a4, c4, rfl, _⟩ := m4.row_shape (by decide) l.length (fm_len V.dt_len _)
  have M4 := M3.add m4
  simp only [go_sem, Nat.reduceBEq]
  refine (iSort l ok0 hb0 _ _ M4.rd (hT.ext M4.ext)).mono ?_
  rintro _ h5 ⟨a5, c5, rfl, m5⟩
  have M5 := M4.add m5
  simp only [go_sem, Nat.reduceBEq]
  (refine (eqValueS_c (sortV l) hbS _ _ _ M5.rd (M5.drop.drop).rd).mono ?_; rintro _ _ ⟨rfl, rfl⟩; simp only [go_sem, Nat.reduceBEq])
  refine (toValueS_c l hb0 _ _ (r0.mono M5.ext)).mono ?_
  rintro _ h6 m6
  obtain ⟨a6, c6, rfl, _⟩ := m6.row_shape (by decide) l.length (fm_len V.dt_len _)
  have M6 := M5.add m6
  simp only [go_sem, Nat.reduceBEq]
  (refine (eqValueS_c l hb0 _ _ _ (M6.drop.drop).rd M6.rd).mono ?_; rintro _ _ ⟨rfl, rfl⟩; simp only [go_sem, Nat.reduceBEq])
  have M7 := M6.drop.swap
  refine (markValueS_c l 1 (by omega) _ _ _ _ M7).mono ?_
  rintro _ h8 ⟨rfl, M8⟩
  simp only [nat_neg, go_sem, Nat.reduceBEq]
  (refine (eqValueS_c (sortV l) hbS _ _ _ (M8.drop).rd (M8.drop.drop).rd).mono ?_; rintro _ _ ⟨rfl, rfl⟩; simp only [go_sem, Nat.reduceBEq])
  have M9 := M8.swap
  refine (markValueS_c (sortV l) 1 (by omega) _ _ _ _ M9).mono ?_
  rintro _ h10 ⟨rfl, M10⟩
  simp only [go_sem, Nat.reduceBEq]
  refine (heldValueS_c (sortV l) 1 (by omega) _ _ M10.rd).mono ?_
  rintro _ h11 ⟨rfl, e11⟩
  have M11 := M10.mono e11
  simp only [go_sem, Nat.reduceBEq]
  rw [nat_neg]
  simp only [go_sem, Nat.reduceBEq]
  try simp only [decide_true, Bool.not_true, go_sem, Nat.reduceBEq, Nat.reduceAdd, Nat.reduceLeDiff, Nat.reduceEqDiff, Int.reduceEq, not_false_eq_true, Int.reduceToNat]
  refine (toValueS_c l hb0 _ _ (r0.mono M11.ext)).mono ?_
  rintro _ h12 m12
  obtain ⟨a12, c12, rfl, _⟩ := m12.row_shape (by decide) l.length (fm_len V.dt_len _)
  have M12 := M11.add m12
  simp only [go_sem, Nat.reduceBEq]
  refine (iSort l ok0 hb0 _ _ M12.rd (hT.ext M12.ext)).mono ?_
  rintro _ h13 ⟨a13, c13, rfl, m13⟩
  have M13 := M12.add m13
  simp only [go_sem, Nat.reduceBEq]
  (refine (eqValueS_c (sortV l) hbS _ _ _ M13.rd (M13.drop.drop.drop.drop).rd).mono ?_; rintro _ _ ⟨rfl, rfl⟩; simp only [go_sem, Nat.reduceBEq])
  refine (heldValueS_c (sortV l) 1 (by omega) _ _ (M13.drop.drop).rd).mono ?_
  rintro _ h14 ⟨rfl, e14⟩
  have M14 := M13.mono e14
  simp only [go_sem, Nat.reduceBEq]
  rw [nat_neg]
  simp only [go_sem, Nat.reduceBEq]
  try simp only [decide_true, Bool.not_true, go_sem, Nat.reduceBEq, Nat.reduceAdd, Nat.reduceLeDiff, Nat.reduceEqDiff, Int.reduceEq, not_false_eq_true, Int.reduceToNat]
  exact ⟨rfl, M14.ext⟩
theorem FnExactSortValues_met (os : Os) (args : Array Value) : laidMetH Tryd.prog Rows.fnExactSortValuesRow.laid ((World.doorLaid Tryd.prog 400 os).forCall (fun _ _ => 0) ⟨#[], args, []⟩).memory :=
  laidMetH_of_parts3 (fuel := 8) (laidMet_of_run' 8 (by kernel_rfl) (by kernel_rfl)) (by kernel_rfl) (by kernel_rfl)
set_option maxRecDepth 100000 in
theorem FnExactSortValues_lifted (os : Os) (started : os.Started) (H : Type) (enc : TypeId × Value → H) :
    ReturnsInHanded {} Tryd.checked os 6 .any (fun w args => (Rows.fnExactSortValuesSpec.pre enc Tryd.prog Tryd.f6 Rows.fnExactSortValuesRow.domain false w args ∧ laidMetH Tryd.prog Rows.fnExactSortValuesRow.laid w) ∧ sizedMet enc Tryd.prog Tryd.f6 (OpenSpec.ofChange Rows.fnExactSortValuesSpec) false w args) (Rows.fnExactSortValuesSpec.post enc Tryd.prog Tryd.f6 false true false false) := by
  refine returnsInHanded_of_change_and (C := Tryd.checked) (X := fun w _ => laidMetH Tryd.prog Rows.fnExactSortValuesRow.laid w) (fun _ _ _ hh h => h.of_heap hh) own started (by kernel_rfl) Tryd.func6
    (ChangeSpec.witness_shaped (enc := enc) (C := Tryd.checked) (os := os) (X := fun w _ => laidMetH Tryd.prog Rows.fnExactSortValuesRow.laid w) false (World.doorLaid Tryd.prog 400 os) #[.slice none 0 0] 8 rfl (World.shaped_of_RefB (by kernel_rfl) (by kernel_rfl)) (by kernel_rfl) (by kernel_rfl) (by kernel_rfl) (FnExactSortValues_met os _)) ?_
  intro W base args ds gs before hval0 hW _ _ hL _
  have hT : Pow (vis W) := pow_of (by kernel_rfl) (by rw [MakeChecks.laidMetH_plain _ _ _ (by kernel_rfl)] at hL; exact hL)
  have hval : ∀ (j : Nat) t v, Tryd.f6.params[j]? = some t → args[j]? = some v → Value.okWide Tryd.prog W .any base t v := hval0
  have hW' := hW
  obtain ⟨p, q, hA0, hV, rfl, _, _⟩ := hW
  have hA : DataW.TrodAll enc Tryd.prog W 0 (fun _ => true) true Tryd.f6.params.toList args.toList ds p := hA0
  rw [Tryd.params6] at hA hval
  obtain ⟨v0, vs0, d0, ds0, p0, q0, hargs, rfl, rfl, h0, r0⟩ := trodAll_cons hA
  obtain ⟨rfl, rfl, rfl⟩ := trodAll_nil r0
  obtain rfl : args = #[v0] := by cases args; simp_all
  obtain ⟨rfl, rfl⟩ := trodVars_none hV
  obtain ⟨_, _, _, rfl⟩ := okWide_slice Tryd.underlying54 (hval 0 54 v0 rfl rfl)
  obtain ⟨a0, w0, l0, e0⟩ := openValueS h0 rfl
  clear hA0 hval0
  simp only [List.append_nil] at hW'
  exact (to_below (FnExactSortValues_law a0 w0 l0 _ _ e0 hT)).mono fun e W' ⟨he, hb⟩ => ⟨_, he, law_post laidOut (by kernel_rfl) rfl Tryd.underlying4 rfl hW' rfl rfl rfl hb⟩
theorem FnExactSortValues_proved : Rows.FnExactSortValuesSaid :=
  OpenClaim.holds_of_wide 6 Tryd.f6 rfl rfl rfl rfl rfl rfl rfl ⟨rfl, rfl, rfl, rfl, rfl⟩ rfl rfl rfl rfl rfl (by kernel_rfl) Tryd.func6 (by kernel_rfl)
    (of_decide_eq_true (by kernel_rfl)) (by unfold Func.isWrapper; first | (rw [if_pos (by decide +kernel)]; kernel_rfl) | (rw [if_neg (by decide +kernel)]; exact ⟨rfl, rfl⟩))
    (fun os started H enc _ => FnExactSortValues_lifted os started H enc)
theorem FnExactSortValues_card : Rows.FnExactSortValuesCardSaid :=
  Claim7.holds_tied_plain_at .later [] Rows.fnExactSortValuesCard.laidKinds true Rows.fnExactSortValuesCard.stood.harness Rows.fnExactSortValuesCard.stood.looks
    FnExactSortValues_proved (fun _ h => by cases h) (by kernel_rfl) (fun _ h => by cases h) fnExactSortValues_row_tie rfl ⟨rfl, rfl⟩ (by kernel_rfl) rfl
    (fun f fn hf hfn => by
      obtain rfl : f = 6 := Option.some.inj ((show Tryd.prog.funcNamed Rows.fnExactSortValuesRow.func = some 6 by kernel_rfl).symm.trans hf) |>.symm
      obtain rfl : fn = Tryd.f6 := (Option.some.inj (Tryd.func6.symm.trans hfn)).symm
      exact ⟨by kernel_rfl, fun j t ht => by
        rw [Tryd.params6] at ht
        have hm : t ∈ [54] := by simpa using Array.mem_of_getElem? ht
        have hall : ([54].all fun u => !Tryd.prog.wantsStandIn u) = true := by kernel_rfl
        exact (show Tryd.prog.wantsStandIn t = false by simpa using List.all_eq_true.1 hall t hm)⟩)
    (by kernel_rfl)
end Go.Proofs.YtconhonjkfpfmaaDoor
