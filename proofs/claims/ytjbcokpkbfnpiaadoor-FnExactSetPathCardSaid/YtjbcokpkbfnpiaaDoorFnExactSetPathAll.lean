/-
  The statement FnExactSetPath is proved: for each argument the law returns true; nothing is assumed.
-/
import Derived.Test.YtjbcokpkbfnpiaaDoorValSz
import Derived.Test.YtjbcokpkbfnpiaaDoorFacts
import Derived.Test.YtjbcokpkbfnpiaaDoorSxLaw
import Derived.Test.YtjbcokpkbfnpiaaDoorSxDataT
import Derived.Test.YtjbcokpkbfnpiaaDoorSxOpen
import Derived.Test.YtjbcokpkbfnpiaaDoorSxDataV
import Derived.Test.YtjbcokpkbfnpiaaDoorSetPath
import Derived.Test.YtjbcokpkbfnpiaaDoorValEq
import Derived.Test.YtjbcokpkbfnpiaaDoorRows
import Derived.Test.YtjbcokpkbfnpiaaDoorTie
import Derived.Test.YtjbcokpkbfnpiaaDoorCards
import Derived.ProofKit
import Derived.LaidMore
import Derived.OpenShut
import Derived.Stop.Joined
import Derived.SevenTiedAt
namespace Go.Proofs.YtjbcokpkbfnpiaaDoor
set_option maxRecDepth 8000
open Go Go.Sx
def SzKey (e : Ky) : Prop := ∀ (ys : List Value) (l : Int) (h : Hp), RdL h (Ky.dt e) ys → 0 ≤ l → l ≤ 1048576 → ACalls Tryd.prog 72 #[.agg ys.toArray, .int .i64 l] h (Pu (.int .i64 (less l ((fun e : Ky => e.str.size) e))) h)
theorem szKeyS_s (es : List Ky) (ih : ∀ e ∈ es, SzKey e) (hl : es.length ≤ maxLen) (sl : Value) (l : Int) (h : Hp) (rd : Rd h (.row 3 (es.flatMap Ky.dt)) sl) (l0 : 0 ≤ l) (l1 : l ≤ 1048576) :
    ACalls Tryd.prog 32 #[sl, .int .i64 l] h (Pu (.int .i64 (less l (szG (fun e : Ky => e.str.size) es))) h) := by
  obtain ⟨a, c, xs, rfl, hc, hr, hat⟩ := rd.rows (by decide) es.length (fm_len Ky.dt_len es)
  (refine enter Tryd.func32 rfl rfl (by kernel_rfl) [] ?_; simp only [go_sem, Nat.reduceBEq])
  simp only [less_wrap l0 l1 hl, go_sem]
  refine Br.intro (fun hb => ?_) (fun hb => ?_) <;> (try simp only [hb, go_sem, Nat.reduceBEq])
  · have hb : l - (es.length : Int) < 0 := by simpa using hb
    exact ⟨by unfold szG; rw [less_neg (by unfold less; split <;> omega)], rfl⟩
  · have hb : ¬ l - (es.length : Int) < 0 := by simpa using hb
    have e0 : l - (es.length : Int) = less l (es.length + gsum (fun e : Ky => e.str.size) (es.take 0)) := by unfold less; simp [gsum]; omega
    rw [e0]
    refine aloop (ι := Nat) (fun i => [(5, .val (.int .i64 (i : Nat))), (1, .val (.int .i64 (less l (es.length + gsum (fun e : Ky => e.str.size) (es.take i))))), (0, .val (.slice a es.length c))]) (fun _ => []) (fun i h' => i ≤ es.length ∧ 0 ≤ less l (es.length + gsum (fun e : Ky => e.str.size) (es.take i)) ∧ h = h') (fun i => es.length - i) 0
      ⟨Nat.zero_le _, by rw [← e0]; omega, rfl⟩ (by repeat (first | exact wkF_e | refine wkF_c rfl ?_)) wkB_e rfl ?_
    intro i h1 hx
    have hx : i ≤ es.length ∧ 0 ≤ less l (es.length + gsum (fun e : Ky => e.str.size) (es.take i)) ∧ h = h1 := hx
    have hi := hx.1
    have hf := hx.2.1
    have he := hx.2.2
    clear hx
    subst he
    simp only [go_sem, Nat.reduceBEq]
    refine Br.intro (fun hb => ?_) (fun hb => ?_) <;> (try simp only [hb, go_sem, Nat.reduceBEq])
    · have hb : i < es.length := by simpa using hb
      obtain ⟨b, off, rfl, hat'⟩ := hat (by omega)
      obtain ⟨e, he, hm⟩ := get_lt hb
      simp only [ix_nat hb, go_sem, Nat.reduceBEq]
      refine hsem_row (f := Ky.dt) (o := 0) (ds := Ky.dt e) Ky.dt_len tyS81 hat' hr he (Nat.le_refl _) (by rw [List.drop_zero, List.take_of_length_le (by rw [Ky.dt_len]; exact Nat.le_refl _)]) ?_ fun ys r1 => ?_
      · omega
      simp only [go_sem, Nat.reduceBEq]
      (refine (ih e hm _ _ _ r1 hf (less_le l1)).mono ?_; rintro _ _ ⟨rfl, rfl⟩; simp only [go_sem, Nat.reduceBEq])
      rw [less_add hf, Nat.add_assoc, ← gsum_snoc he]
      refine Br.intro (fun hc => ?_) (fun hc => ?_) <;> (try simp only [hc, go_sem, Nat.reduceBEq])
      · have hc : less l (es.length + gsum (fun e : Ky => e.str.size) (es.take (i + 1))) < 0 := by simpa using hc
        refine ⟨?_, rfl⟩
        unfold szG
        rw [gsum_split (fun e : Ky => e.str.size) es (i + 1), ← Nat.add_assoc, less_neg hc]
      · have hc : 0 ≤ less l (es.length + gsum (fun e : Ky => e.str.size) (es.take (i + 1))) := by simpa using hc
        rw [wrap_succ (i := i) (by unfold maxLen at hl; omega)]
        exact Again.intro (i + 1) (by first | omega | (simp only; omega)) ⟨hb, hc, rfl⟩ (by repeat (first | exact wkF_e | refine wkF_c rfl ?_)) wkB_e rfl
    · have hb : i = es.length := by simp at hb; omega
      subst hb
      refine ⟨?_, rfl⟩
      rw [List.take_length]
      rfl
theorem szKeyS_c (es : List Ky) (ok : ∀ e ∈ es, e.ok) (hl : es.length ≤ maxLen) (sl : Value) (l : Int) (h : Hp) (rd : Rd h (.row 3 (es.flatMap Ky.dt)) sl) (l0 : 0 ≤ l) (l1 : l ≤ 1048576) :
    ACalls Tryd.prog 32 #[sl, .int .i64 l] h (Pu (.int .i64 (less l (szG (fun e : Ky => e.str.size) es))) h) := szKeyS_s es (fun e he ys l h r l0 l1 => by rw [RdL_key r]; exact szKey_c e (ok e he) l l0 l1 h) hl sl l h rd l0 l1
end Go.Proofs.YtjbcokpkbfnpiaaDoor
namespace Go.Proofs.YtjbcokpkbfnpiaaDoor
set_option maxRecDepth 8000
open Go Go.Sx Go.ChangeShapes Go.WideShapes Go.RowKit Go.ChangeMaps
section
variable {H : Type} {enc : TypeId × Value → H} {w : World} {base : Nat} {sp : Nat → Bool} {held : Bool}
theorem openKey {n : Nat} {cs : List Value} {x : DataW H × List MemPlace} (h : DataW.trod enc Tryd.prog w base sp held n 81 cs = some x) : ∃ k : Ky, k.ok ∧ RdL (vis w) k.dt cs := by
  obtain ⟨hl, m, _, hf⟩ := trod_fields Tryd.underlying81 h
  have hl : cs.length = 3 := hl
  match cs, hl with
  | [c0, c1, c2], _ =>
    obtain ⟨y0, h0⟩ := hf 0 _ rfl
    obtain ⟨y1, h1⟩ := hf 1 _ rfl
    obtain ⟨y2, h2⟩ := hf 2 _ rfl
    obtain ⟨b, e0⟩ := trod_bool1 Tryd.underlying4 h0
    obtain ⟨k, e1, b1⟩ := trod_one Tryd.underlying3 h1
    obtain ⟨s, e2, _, b2⟩ := DataW.trod_string Tryd.underlying9 h2
    have e0 : [c0] = [.bool b] := e0
    have e1 : [c1] = [.int .i64 k] := e1
    have e2 : [c2] = [.string s] := e2
    cases e0; cases e1; cases e2
    exact ⟨⟨b, k, s⟩, ⟨b1, b2⟩, by simp only [Ky.dt, RdL_cc, Rd_raw, RdL_nil, true_and, and_true]; exact ⟨rfl, rfl, rfl⟩⟩
theorem openV_ : ∀ (n : Nat) {cs : List Value} {x : DataW H × List MemPlace}, DataW.trod enc Tryd.prog w base sp held n 24 cs = some x → ∃ v : V, v.ok ∧ RdL (vis w) v.dt cs := by
  intro n
  induction n using Nat.strongRecOn with
  | _ n ih =>
    intro cs x h
    obtain ⟨hl, m, hm, hf⟩ := trod_fields Tryd.underlying24 h
    have hl : cs.length = 5 := hl
    match cs, hl with
    | [c0, c1, c2, c3, c4], _ =>
      obtain ⟨y0, h0⟩ := hf 0 _ rfl
      obtain ⟨y1, h1⟩ := hf 1 _ rfl
      obtain ⟨y2, h2⟩ := hf 2 _ rfl
      obtain ⟨y3, h3⟩ := hf 3 _ rfl
      obtain ⟨y4, h4⟩ := hf 4 _ rfl
      obtain ⟨k, e0, b0⟩ := trod_one Tryd.underlying3 h0
      obtain ⟨q, e1, b1⟩ := trod_one Tryd.underlying3 h1
      obtain ⟨s, e2, _, b2⟩ := DataW.trod_string Tryd.underlying9 h2
      obtain ⟨nx, e3, b3⟩ := trod_one Tryd.underlying3 h3
      have e0 : [c0] = [.int .i64 k] := e0
      have e1 : [c1] = [.int .i64 q] := e1
      have e2 : [c2] = [.string s] := e2
      have e3 : [c3] = [.int .i64 nx] := e3
      cases e0; cases e1; cases e2; cases e3
      obtain ⟨es, v, e4, hok, hlen, hrd⟩ := open_list (α := Ky × V) (f := edt) (ok := fun e => e.1.ok ∧ e.2.ok) (z := 8) Tryd.underlying22 (by kernel_rfl) (by decide) (fun n' cs' x' hn' h' => by
        obtain ⟨hl', m', hm', hf'⟩ := trod_fields Tryd.underlying88 h'
        obtain ⟨z0, g0⟩ := hf' 0 _ rfl
        obtain ⟨z1, g1⟩ := hf' 1 _ rfl
        have hl' : cs'.length = 8 := hl'
        obtain ⟨ky, ko, kr⟩ := openKey g0
        obtain ⟨v', vo, vr⟩ := ih m' (by omega) g1
        have kr : RdL (vis w) ky.dt (cs'.take 3) := kr
        have vr : RdL (vis w) v'.dt ((cs'.drop 3).take 5) := vr
        refine ⟨(ky, v'), ⟨ko, vo⟩, ?_⟩
        have : cs' = cs'.take 3 ++ (cs'.drop 3).take 5 := by
          rw [List.take_of_length_le (l := cs'.drop 3) (by rw [List.length_drop]; omega), List.take_append_drop]
        rw [this]
        exact kr.append vr) h4
      have e4 : [c4] = [v] := e4
      cases e4
      refine ⟨⟨k, q, s, nx, es⟩, ?_, ?_⟩
      · simp only [V.ok]
        refine ⟨b0, b1, b2, b3, hlen, ?_⟩
        have : ∀ l : List (Ky × V), (∀ e ∈ l, e.1.ok ∧ e.2.ok) → V.oks l := by
          intro l
          induction l with
          | nil => intro _; simp only [V.oks]
          | cons e r ihl =>
            intro hall
            obtain ⟨ky, v'⟩ := e
            have := hall (ky, v') (by simp)
            simp only [V.oks]
            exact ⟨this.1.1, this.1.2, this.2, ihl fun e he => hall e (by simp [he])⟩
        exact this es hok
      · exact RdL_val_mk (v := ⟨k, q, s, nx, es⟩) hrd
theorem openV {v0 : Value} {d : DataW H} {ps : List MemPlace} {r : Reach} {b0 : Nat} (hval : Value.okWide Tryd.prog w r b0 24 v0) (h : DataW.Trod enc Tryd.prog w base sp held 24 v0 d ps) :
    ∃ (v : V) (sl : Value), v0 = .agg #[.int .i64 v.kind, .int .i64 v.num, .string v.str, .int .i64 v.next, sl] ∧ v.ok ∧ RdE (vis w) v.items sl := by
  obtain ⟨n, h⟩ := h
  obtain ⟨v, hok, hr⟩ := openV_ n h
  obtain ⟨sl, he, hs⟩ := RdL_val hr
  unfold Value.okWide at hval
  rw [Tryd.underlying24] at hval
  obtain ⟨cs, rfl, _⟩ := hval
  refine ⟨v, sl, ?_, hok, hs⟩
  have : cs.toList = _ := he
  rw [← this]
theorem openValueS {v0 : Value} {d : DataW H} {ps : List MemPlace} (h : DataW.Trod enc Tryd.prog w base sp held 36 v0 d ps) (h1 : oneCell v0 = true) :
    ∃ (l : List V), (∀ k ∈ l, k.ok) ∧ l.length ≤ maxLen ∧ Rd (vis w) (.row 5 (l.flatMap V.dt)) v0 := by
  obtain ⟨n, h⟩ := h
  obtain ⟨l, v, e, hok, hlen, hrd⟩ := open_list (α := V) (f := V.dt) (ok := V.ok) (z := 5) Tryd.underlying36 (by kernel_rfl) (by decide) (fun n' cs' x' _ h' => openV_ n' h') h
  have : v0 = v := by cases v0 <;> first | (simp [Value.cells] at e; exact e) | (simp [oneCell] at h1)
  subst this
  exact ⟨l, hok, hlen, hrd⟩
theorem openKeyS {v0 : Value} {d : DataW H} {ps : List MemPlace} (h : DataW.Trod enc Tryd.prog w base sp held 48 v0 d ps) (h1 : oneCell v0 = true) :
    ∃ (l : List Ky), (∀ k ∈ l, k.ok) ∧ l.length ≤ maxLen ∧ Rd (vis w) (.row 3 (l.flatMap Ky.dt)) v0 := by
  obtain ⟨n, h⟩ := h
  obtain ⟨l, v, e, hok, hlen, hrd⟩ := open_list (α := Ky) (f := Ky.dt) (ok := Ky.ok) (z := 3) Tryd.underlying48 (by kernel_rfl) (by decide) (fun n' cs' x' _ h' => openKey h') h
  have : v0 = v := by cases v0 <;> first | (simp [Value.cells] at e; exact e) | (simp [oneCell] at h1)
  subst this
  exact ⟨l, hok, hlen, hrd⟩
end
end Go.Proofs.YtjbcokpkbfnpiaaDoor
namespace Go.Proofs.YtjbcokpkbfnpiaaDoor
set_option maxRecDepth 8000
open Go Go.Sx
theorem dig_byte (k : Nat) : IntKind.u8.wrap (IntKind.i64.wrap (48 + ((k : Nat) : Int).tmod 10)) = (((UInt8.ofNat (48 + k % 10)).toNat : Nat) : Int) := by
  have h1 : ((k : Nat) : Int).tmod 10 = ((k % 10 : Nat) : Int) := by rw [Int.tmod_eq_emod_of_nonneg (by omega)]; rfl
  rw [h1, IntWalk.i64_in _ (by omega)]
  have h2 : (UInt8.ofNat (48 + k % 10)).toNat = 48 + k % 10 := by
    rw [UInt8.toNat_ofNat']; omega
  rw [h2]
  have : k % 10 < 10 := Nat.mod_lt _ (by omega)
  generalize k % 10 = r at *
  have h3 : ∀ r : Nat, r < 10 → IntKind.u8.wrap (48 + (r : Int)) = ((48 + r : Nat) : Int) := by decide
  exact h3 r this
theorem quo10 (k : Nat) (hk : k ≤ 4611686018427387904) : IntKind.i64.wrap (((k : Nat) : Int).tdiv 10) = ((k / 10 : Nat) : Int) := by
  have h1 : ((k : Nat) : Int).tdiv 10 = ((k / 10 : Nat) : Int) := by rw [Int.tdiv_eq_ediv_of_nonneg (by omega)]; rfl
  rw [h1, IntWalk.i64_in _ (by omega)]
theorem markText_c (k : Nat) (hk : k ≤ 4611686018427387904) (h : Hp) : ACalls Tryd.prog 59 #[.int .i64 (k : Nat)] h (Is (.string (mtext k)) h) := by
  (refine enter Tryd.func59 rfl rfl (by kernel_rfl) [] ?_; simp only [go_sem, Nat.reduceBEq])
  refine Br.intro (fun hb => ?_) (fun hb => ?_) <;> (try simp only [hb, go_sem, Nat.reduceBEq])
  · have hb : k = 0 := by have := of_decide_eq_true hb; omega
    subst hb
    exact ⟨by rw [mtext, if_pos rfl], Ext.refl _⟩
  · have hb : 0 < k := by have := of_decide_eq_false hb; omega
    refine aloop (ι := Nat × List UInt8) (fun x => [(0, .val (.int .i64 (x.1 : Nat))), (3, .val (.string ⟨x.2.toArray⟩))]) (fun _ => []) (fun x h' => mdig x.1 x.2 = mdig k [] ∧ x.2.length + x.1 ≤ k ∧ Ext h h') (fun x => x.1) (k, [])
      ⟨rfl, by simp, Ext.refl _⟩ (by repeat (first | exact wkF_e | refine wkF_c rfl ?_)) wkB_e rfl ?_
    rintro ⟨q, l⟩ h1 ⟨hq, hl, he⟩
    have hl : l.length + q ≤ k := hl
    have hq : mdig q l = mdig k [] := hq
    simp only [go_sem, Nat.reduceBEq]
    refine Br.intro (fun hc => ?_) (fun hc => ?_) <;> (try simp only [hc, go_sem, Nat.reduceBEq, Int.reduceEq, not_false_eq_true])
    · have hc : 0 < q := by have := of_decide_eq_true hc; omega
      simp only [dig_byte, go_sem]
      refine bytes_lit1 slT89 (UInt8.ofNat (48 + q % 10)) fun u2 h2 m2 => ?_
      simp only [go_sem, Nat.reduceBEq]
      refine cvK_bytes bytT89 isStr9 m2.rd ?_
      simp only [quo10 q (by omega), go_sem, Nat.reduceBEq, Int.reduceEq, not_false_eq_true]
      refine ⟨by rw [i64max]; simp [ByteArray.size]; omega, ?_⟩
      exact Again.intro (q / 10, UInt8.ofNat (48 + q % 10) :: l) (by simp only; omega) ⟨by rw [← hq, mdig_step hc], by simp only [List.length_cons]; omega, he.trans m2.ext⟩ (by repeat (first | exact wkF_e | refine wkF_c rfl ?_)) wkB_e rfl
    · have hc : q = 0 := by have := of_decide_eq_false hc; omega
      subst hc
      rw [mdig_zero] at hq
      refine ⟨by rw [i64max]; simp [ByteArray.size]; omega, ?_⟩
      refine ⟨?_, he⟩
      rw [mtext, if_neg (by omega), ← hq]
      rfl
end Go.Proofs.YtjbcokpkbfnpiaaDoor
namespace Go.Proofs.YtjbcokpkbfnpiaaDoor
set_option maxRecDepth 8000
open Go Go.Sx
def MkEntryS (l : List (Ky × V)) : Prop := ∀ (k : Nat) (_ : k + cntEs l ≤ 4611686018427387904) (sl : Value) (bag : Bag) (h0 h : Hp) (_ : My h0 h ((.row 8 (l.flatMap edt), sl) :: bag)),
    ACalls Tryd.prog 60 #[sl, .int .i64 (k : Nat)] h fun v h' => v = .int .i64 ((k + cntEs l : Nat)) ∧ My h0 h' ((.row 8 ((mkEs l k).flatMap edt), sl) :: bag)
def HdEntryS (l : List (Ky × V)) : Prop := ∀ (k : Nat) (_ : k + cntEs l ≤ 4611686018427387904) (sl : Value) (h : Hp) (_ : Rd h (.row 8 ((mkEs l k).flatMap edt)) sl),
    ACalls Tryd.prog 61 #[sl, .int .i64 (k : Nat)] h (Is (.int .i64 ((k + cntEs l : Nat))) h)
theorem markEntryS_s (l : List (Ky × V)) (k : Nat) (hk : k + cntEs l ≤ 4611686018427387904) (ih : ∀ e ∈ l, MkEntryS (e.2.items)) (sl : Value) (bag : Bag) (h0 h : Hp) (m : My h0 h ((.row 8 (l.flatMap edt), sl) :: bag)) :
    ACalls Tryd.prog 60 #[sl, .int .i64 (k : Nat)] h fun v h' => v = .int .i64 ((k + cntEs l : Nat)) ∧ My h0 h' ((.row 8 ((mkEs l k).flatMap edt), sl) :: bag) := by
  obtain ⟨a, c, rfl, hc, hcm, hat⟩ := m.row_shape (by decide) l.length (fm_len edt_len l)
  have hlm : l.length ≤ maxLen := Nat.le_trans hc hcm
  (refine enter Tryd.func60 rfl rfl (by kernel_rfl) [] ?_; simp only [go_sem])
  refine aloop (ι := Nat) (fun i => [(5, .val (.int .i64 (i : Nat))), (1, .val (.int .i64 ((k + cntEs (l.take i) : Nat)))), (0, .val (.slice a l.length c))]) (fun _ => []) (fun i h' => i ≤ l.length ∧ My h0 h' ((.row 8 ((mkEs (l.take i) k).flatMap edt ++ (l.drop i).flatMap edt), .slice a l.length c) :: bag)) (fun i => l.length - i) 0
    ⟨Nat.zero_le _, m⟩ (by repeat (first | exact wkF_e | refine wkF_c rfl ?_)) wkB_e rfl ?_
  rintro i h1 ⟨hi, m1⟩
  have hi : i ≤ l.length := hi
  simp only [go_sem, Nat.reduceBEq]
  refine Br.intro (fun hb => ?_) (fun hb => ?_) <;> (try simp only [hb, go_sem, Nat.reduceBEq, Int.reduceEq, not_false_eq_true])
  · have hb : i < l.length := by simpa using hb
    obtain ⟨b, rfl⟩ := hat (by omega)
    have hpos : 0 < l.length := by omega
    obtain ⟨e, he, hm⟩ := get_lt hb
    have hsn := cntEs_snoc he
    have hms := mkEs_snoc he k
    have hle := cntEs_le he
    have hA : ((mkEs (l.take i) k).flatMap edt).length = i * 8 := by rw [fm_len edt_len, mkEs_len, List.length_take]; congr 1; omega
    have m1 : My h0 h1 ((.row 8 ((mkEs (l.take i) k).flatMap edt ++ (l.drop i).flatMap edt), .slice (some ⟨b, 0, none⟩) l.length c) :: bag) := m1
    rw [drop_cons he, List.flatMap_cons, edt_eq] at m1
    have fin : ∀ h' , My h0 h' ((.row 8 ((mkEs (l.take i) k).flatMap edt ++ (edt (mkE (k + cntEs (l.take i)) e) ++ (l.drop (i + 1)).flatMap edt)), .slice (some ⟨b, 0, none⟩) l.length c) :: bag) → My h0 h' ((.row 8 ((mkEs (l.take (i + 1)) k).flatMap edt ++ (l.drop (i + 1)).flatMap edt), .slice (some ⟨b, 0, none⟩) l.length c) :: bag) := fun h' m => by
      rw [hms, List.flatMap_append, List.flatMap_cons, List.flatMap_nil, List.append_nil, List.append_assoc]; exact m
    rw [edt_eq] at fin
    have hq0 : k + cntEs (l.take i) ≤ 4611686018427387904 := by omega
    generalize hq : k + cntEs (l.take i) = q at *
    generalize (mkEs (l.take i) k).flatMap edt = A at *
    generalize hR : (l.drop (i + 1)).flatMap edt = R at *
    have wq0 : IntKind.i64.wrap (((q : Nat) : Int) + 1) = ((q + 1 : Nat) : Int) := by rw [IntWalk.i64_in _ (by omega)]; rfl
    have wq1 : IntKind.i64.wrap (((q + 1 : Nat) : Int) + 1) = ((q + 2 : Nat) : Int) := by rw [IntWalk.i64_in _ (by omega)]; rfl
    have wq2 : IntKind.i64.wrap (((q + 2 : Nat) : Int) + 1) = ((q + 3 : Nat) : Int) := by rw [IntWalk.i64_in _ (by omega)]; rfl
    have wq3 : IntKind.i64.wrap (((q + 3 : Nat) : Int) + 1) = ((q + 4 : Nat) : Int) := by rw [IntWalk.i64_in _ (by omega)]; rfl
    have wq4 : IntKind.i64.wrap (((q + 4 : Nat) : Int) + 1) = ((q + 5 : Nat) : Int) := by rw [IntWalk.i64_in _ (by omega)]; rfl
    have wq5 : IntKind.i64.wrap (((q + 5 : Nat) : Int) + 1) = ((q + 6 : Nat) : Int) := by rw [IntWalk.i64_in _ (by omega)]; rfl
    have wq6 : IntKind.i64.wrap (((q + 6 : Nat) : Int) + 1) = ((q + 7 : Nat) : Int) := by rw [IntWalk.i64_in _ (by omega)]; rfl
    have wsu := wrap_succ (i := i) (by unfold maxLen at hlm; omega)
    simp only [ix_nat hb, go_sem, Nat.reduceBEq]
    refine hsem_my_cell (A := A) (R := R) (j := 0) tyS4 rfl m1 hpos (Nat.le_of_ble_eq_true rfl) rfl rfl (by omega) fun h2 m2 => ?_
    simp only [ix_nat hb, wq0, go_sem, Nat.reduceBEq]
    refine hsem_my_cell (A := A) (R := R) (j := 1) tyS3 rfl m2 hpos (Nat.le_of_ble_eq_true rfl) rfl rfl (by omega) fun h3 m3 => ?_
    simp only [wq1, go_sem, Nat.reduceBEq]
    refine (markText_c (q + 2) (by omega) _).mono ?_
    rintro _ h4 ⟨rfl, x4⟩
    have m4 := m3.mono x4
    simp only [ix_nat hb, go_sem, Nat.reduceBEq, Nat.reduceAdd]
    refine hsem_my_cell (A := A) (R := R) (j := 2) tyS9 rfl m4 hpos (Nat.le_of_ble_eq_true rfl) rfl rfl (by omega) fun h5 m5 => ?_
    simp only [ix_nat hb, wq2, go_sem, Nat.reduceBEq, Nat.reduceAdd]
    refine hsem_my_cell (A := A) (R := R) (j := 3) tyS3 rfl m5 hpos (Nat.le_of_ble_eq_true rfl) rfl rfl (by omega) fun h6 m6 => ?_
    simp only [ix_nat hb, wq3, go_sem, Nat.reduceBEq, Nat.reduceAdd]
    refine hsem_my_cell (A := A) (R := R) (j := 4) tyS3 rfl m6 hpos (Nat.le_of_ble_eq_true rfl) rfl rfl (by omega) fun h7 m7 => ?_
    simp only [wq4, go_sem, Nat.reduceBEq]
    refine (markText_c (q + 5) (by omega) _).mono ?_
    rintro _ h8 ⟨rfl, x8⟩
    have m8 := m7.mono x8
    simp only [ix_nat hb, go_sem, Nat.reduceBEq, Nat.reduceAdd]
    refine hsem_my_cell (A := A) (R := R) (j := 5) tyS9 rfl m8 hpos (Nat.le_of_ble_eq_true rfl) rfl rfl (by omega) fun h9 m9 => ?_
    simp only [ix_nat hb, wq5, go_sem, Nat.reduceBEq, Nat.reduceAdd]
    refine hsem_my_cell (A := A) (R := R) (j := 6) tyS3 rfl m9 hpos (Nat.le_of_ble_eq_true rfl) rfl rfl (by omega) fun h10 m10 => ?_
    simp only [ix_nat hb, wq6, go_sem, Nat.reduceBEq, Nat.reduceAdd]
    obtain ⟨u7, m11⟩ := m10.openAt (A := A) (R := R) (j := 7) rfl
    refine hsem_my_get (A := A) (R := R) (j := 7) tyS28 m11.swap hpos (d := .raw u7) rfl (by omega) fun u' hu' => ?_
    obtain ⟨rfl, _⟩ := Rd_raw.1 hu'
    simp only [go_sem, Nat.reduceBEq]
    refine (ih e hm (q + 7) (by omega) _ _ _ _ m11).mono ?_
    rintro _ h11 ⟨rfl, m12⟩
    have m13 := m12.closeAt (A := A) (R := R) (j := 7) rfl
    generalize hq7 : q + 7 + cntEs (e.2.items) = q7 at *
    simp only [go_sem, Nat.reduceBEq]
    rw [wsu]
    have hend : k + cntEs (l.take (i + 1)) = q7 := by omega
    refine Again.intro (i + 1) (by first | omega | (simp only; omega)) ⟨hb, ?_⟩ (by simp only [hend]; exact (by repeat (first | exact wkF_e | refine wkF_c rfl ?_))) wkB_e rfl
    have m14 := fin _ m13
    rw [← hR] at m14
    exact m14
  · have hb : i = l.length := by simp at hb; omega
    subst hb
    have m1 : My h0 h1 ((.row 8 ((mkEs (l.take l.length) k).flatMap edt ++ (l.drop l.length).flatMap edt), .slice a l.length c) :: bag) := m1
    rw [List.take_length, List.drop_length, List.flatMap_nil, List.append_nil] at m1
    rw [List.take_length]
    exact ⟨rfl, m1⟩
theorem heldEntryS_s (l : List (Ky × V)) (k : Nat) (hk : k + cntEs l ≤ 4611686018427387904) (ih : ∀ e ∈ l, HdEntryS (e.2.items)) (sl : Value) (h : Hp) (rd : Rd h (.row 8 ((mkEs l k).flatMap edt)) sl) :
    ACalls Tryd.prog 61 #[sl, .int .i64 (k : Nat)] h (Is (.int .i64 ((k + cntEs l : Nat))) h) := by
  have hml := mkEs_len l k
  obtain ⟨a, c, xs, rfl, hc, hr, hat⟩ := rd.rows (by decide) l.length (by rw [fm_len edt_len, hml])
  (refine enter Tryd.func61 rfl rfl (by kernel_rfl) [] ?_; simp only [go_sem])
  refine aloop (ι := Nat) (fun i => [(5, .val (.int .i64 (i : Nat))), (1, .val (.int .i64 ((k + cntEs (l.take i) : Nat)))), (0, .val (.slice a l.length c))]) (fun _ => []) (fun i h' => i ≤ l.length ∧ Ext h h') (fun i => l.length - i) 0
    ⟨Nat.zero_le _, Ext.refl _⟩ (by repeat (first | exact wkF_e | refine wkF_c rfl ?_)) wkB_e rfl ?_
  rintro i h1 ⟨hi, x1⟩
  have hi : i ≤ l.length := hi
  have x1 : Ext h h1 := x1
  simp only [go_sem, Nat.reduceBEq]
  refine Br.intro (fun hb => ?_) (fun hb => ?_) <;> (try simp only [hb, go_sem, Nat.reduceBEq])
  · have hb : i < l.length := by simpa using hb
    obtain ⟨b, off, rfl, hat0⟩ := hat (by omega)
    have hat1 := hat0.mono x1
    have hr1 := hr.mono x1
    obtain ⟨e, he, hm⟩ := get_lt hb
    have hsn := cntEs_snoc he
    have hge := mkEs_get he k
    have hle := cntEs_le he
    have hq0 : k + cntEs (l.take i) ≤ 4611686018427387904 := by omega
    have hlm : l.length ≤ 4611686018427387904 := by have := cntEs_pos l; omega
    have wsu := wrap_succ (i := i) (by omega)
    generalize hq : k + cntEs (l.take i) = q at *
    have wq0 : IntKind.i64.wrap (((q : Nat) : Int) + 1) = ((q + 1 : Nat) : Int) := by rw [IntWalk.i64_in _ (by omega)]; rfl
    have wq1 : IntKind.i64.wrap (((q + 1 : Nat) : Int) + 1) = ((q + 2 : Nat) : Int) := by rw [IntWalk.i64_in _ (by omega)]; rfl
    have wq2 : IntKind.i64.wrap (((q + 2 : Nat) : Int) + 1) = ((q + 3 : Nat) : Int) := by rw [IntWalk.i64_in _ (by omega)]; rfl
    have wq3 : IntKind.i64.wrap (((q + 3 : Nat) : Int) + 1) = ((q + 4 : Nat) : Int) := by rw [IntWalk.i64_in _ (by omega)]; rfl
    have wq4 : IntKind.i64.wrap (((q + 4 : Nat) : Int) + 1) = ((q + 5 : Nat) : Int) := by rw [IntWalk.i64_in _ (by omega)]; rfl
    have wq5 : IntKind.i64.wrap (((q + 5 : Nat) : Int) + 1) = ((q + 6 : Nat) : Int) := by rw [IntWalk.i64_in _ (by omega)]; rfl
    have wq6 : IntKind.i64.wrap (((q + 6 : Nat) : Int) + 1) = ((q + 7 : Nat) : Int) := by rw [IntWalk.i64_in _ (by omega)]; rfl
    simp only [ix_nat hb, go_sem, Nat.reduceBEq]
    refine hsem_cell (f := edt) (o := 0) edt_len tyS4 hat1 hr1 hge (by decide) (by rw [edt_eq]; rfl) ?_ fun y0 r0 => ?_
    · omega
    obtain ⟨rfl, _⟩ := Rd_raw.1 r0
    simp only [go_sem, Nat.reduceBEq, Int.reduceEq, not_false_eq_true]
    simp only [mkE, mbit, decide_true, Bool.not_true, go_sem]
    simp only [ix_nat hb, wq0, go_sem, Nat.reduceBEq]
    refine hsem_cell (f := edt) (o := 1) edt_len tyS3 hat1 hr1 hge (by decide) (by rw [edt_eq]; rfl) ?_ fun y1 r1 => ?_
    · omega
    obtain ⟨rfl, _⟩ := Rd_raw.1 r1
    simp only [go_sem, Nat.reduceBEq]
    simp only [mkE, decide_true, Bool.not_true, wq1, go_sem, Nat.reduceBEq]
    refine regionD_still (lb := []) (pl := [39]) h1 (Ext.refl _) (by kernel_rfl) ?_
    simp only [ix_nat hb, go_sem, Nat.reduceBEq, Nat.reduceAdd]
    refine hsem_cell (f := edt) (o := 2) edt_len tyS9 hat1 hr1 hge (by decide) (by rw [edt_eq]; rfl) ?_ fun y2 r2 => ?_
    · omega
    obtain ⟨rfl, _⟩ := Rd_raw.1 r2
    simp only [go_sem, Nat.reduceBEq]
    refine (markText_c (q + 2) (by omega) _).mono ?_
    rintro _ h2 ⟨rfl, x2⟩
    simp only [go_sem, Nat.reduceBEq]
    refine ⟨x2, ?_⟩
    have hat2 := hat1.mono x2
    have hr2 := hr1.mono x2
    have X2 := x1.trans x2
    simp only [mkE, decide_true, Bool.not_true, ix_nat hb, wq2, go_sem, Nat.reduceBEq, Nat.reduceAdd]
    refine hsem_cell (f := edt) (o := 3) edt_len tyS3 hat2 hr2 hge (by decide) (by rw [edt_eq]; rfl) ?_ fun y3 r3 => ?_
    · omega
    obtain ⟨rfl, _⟩ := Rd_raw.1 r3
    simp only [go_sem, Nat.reduceBEq]
    simp only [mkE, decide_true, Bool.not_true, ix_nat hb, wq3, go_sem, Nat.reduceBEq, Nat.reduceAdd]
    refine hsem_cell (f := edt) (o := 4) edt_len tyS3 hat2 hr2 hge (by decide) (by rw [edt_eq]; rfl) ?_ fun y4 r4 => ?_
    · omega
    obtain ⟨rfl, _⟩ := Rd_raw.1 r4
    simp only [go_sem, Nat.reduceBEq]
    simp only [mkE, decide_true, Bool.not_true, wq4, go_sem, Nat.reduceBEq]
    refine regionD_still (lb := []) (pl := [70]) h2 (Ext.refl _) (by kernel_rfl) ?_
    simp only [ix_nat hb, go_sem, Nat.reduceBEq, Nat.reduceAdd]
    refine hsem_cell (f := edt) (o := 5) edt_len tyS9 hat2 hr2 hge (by decide) (by rw [edt_eq]; rfl) ?_ fun y5 r5 => ?_
    · omega
    obtain ⟨rfl, _⟩ := Rd_raw.1 r5
    simp only [go_sem, Nat.reduceBEq]
    refine (markText_c (q + 5) (by omega) _).mono ?_
    rintro _ h3 ⟨rfl, x3⟩
    simp only [go_sem, Nat.reduceBEq]
    refine ⟨x3, ?_⟩
    have hat3 := hat2.mono x3
    have hr3 := hr2.mono x3
    have X3 := X2.trans x3
    simp only [mkE, decide_true, Bool.not_true, ix_nat hb, wq5, go_sem, Nat.reduceBEq, Nat.reduceAdd]
    refine hsem_cell (f := edt) (o := 6) edt_len tyS3 hat3 hr3 hge (by decide) (by rw [edt_eq]; rfl) ?_ fun y6 r6 => ?_
    · omega
    obtain ⟨rfl, _⟩ := Rd_raw.1 r6
    simp only [go_sem, Nat.reduceBEq]
    simp only [mkE, decide_true, Bool.not_true, ix_nat hb, wq6, go_sem, Nat.reduceBEq, Nat.reduceAdd]
    refine hsem_cell (f := edt) (o := 7) edt_len tyS28 hat3 hr3 hge (by decide) (by rw [edt_eq]; rfl) ?_ fun y7 r7 => ?_
    · omega
    simp only [go_sem, Nat.reduceBEq]
    refine (ih e hm (q + 7) (by omega) _ _ r7).mono ?_
    rintro _ h4 ⟨rfl, x4⟩
    have hat4 := hat3.mono x4
    have hr4 := hr3.mono x4
    have X4 := X3.trans x4
    generalize hq7 : q + 7 + cntEs (e.2.items) = q7 at *
    have hneg7 : decide (((q7 : Nat) : Int) < 0) = false := decide_eq_false (by omega)
    simp only [hneg7, go_sem, Nat.reduceBEq]
    rw [wsu]
    have hend : k + cntEs (l.take (i + 1)) = q7 := by omega
    exact Again.intro (i + 1) (by first | omega | (simp only; omega)) ⟨hb, X4⟩ (by simp only [hend]; exact (by repeat (first | exact wkF_e | refine wkF_c rfl ?_))) wkB_e rfl
  · have hb : i = l.length := by simp at hb; omega
    subst hb
    rw [List.take_length]
    exact ⟨rfl, x1⟩
theorem markV_c : ∀ v : V, MkEntryS v.items := V.ind fun v ih k hk sl bag h0 h m => markEntryS_s v.items k hk ih sl bag h0 h m
theorem heldV_c : ∀ v : V, HdEntryS v.items := V.ind fun v ih k hk sl h rd => heldEntryS_s v.items k hk ih sl h rd
theorem markEntryS_c (l : List (Ky × V)) (k : Nat) (hk : k + cntEs l ≤ 4611686018427387904) (sl : Value) (bag : Bag) (h0 h : Hp) (m : My h0 h ((.row 8 (l.flatMap edt), sl) :: bag)) :
    ACalls Tryd.prog 60 #[sl, .int .i64 (k : Nat)] h fun v h' => v = .int .i64 ((k + cntEs l : Nat)) ∧ My h0 h' ((.row 8 ((mkEs l k).flatMap edt), sl) :: bag) := markEntryS_s l k hk (fun e _ => markV_c e.2) sl bag h0 h m
theorem heldEntryS_c (l : List (Ky × V)) (k : Nat) (hk : k + cntEs l ≤ 4611686018427387904) (sl : Value) (h : Hp) (rd : Rd h (.row 8 ((mkEs l k).flatMap edt)) sl) :
    ACalls Tryd.prog 61 #[sl, .int .i64 (k : Nat)] h (Is (.int .i64 ((k + cntEs l : Nat))) h) := heldEntryS_s l k hk (fun e _ => heldV_c e.2) sl h rd
theorem markValue_c (v : V) (k : Nat) (hk : k + cntEs v.items ≤ 4611686018427387904) (sl : Value) (bag : Bag) (h0 h : Hp) (m : My h0 h ((.row 8 (v.items.flatMap edt), sl) :: bag)) :
    ACalls Tryd.prog 30 #[.agg #[.int .i64 v.kind, .int .i64 v.num, .string v.str, .int .i64 v.next, sl], .int .i64 (k : Nat)] h fun u h' => u = .int .i64 ((k + cntEs v.items : Nat)) ∧ My h0 h' ((.row 8 ((mkEs v.items k).flatMap edt), sl) :: bag) := by
  (refine enter Tryd.func30 rfl rfl (by kernel_rfl) [] ?_; simp only [go_sem, Nat.reduceBEq])
  refine (markEntryS_c v.items k hk _ _ _ _ m).mono ?_
  rintro _ h1 ⟨rfl, m1⟩
  simp only [go_sem, Nat.reduceBEq]
  first | exact m1 | exact ⟨rfl, m1⟩
theorem heldValue_c (v : V) (a b x : Int) (s : ByteArray) (k : Nat) (hk : k + cntEs v.items ≤ 4611686018427387904) (sl : Value) (h : Hp) (rd : Rd h (.row 8 ((mkEs v.items k).flatMap edt)) sl) :
    ACalls Tryd.prog 31 #[.agg #[.int .i64 a, .int .i64 b, .string s, .int .i64 x, sl], .int .i64 (k : Nat)] h (Is (.int .i64 ((k + cntEs v.items : Nat))) h) := by
  (refine enter Tryd.func31 rfl rfl (by kernel_rfl) [] ?_; simp only [go_sem, Nat.reduceBEq])
  refine (heldEntryS_c v.items k hk _ _ rd).mono ?_
  rintro _ h1 ⟨rfl, x1⟩
  have hneg : decide (((k + cntEs v.items : Nat) : Int) < 0) = false := decide_eq_false (by omega)
  simp only [hneg, go_sem, Nat.reduceBEq]
  exact ⟨rfl, x1⟩
end Go.Proofs.YtjbcokpkbfnpiaaDoor
namespace Go.Proofs.YtjbcokpkbfnpiaaDoor
set_option maxRecDepth 8000
open Go Go.Sx
theorem markKeyS_c (l : List (Ky)) (k : Nat) (hk : k + cntG cK l ≤ 4611686018427387904) (sl : Value) (bag : Bag) (h0 h : Hp) (m : My h0 h ((.row 3 (l.flatMap Ky.dt), sl) :: bag)) :
    ACalls Tryd.prog 37 #[sl, .int .i64 (k : Nat)] h fun v h' => v = .int .i64 ((k + cntG cK l : Nat)) ∧ My h0 h' ((.row 3 ((mkG cK mkK l k).flatMap Ky.dt), sl) :: bag) := by
  obtain ⟨a, c, rfl, hc, hcm, hat⟩ := m.row_shape (by decide) l.length (fm_len Ky.dt_len l)
  have hlm : l.length ≤ maxLen := Nat.le_trans hc hcm
  (refine enter Tryd.func37 rfl rfl (by kernel_rfl) [] ?_; simp only [go_sem])
  refine aloop (ι := Nat) (fun i => [(5, .val (.int .i64 (i : Nat))), (1, .val (.int .i64 ((k + cntG cK (l.take i) : Nat)))), (0, .val (.slice a l.length c))]) (fun _ => []) (fun i h' => i ≤ l.length ∧ My h0 h' ((.row 3 ((mkG cK mkK (l.take i) k).flatMap Ky.dt ++ (l.drop i).flatMap Ky.dt), .slice a l.length c) :: bag)) (fun i => l.length - i) 0
    ⟨Nat.zero_le _, m⟩ (by repeat (first | exact wkF_e | refine wkF_c rfl ?_)) wkB_e rfl ?_
  rintro i h1 ⟨hi, m1⟩
  have hi : i ≤ l.length := hi
  simp only [go_sem, Nat.reduceBEq]
  refine Br.intro (fun hb => ?_) (fun hb => ?_) <;> (try simp only [hb, go_sem, Nat.reduceBEq, Int.reduceEq, not_false_eq_true])
  · have hb : i < l.length := by simpa using hb
    obtain ⟨b, rfl⟩ := hat (by omega)
    have hpos : 0 < l.length := by omega
    obtain ⟨e, he, hm⟩ := get_lt hb
    have hsn := cntG_snoc (c := cK) he
    rw [cK] at hsn
    have hms := mkG_snoc (c := cK) (m := mkK) he k
    have hle := cntG_le (c := cK) he
    rw [cK] at hle
    have hA : ((mkG cK mkK (l.take i) k).flatMap Ky.dt).length = i * 3 := by rw [fm_len Ky.dt_len, mkG_len, List.length_take]; congr 1; omega
    have m1 : My h0 h1 ((.row 3 ((mkG cK mkK (l.take i) k).flatMap Ky.dt ++ (l.drop i).flatMap Ky.dt), .slice (some ⟨b, 0, none⟩) l.length c) :: bag) := m1
    rw [drop_cons he, List.flatMap_cons, Ky.dt_eq] at m1
    have fin : ∀ h' , My h0 h' ((.row 3 ((mkG cK mkK (l.take i) k).flatMap Ky.dt ++ (Ky.dt (mkK (k + cntG cK (l.take i)) e) ++ (l.drop (i + 1)).flatMap Ky.dt)), .slice (some ⟨b, 0, none⟩) l.length c) :: bag) → My h0 h' ((.row 3 ((mkG cK mkK (l.take (i + 1)) k).flatMap Ky.dt ++ (l.drop (i + 1)).flatMap Ky.dt), .slice (some ⟨b, 0, none⟩) l.length c) :: bag) := fun h' m => by
      rw [hms, List.flatMap_append, List.flatMap_cons, List.flatMap_nil, List.append_nil, List.append_assoc]; exact m
    rw [Ky.dt_eq] at fin
    have hq0 : k + cntG cK (l.take i) ≤ 4611686018427387904 := by omega
    generalize hq : k + cntG cK (l.take i) = q at *
    generalize (mkG cK mkK (l.take i) k).flatMap Ky.dt = A at *
    generalize hR : (l.drop (i + 1)).flatMap Ky.dt = R at *
    have wq0 : IntKind.i64.wrap (((q : Nat) : Int) + 1) = ((q + 1 : Nat) : Int) := by rw [IntWalk.i64_in _ (by omega)]; rfl
    have wq1 : IntKind.i64.wrap (((q + 1 : Nat) : Int) + 1) = ((q + 2 : Nat) : Int) := by rw [IntWalk.i64_in _ (by omega)]; rfl
    have wq2 : IntKind.i64.wrap (((q + 2 : Nat) : Int) + 1) = ((q + 3 : Nat) : Int) := by rw [IntWalk.i64_in _ (by omega)]; rfl
    have wsu := wrap_succ (i := i) (by unfold maxLen at hlm; omega)
    simp only [ix_nat hb, go_sem, Nat.reduceBEq]
    refine hsem_my_cell (A := A) (R := R) (j := 0) tyS4 rfl m1 hpos (Nat.le_of_ble_eq_true rfl) rfl rfl (by omega) fun h2 m2 => ?_
    simp only [ix_nat hb, wq0, go_sem, Nat.reduceBEq]
    refine hsem_my_cell (A := A) (R := R) (j := 1) tyS3 rfl m2 hpos (Nat.le_of_ble_eq_true rfl) rfl rfl (by omega) fun h3 m3 => ?_
    simp only [wq1, go_sem, Nat.reduceBEq]
    refine (markText_c (q + 2) (by omega) _).mono ?_
    rintro _ h4 ⟨rfl, x4⟩
    have m4 := m3.mono x4
    simp only [ix_nat hb, go_sem, Nat.reduceBEq, Nat.reduceAdd]
    refine hsem_my_cell (A := A) (R := R) (j := 2) tyS9 rfl m4 hpos (Nat.le_of_ble_eq_true rfl) rfl rfl (by omega) fun h5 m5 => ?_
    simp only [wq2, go_sem, Nat.reduceBEq]
    rw [wsu]
    have hend : k + cntG cK (l.take (i + 1)) = q + 3 := by omega
    refine Again.intro (i + 1) (by first | omega | (simp only; omega)) ⟨hb, ?_⟩ (by simp only [hend]; exact (by repeat (first | exact wkF_e | refine wkF_c rfl ?_))) wkB_e rfl
    have m6 := fin _ m5
    rw [← hR] at m6
    exact m6
  · have hb : i = l.length := by simp at hb; omega
    subst hb
    have m1 : My h0 h1 ((.row 3 ((mkG cK mkK (l.take l.length) k).flatMap Ky.dt ++ (l.drop l.length).flatMap Ky.dt), .slice a l.length c) :: bag) := m1
    rw [List.take_length, List.drop_length, List.flatMap_nil, List.append_nil] at m1
    rw [List.take_length]
    exact ⟨rfl, m1⟩
end Go.Proofs.YtjbcokpkbfnpiaaDoor
namespace Go.Proofs.YtjbcokpkbfnpiaaDoor
set_option maxRecDepth 8000
open Go Go.Sx Go.ChangeShapes Go.WideShapes Go.ChangeAt Go.RowKit Go.ChangeMaps
theorem own : ownKnob Tryd.prog.godebug = none := by kernel_rfl
theorem laidOut : laidOutB Tryd.prog = true := by kernel_rfl
theorem FnExactSetPath_law (v : V) (ok0 : v.ok) (s0 : Value) (ks : List Ky) (ok1 : ∀ k ∈ ks, k.ok) (l1 : ks.length ≤ maxLen) (s1 : Value) (p : Bool) (x : V) (ok3 : x.ok) (s3 : Value) (h : Hp) (r0 : RdE h v.items s0) (r1 : Rd h (.row 3 (ks.flatMap Ky.dt)) s1) (r3 : RdE h x.items s3) (hE : Env h) : ACalls Tryd.prog 9 #[.agg #[.int .i64 v.kind, .int .i64 v.num, .string v.str, .int .i64 v.next, s0], s1, .bool p, .agg #[.int .i64 x.kind, .int .i64 x.num, .string x.str, .int .i64 x.next, s3]] h (Is (.bool true) h) := by
  obtain ⟨sa0, sc0, _, rfl, _⟩ := r0.rows (by decide) v.items.length (fm_len edt_len _)
  obtain ⟨sa1, sc1, _, rfl, _⟩ := r1.rows (by decide) ks.length (fm_len Ky.dt_len _)
  obtain ⟨sa3, sc3, _, rfl, _⟩ := r3.rows (by decide) x.items.length (fm_len edt_len _)
  (refine enter Tryd.func9 rfl rfl (by kernel_rfl) [] ?_; simp only [go_sem, Nat.reduceBEq, Nat.reduceAdd, Nat.reduceLeDiff])
  (refine (szValue_c v ok0 _ _ _ r0 (by decide) (by decide)).mono ?_; rintro _ _ ⟨rfl, rfl⟩; simp only [go_sem, Nat.reduceBEq])
  refine Br.intro (fun hb => ?_) (fun hb => ?_) <;> (try simp only [hb, go_sem, Nat.reduceBEq])
  · exact ⟨rfl, Ext.refl _⟩
  have f : 0 ≤ less 1048576 (v.bulk) := by simpa using hb
  (refine (szKeyS_c ks ok1 l1 _ _ _ r1 f (less_le (by decide))).mono ?_; rintro _ _ ⟨rfl, rfl⟩; simp only [go_sem, Nat.reduceBEq])
  rw [less_add f]
  refine Br.intro (fun hb => ?_) (fun hb => ?_) <;> (try simp only [hb, go_sem, Nat.reduceBEq, Nat.reduceAdd, Nat.reduceLeDiff])
  · exact ⟨rfl, Ext.refl _⟩
  have f : 0 ≤ less 1048576 ((v.bulk) + szG (fun e : Ky => e.str.size) ks) := by simpa using hb
  (refine (szValue_c x ok3 _ _ _ r3 f (less_le (by decide))).mono ?_; rintro _ _ ⟨rfl, rfl⟩; simp only [go_sem, Nat.reduceBEq])
  rw [less_add f]
  refine Br.intro (fun hb => ?_) (fun hb => ?_) <;> (try simp only [hb, go_sem, Nat.reduceBEq])
  · exact ⟨rfl, Ext.refl _⟩
  have f : 0 ≤ less 1048576 (((v.bulk) + szG (fun e : Ky => e.str.size) ks) + x.bulk) := by simpa using hb
  have f : (((v.bulk) + szG (fun e : Ky => e.str.size) ks) + x.bulk) ≤ 1048576 := by unfold less at f; split at f <;> omega
  have hb0 : v.bulk ≤ 1048576 := by omega
  have hB0 := V.bulk_eq v
  have hC0 := cntEs_bulk v.items
  have hb1 : ks.length ≤ 1048576 := by unfold szG at f; omega
  have hC1 := cntK_len ks
  have hb3 : x.bulk ≤ 1048576 := by omega
  have hB3 := V.bulk_eq x
  have hC3 := cntEs_bulk x.items
  have hW := set_bulk v ks p x
  have hWb := V.bulk_eq (setOf v ks p x).1
  have hkb := kbulk_eq ks
  have hks : ∀ k ∈ ks, k.str.size ≤ 1152921504606846976 := fun k hk => by
    have := gsum_mem (w := fun e : Ky => e.str.size) hk
    unfold szG at f
    omega
  have hR0 := cntEs_bulk (setOf v ks p x).1.items
  refine regionD_intro (lb := [38, 43]) (by kernel_rfl) ?_
  simp only [go_sem, Nat.reduceBEq, Nat.reduceAdd, Nat.reduceLeDiff]
  refine (toV_c v hb0 _ _ r0).mono ?_
  rintro _ h1 ⟨a1, c1, rfl, m1⟩
  have M1 := m1
  simp only [go_sem, Nat.reduceBEq]
  refine (toKeyS_c ks hb1 _ _ (r1.mono M1.ext)).mono ?_
  rintro _ h2 m2
  obtain ⟨a2, c2, rfl, _⟩ := m2.row_shape (by decide) ks.length (fm_len Ky.dt_len _)
  have M2 := M1.add m2
  simp only [go_sem, Nat.reduceBEq, Nat.reduceAdd, Nat.reduceLeDiff]
  refine (toV_c x hb3 _ _ (r3.mono M2.ext)).mono ?_
  rintro _ h3 ⟨a3, c3, rfl, m3⟩
  have M3 := M2.add m3
  simp only [go_sem, Nat.reduceBEq]
  refine (sSetPath v ks p x (by omega) (by omega) (by omega) (by omega) hks _ _ _ _ (M3.drop.drop).rd (M3.drop).rd M3.rd).mono ?_
  rintro _ h4 ⟨a4_0, c4_0,  rfl, m4⟩
  have M4 := M3.add m4
  simp only [go_sem, Nat.reduceBEq, Nat.reduceAdd, Nat.reduceLeDiff]
  have M5 := M4.fourth
  have M6 := M5.drop
  have M7 := M6.third
  have M8 := M7.drop
  have M9 := M8.swap
  have M10 := M9.drop
  refine (toV_c v hb0 _ _ (r0.mono M10.ext)).mono ?_
  rintro _ h11 ⟨a11, c11, rfl, m11⟩
  have M11 := M10.add m11
  simp only [go_sem, Nat.reduceBEq, Nat.reduceAdd, Nat.reduceLeDiff]
  refine (toKeyS_c ks hb1 _ _ (r1.mono M11.ext)).mono ?_
  rintro _ h12 m12
  obtain ⟨a12, c12, rfl, _⟩ := m12.row_shape (by decide) ks.length (fm_len Ky.dt_len _)
  have M12 := M11.add m12
  simp only [go_sem, Nat.reduceBEq, Nat.reduceAdd, Nat.reduceLeDiff]
  refine (toV_c x hb3 _ _ (r3.mono M12.ext)).mono ?_
  rintro _ h13 ⟨a13, c13, rfl, m13⟩
  have M13 := M12.add m13
  simp only [go_sem, Nat.reduceBEq, Nat.reduceAdd, Nat.reduceLeDiff]
  refine (iSetPath v ks p x (by omega) (by omega) (by omega) (by omega) _ _ _ _ (M13.drop.drop).rd (M13.drop).rd M13.rd (hE.ext M13.ext)).mono ?_
  rintro _ h14 ⟨a14_0, c14_0,  rfl, m14⟩
  have M14 := M13.add m14
  simp only [go_sem, Nat.reduceBEq, Nat.reduceAdd, Nat.reduceLeDiff]
  (refine (eqValue_c (setOf v ks p x).1 (by omega) _ _ _ M14.rd (M14.drop.drop.drop.drop).rd).mono ?_; rintro _ _ ⟨rfl, rfl⟩; simp only [go_sem, Nat.reduceBEq])
  refine regionD_intro (lb := [71, 72]) (by kernel_rfl) ?_
  simp only [go_sem, Nat.reduceBEq, Nat.reduceAdd, Nat.reduceLeDiff]
  refine (toV_c v hb0 _ _ (r0.mono M14.ext)).mono ?_
  rintro _ h15 ⟨a15, c15, rfl, m15⟩
  have M15 := M14.add m15
  simp only [go_sem, Nat.reduceBEq]
  (refine (eqValue_c v (by omega) _ _ _ (M15.drop.drop.drop.drop).rd M15.rd).mono ?_; rintro _ _ ⟨rfl, rfl⟩; simp only [go_sem, Nat.reduceBEq])
  have M16 := M15.drop
  refine (toKeyS_c ks hb1 _ _ (r1.mono M16.ext)).mono ?_
  rintro _ h17 m17
  obtain ⟨a17, c17, rfl, _⟩ := m17.row_shape (by decide) ks.length (fm_len Ky.dt_len _)
  have M17 := M16.add m17
  simp only [go_sem, Nat.reduceBEq]
  (refine (eqKeyS_c ks (by omega) _ _ _ (M17.drop.drop.drop).rd M17.rd).mono ?_; rintro _ _ ⟨rfl, rfl⟩; simp only [go_sem, Nat.reduceBEq])
  have M18 := M17.drop
  refine regionD_intro (lb := [81, 82]) (by kernel_rfl) ?_
  simp only [go_sem, Nat.reduceBEq, Nat.reduceAdd, Nat.reduceLeDiff]
  refine (toV_c x hb3 _ _ (r3.mono M18.ext)).mono ?_
  rintro _ h19 ⟨a19, c19, rfl, m19⟩
  have M19 := M18.add m19
  simp only [go_sem, Nat.reduceBEq]
  (refine (eqValue_c x (by omega) _ _ _ (M19.drop.drop).rd M19.rd).mono ?_; rintro _ _ ⟨rfl, rfl⟩; simp only [go_sem, Nat.reduceBEq, Nat.reduceAdd, Nat.reduceLeDiff])
  have M20 := M19.drop
  have M21 := M20.fourth
  refine (markValue_c v 1 (by omega) _ _ _ _ M21).mono ?_
  rintro _ h22 ⟨rfl, M22⟩
  simp only [go_sem, Nat.reduceBEq]
  have M23 := M22.fourth
  refine (markKeyS_c ks (1 + cntEs v.items) (by omega) _ _ _ _ M23).mono ?_
  rintro _ h24 ⟨rfl, M24⟩
  simp only [go_sem, Nat.reduceBEq, Nat.reduceAdd, Nat.reduceLeDiff]
  have M25 := M24.fourth
  refine (markValue_c x ((1 + cntEs v.items) + cntG cK ks) (by omega) _ _ _ _ M25).mono ?_
  rintro _ h26 ⟨rfl, M26⟩
  simp only [nat_neg, go_sem, Nat.reduceBEq, Nat.reduceAdd, Nat.reduceLeDiff]
  (refine (eqValue_c (setOf v ks p x).1 (by omega) _ _ _ (M26.drop.drop.drop).rd (M26.drop.drop.drop.drop).rd).mono ?_; rintro _ _ ⟨rfl, rfl⟩; simp only [go_sem, Nat.reduceBEq, Nat.reduceAdd, Nat.reduceLeDiff])
  have M27 := M26.fourth
  refine (markValue_c (setOf v ks p x).1 1 (by omega) _ _ _ _ M27).mono ?_
  rintro _ h28 ⟨rfl, M28⟩
  simp only [go_sem, Nat.reduceBEq, Nat.reduceAdd, Nat.reduceLeDiff]
  refine (heldValue_c (setOf v ks p x).1 _ _ _ _ 1 (by omega) _ _ M28.rd).mono ?_
  rintro _ h29 ⟨rfl, e29⟩
  have M30 := M28.mono e29
  simp only [go_sem, Nat.reduceBEq]
  rw [nat_neg]
  simp only [go_sem, Nat.reduceBEq]
  refine regionD_intro (lb := [120, 125]) (by kernel_rfl) ?_
  simp only [go_sem, Nat.reduceBEq, Nat.reduceAdd, Nat.reduceLeDiff]
  refine (toV_c v hb0 _ _ (r0.mono M30.ext)).mono ?_
  rintro _ h31 ⟨a31, c31, rfl, m31⟩
  have M31 := M30.add m31
  simp only [go_sem, Nat.reduceBEq]
  refine (toKeyS_c ks hb1 _ _ (r1.mono M31.ext)).mono ?_
  rintro _ h32 m32
  obtain ⟨a32, c32, rfl, _⟩ := m32.row_shape (by decide) ks.length (fm_len Ky.dt_len _)
  have M32 := M31.add m32
  simp only [go_sem, Nat.reduceBEq, Nat.reduceAdd, Nat.reduceLeDiff]
  refine (toV_c x hb3 _ _ (r3.mono M32.ext)).mono ?_
  rintro _ h33 ⟨a33, c33, rfl, m33⟩
  have M33 := M32.add m33
  simp only [go_sem, Nat.reduceBEq]
  refine (iSetPath v ks p x (by omega) (by omega) (by omega) (by omega) _ _ _ _ (M33.drop.drop).rd (M33.drop).rd M33.rd (hE.ext M33.ext)).mono ?_
  rintro _ h34 ⟨a34_0, c34_0,  rfl, m34⟩
  have M34 := M33.add m34
  simp only [go_sem, Nat.reduceBEq, Nat.reduceAdd, Nat.reduceLeDiff]
  have M35 := M34.fourth
  have M36 := M35.drop
  have M37 := M36.third
  have M38 := M37.drop
  have M39 := M38.swap
  have M40 := M39.drop
  (refine (eqValue_c (setOf v ks p x).1 (by omega) _ _ _ M40.rd (M40.drop.drop.drop.drop.drop).rd).mono ?_; rintro _ _ ⟨rfl, rfl⟩; simp only [go_sem, Nat.reduceBEq, Nat.reduceAdd, Nat.reduceLeDiff])
  refine (heldValue_c (setOf v ks p x).1 _ _ _ _ 1 (by omega) _ _ (M40.drop).rd).mono ?_
  rintro _ h41 ⟨rfl, e41⟩
  have M42 := M40.mono e41
  simp only [go_sem, Nat.reduceBEq]
  rw [nat_neg]
  simp only [go_sem, Nat.reduceBEq]
  exact ⟨rfl, M42.ext⟩
theorem FnExactSetPath_met (os : Os) (args : Array Value) : laidMetH Tryd.prog Rows.fnExactSetPathRow.laid ((World.doorLaid Tryd.prog 400 os).forCall (fun _ _ => 0) ⟨#[], args, []⟩).memory :=
  laidMetH_of_parts3 (fuel := 8) (laidMet_of_run' 8 (by kernel_rfl) (by kernel_rfl)) (by kernel_rfl) (by kernel_rfl)
set_option maxRecDepth 100000 in
theorem FnExactSetPath_lifted (os : Os) (started : os.Started) (H : Type) (enc : TypeId × Value → H) :
    ReturnsInHanded {} Tryd.checked os 9 .any (fun w args => (Rows.fnExactSetPathSpec.pre enc Tryd.prog Tryd.f9 Rows.fnExactSetPathRow.domain false w args ∧ laidMetH Tryd.prog Rows.fnExactSetPathRow.laid w) ∧ sizedMet enc Tryd.prog Tryd.f9 (OpenSpec.ofChange Rows.fnExactSetPathSpec) false w args) (Rows.fnExactSetPathSpec.post enc Tryd.prog Tryd.f9 false true false false) := by
  refine returnsInHanded_of_change_and (C := Tryd.checked) (X := fun w _ => laidMetH Tryd.prog Rows.fnExactSetPathRow.laid w) (fun _ _ _ hh h => h.of_heap hh) own started (by kernel_rfl) Tryd.func9
    (ChangeSpec.witness_shaped (enc := enc) (C := Tryd.checked) (os := os) (X := fun w _ => laidMetH Tryd.prog Rows.fnExactSetPathRow.laid w) false (World.doorLaid Tryd.prog 400 os) #[.agg #[.int .i64 0, .int .i64 0, .string ⟨#[]⟩, .int .i64 0, .slice none 0 0], .slice none 0 0, .bool false, .agg #[.int .i64 0, .int .i64 0, .string ⟨#[]⟩, .int .i64 0, .slice none 0 0]] 8 rfl (World.shaped_of_RefB (by kernel_rfl) (by kernel_rfl)) (by kernel_rfl) (by kernel_rfl) (by kernel_rfl) (FnExactSetPath_met os _)) ?_
  intro W base args ds gs before hval0 hW _ _ hL _
  have hT : Pow (vis W) := pow_of (by kernel_rfl) (by rw [MakeChecks.laidMetH_plain _ _ _ (by kernel_rfl)] at hL; exact hL)
  have hE : Env (vis W) := env_of hT (by kernel_rfl) (by kernel_rfl) (by rw [MakeChecks.laidMetH_plain _ _ _ (by kernel_rfl)] at hL; exact hL)
  have hval : ∀ (j : Nat) t v, Tryd.f9.params[j]? = some t → args[j]? = some v → Value.okWide Tryd.prog W .any base t v := hval0
  have hW' := hW
  obtain ⟨p, q, hA0, hV, rfl, _, _⟩ := hW
  have hA : DataW.TrodAll enc Tryd.prog W 0 (fun _ => true) true Tryd.f9.params.toList args.toList ds p := hA0
  rw [Tryd.params9] at hA hval
  obtain ⟨v0, vs0, d0, ds0, p0, q0, hargs, rfl, rfl, h0, r0⟩ := trodAll_cons hA
  obtain ⟨v1, vs1, d1, ds1, p1, q1, rfl, rfl, rfl, h1, r1⟩ := trodAll_cons r0
  obtain ⟨v2, vs2, d2, ds2, p2, q2, rfl, rfl, rfl, h2, r2⟩ := trodAll_cons r1
  obtain ⟨v3, vs3, d3, ds3, p3, q3, rfl, rfl, rfl, h3, r3⟩ := trodAll_cons r2
  obtain ⟨rfl, rfl, rfl⟩ := trodAll_nil r3
  obtain rfl : args = #[v0, v1, v2, v3] := by cases args; simp_all
  obtain ⟨rfl, rfl⟩ := trodVars_none hV
  obtain ⟨a0, s0, rfl, w0, e0⟩ := openV (hval 0 24 v0 rfl rfl) h0
  obtain ⟨_, _, _, rfl⟩ := okWide_slice Tryd.underlying48 (hval 1 48 v1 rfl rfl)
  obtain ⟨a1, w1, l1, e1⟩ := openKeyS h1 rfl
  obtain ⟨a2, rfl, rfl, rfl⟩ := open_bool Tryd.underlying4 (hval 2 4 v2 rfl rfl) h2
  obtain ⟨a3, s3, rfl, w3, e3⟩ := openV (hval 3 24 v3 rfl rfl) h3
  clear hA0 hval0
  simp only [List.append_nil] at hW'
  exact (to_below (FnExactSetPath_law a0 w0 s0 a1 w1 l1 _ a2 a3 w3 s3 _ e0 e1 e3 hE)).mono fun e W' ⟨he, hb⟩ => ⟨_, he, law_post laidOut (by kernel_rfl) rfl Tryd.underlying4 rfl hW' rfl rfl rfl hb⟩
theorem FnExactSetPath_proved : Rows.FnExactSetPathSaid :=
  OpenClaim.holds_of_wide 9 Tryd.f9 rfl rfl rfl rfl rfl rfl rfl ⟨rfl, rfl, rfl, rfl, rfl⟩ rfl rfl rfl rfl rfl (by kernel_rfl) Tryd.func9 (by kernel_rfl)
    (of_decide_eq_true (by kernel_rfl)) (by unfold Func.isWrapper; first | (rw [if_pos (by decide +kernel)]; kernel_rfl) | (rw [if_neg (by decide +kernel)]; exact ⟨rfl, rfl⟩))
    (fun os started H enc _ => FnExactSetPath_lifted os started H enc)
theorem FnExactSetPath_card : Rows.FnExactSetPathCardSaid :=
  Claim7.holds_tied_plain_at .later [] Rows.fnExactSetPathCard.laidKinds true Rows.fnExactSetPathCard.stood.harness Rows.fnExactSetPathCard.stood.looks
    FnExactSetPath_proved (fun _ h => by cases h) (by kernel_rfl) (fun _ h => by cases h) fnExactSetPath_row_tie rfl ⟨rfl, rfl⟩ (by kernel_rfl) rfl
    (fun f fn hf hfn => by
      obtain rfl : f = 9 := Option.some.inj ((show Tryd.prog.funcNamed Rows.fnExactSetPathRow.func = some 9 by kernel_rfl).symm.trans hf) |>.symm
      obtain rfl : fn = Tryd.f9 := (Option.some.inj (Tryd.func9.symm.trans hfn)).symm
      exact ⟨by kernel_rfl, fun j t ht => by
        rw [Tryd.params9] at ht
        have hm : t ∈ [24, 48, 4, 24] := by simpa using Array.mem_of_getElem? ht
        have hall : ([24, 48, 4, 24].all fun u => !Tryd.prog.wantsStandIn u) = true := by kernel_rfl
        exact (show Tryd.prog.wantsStandIn t = false by simpa using List.all_eq_true.1 hall t hm)⟩)
    (by kernel_rfl)
end Go.Proofs.YtjbcokpkbfnpiaaDoor
