/-
  The statement FnCompare is proved: for each argument the law returns true; nothing is assumed.
-/
import Derived.Test.YtconhonjkfpfmaaDoorOrd
import Derived.Test.YtconhonjkfpfmaaDoorIdent
import Derived.Test.YtconhonjkfpfmaaDoorIsVal
import Derived.Test.YtconhonjkfpfmaaDoorNum
import Derived.Test.YtconhonjkfpfmaaDoorSxCur
import Derived.Test.YtconhonjkfpfmaaDoorSxMathW
import Derived.Test.YtconhonjkfpfmaaDoorFind
import Derived.Test.YtconhonjkfpfmaaDoorSxDataV
import Derived.Test.YtconhonjkfpfmaaDoorSxHole
import Derived.Test.YtconhonjkfpfmaaDoorSxCurV
import Derived.Test.YtconhonjkfpfmaaDoorSxStill
import Derived.Test.YtconhonjkfpfmaaDoorFacts
import Derived.Test.YtconhonjkfpfmaaDoorSxOpen
import Derived.Test.YtconhonjkfpfmaaDoorSxOwn
import Derived.Test.YtconhonjkfpfmaaDoorRows
import Derived.Test.YtconhonjkfpfmaaDoorTie
import Derived.Test.YtconhonjkfpfmaaDoorCards
import Derived.ProofKit
import Derived.LaidMore
import Derived.OpenShut
import Derived.Stop.Joined
import Derived.SevenTiedAt
namespace Go.Proofs.YtconhonjkfpfmaaDoor
set_option maxRecDepth 8000
open Go Go.Sx
theorem bytes_opp : ∀ a b : List UInt8, Lib.compareBytes a b = -Lib.compareBytes b a
  | [], [] => by decide
  | [], _ :: _ => by simp [Lib.compareBytes]
  | _ :: _, [] => by simp [Lib.compareBytes]
  | a :: x, b :: y => by
    have ih := bytes_opp x y
    simp only [Lib.compareBytes]
    have k1 : a < b ↔ a.toNat < b.toNat := UInt8.lt_iff_toNat_lt
    have k2 : b < a ↔ b.toNat < a.toNat := UInt8.lt_iff_toNat_lt
    by_cases h : a < b
    · have h3 : ¬ b < a := fun k => by have := k2.1 k; have := k1.1 h; omega
      simp only [if_pos h, if_neg h3]
    · by_cases h2 : b < a
      · simp only [if_neg h, if_pos h2]
        rfl
      · simp only [if_neg h, if_neg h2]
        exact ih
theorem cmpB_opp (a b : ByteArray) : cmpB a b = -cmpB b a := bytes_opp _ _
theorem cmpB_self (a : ByteArray) : cmpB a a = 0 := (cmp_zero _ _).2 rfl
theorem cmpI_opp (a b : Int) : cmpI a b = -cmpI b a := by
  unfold cmpI
  by_cases h : a < b
  · have h3 : ¬ b < a := by omega
    simp only [if_pos h, if_neg h3]
  · by_cases h2 : b < a
    · simp only [if_neg h, if_pos h2]
      rfl
    · simp only [if_neg h, if_neg h2]
      rfl
theorem cmpI_self (a : Int) : cmpI a a = 0 := cmpI_eq (by omega) (by omega)
theorem cmpB_three (a b : ByteArray) : cmpB a b = -1 ∨ cmpB a b = 0 ∨ cmpB a b = 1 := cmp_three _ _
theorem cmpI_three (a b : Int) : cmpI a b = -1 ∨ cmpI a b = 0 ∨ cmpI a b = 1 := by
  unfold cmpI
  split
  · exact .inl rfl
  · split
    · exact .inr (.inr rfl)
    · exact .inr (.inl rfl)
def three (x : Int) : Prop := x = -1 ∨ x = 0 ∨ x = 1
/-- the opposite order, between scalars -/
theorem cmp_opp {a b : V} (ha : 0 ≤ a.kind ∧ a.kind ≤ 3) (hb : 0 ≤ b.kind ∧ b.kind ≤ 3) : three (V.cmp a b) ∧ V.cmp a b = -V.cmp b a := by
  have bB : ∀ x y, three (cmpB x y) ∧ cmpB x y = -cmpB y x := fun x y => ⟨cmpB_three x y, cmpB_opp x y⟩
  have bI : ∀ x y, three (cmpI x y) ∧ cmpI x y = -cmpI y x := fun x y => ⟨cmpI_three x y, cmpI_opp x y⟩
  rw [V.cmp_eq, V.cmp_eq]
  unfold cmp0
  by_cases c1 : a.kind = 0 ∧ b.kind = 3
  · have d1 : ¬ (b.kind = 0 ∧ a.kind = 3) := by omega
    have d2 : b.kind = 3 ∧ a.kind = 0 := ⟨c1.2, c1.1⟩
    rw [if_pos c1, if_neg d1, if_pos d2]
    exact bB _ _
  have d2 : ¬ (b.kind = 3 ∧ a.kind = 0) := by omega
  by_cases c2 : a.kind = 3 ∧ b.kind = 0
  · have d1 : b.kind = 0 ∧ a.kind = 3 := ⟨c2.2, c2.1⟩
    rw [if_neg c1, if_pos c2, if_pos d1]
    exact bB _ _
  have d1 : ¬ (b.kind = 0 ∧ a.kind = 3) := by omega
  rw [if_neg c1, if_neg c2, if_neg d1, if_neg d2]
  by_cases c3 : (0 ≤ a.kind ∧ a.kind ≤ 1) ∨ (0 ≤ b.kind ∧ b.kind ≤ 1)
  · have d3 : (0 ≤ b.kind ∧ b.kind ≤ 1) ∨ (0 ≤ a.kind ∧ a.kind ≤ 1) := c3.symm
    rw [if_pos c3, if_pos d3]
    exact bI _ _
  have d3 : ¬ ((0 ≤ b.kind ∧ b.kind ≤ 1) ∨ (0 ≤ a.kind ∧ a.kind ≤ 1)) := fun k => c3 k.symm
  rw [if_neg c3, if_neg d3]
  by_cases c4 : (toNum a).2 = 0 ∧ (toNum b).2 = 0
  · have d4 : (toNum b).2 = 0 ∧ (toNum a).2 = 0 := ⟨c4.2, c4.1⟩
    rw [if_pos c4, if_pos d4]
    exact bI _ _
  have d4 : ¬ ((toNum b).2 = 0 ∧ (toNum a).2 = 0) := fun k => c4 ⟨k.2, k.1⟩
  have c5 : (2 ≤ a.kind ∧ a.kind ≤ 3) ∧ (2 ≤ b.kind ∧ b.kind ≤ 3) := by omega
  have d5 : (2 ≤ b.kind ∧ b.kind ≤ 3) ∧ (2 ≤ a.kind ∧ a.kind ≤ 3) := by omega
  rw [if_neg c4, if_neg d4, if_pos c5, if_pos d5]
  exact bB _ _
theorem same_parts {a b : V} (h : V.same a b = true) : a.kind = b.kind ∧ a.num = b.num ∧ a.str = b.str ∧ a.items.length = b.items.length ∧ sameEs a.items b.items = true := by
  rw [V.same_eq] at h
  simpa [Bool.and_eq_true, decide_eq_true_eq] using h
theorem fk_app : ∀ (q : List (Ky × V)) (k : Ky) (v : V) (s : List (Ky × V)) (n : Nat), k ∉ q.map (·.1) → fk (q ++ (k, v) :: s) k n = some (n + q.length)
  | [], k, v, s, n, _ => by simp [fk]
  | e :: q, k, v, s, n, h => by
    simp only [List.map_cons, List.mem_cons, not_or] at h
    rw [List.cons_append, fk, if_neg (fun e => h.1 e.symm), fk_app q k v s (n + 1) h.2, List.length_cons]
    congr 1
    omega
theorem same_cmps {a b : V} (hk : b.kind = 4) (ih : ∀ e ∈ a.items, ∀ w, e.2.wf = true → V.same e.2 w = true → V.cmp e.2 w = 0) :
    ∀ (r s p q : List (Ky × V)) (x : Int), (∀ e ∈ r, e ∈ a.items) → b.items = q ++ s → p.map (·.1) = q.map (·.1) → r.length = s.length → sameEs r s = true → wfEs x r (p.map (·.1)) = true → cmpEs r b = 0
  | [], s, p, q, x, _, _, _, _, _, _ => cmpEs_nil b
  | (k, v) :: r, [], p, q, x, _, _, _, hl, _, _ => by simp at hl
  | (k, v) :: r, (k', v') :: s, p, q, x, hm, hb, hp, hl, hs, hw => by
    rw [sameEs_cons] at hs
    rw [wfEs_cons] at hw
    simp only [Bool.and_eq_true, Bool.not_eq_true', decide_eq_true_eq, decide_eq_false_iff_not] at hs hw
    obtain ⟨hkk, hv, hr⟩ := hs
    obtain ⟨_, hseen, _, hwv, hwr⟩ := hw
    have hkk : k = k' := hkk
    subst hkk
    have hget : b.get k = some v' := by
      have hf : b.find k = some q.length := by
        unfold V.find
        rw [if_pos hk, hb, fk_app q k v' s 0 (by rw [← hp]; exact hseen), Nat.zero_add]
      unfold V.get
      rw [hf, hb]
      simp
    have h0 := ih (k, v) (hm _ (List.mem_cons_self ..)) v' hwv hv
    rw [cmpEs_cons]
    simp only [hget, h0, if_true]
    refine same_cmps hk ih r s (p ++ [(k, v)]) (q ++ [(k, v')]) x (fun e he => hm e (List.mem_cons_of_mem _ he)) ?_ ?_ (by simpa using hl) hr ?_
    · rw [hb]; simp
    · simp [hp]
    · simpa using hwr
/-- identical values are equal, where the first is valid -/
theorem same_cmp : ∀ a : V, ∀ b, a.wf = true → V.same a b = true → V.cmp a b = 0 := V.ind fun a ih b hw hs => by
  obtain ⟨h1, h2, h3, h4, h5⟩ := same_parts hs
  have hb : toBool a = toBool b := by unfold toBool; rw [h1, h2, h3, h4]
  have hn : toNum a = toNum b := by unfold toNum toInt; rw [hb, h1, h2, h3]
  have ht : V.toText a = V.toText b := by unfold V.toText; rw [h1, h2, h3]
  rw [V.cmp_eq]
  unfold cmp0
  rw [if_neg (fun k => by omega), if_neg (fun k => by omega)]
  by_cases c3 : (0 ≤ a.kind ∧ a.kind ≤ 1) ∨ (0 ≤ b.kind ∧ b.kind ≤ 1)
  · rw [if_pos c3, hb]
    exact cmpI_self _
  rw [if_neg c3]
  by_cases c4 : (toNum a).2 = 0 ∧ (toNum b).2 = 0
  · rw [if_pos c4, hn]
    exact cmpI_self _
  rw [if_neg c4]
  by_cases c5 : (2 ≤ a.kind ∧ a.kind ≤ 3) ∧ (2 ≤ b.kind ∧ b.kind ≤ 3)
  · rw [if_pos c5, ht]
    exact cmpB_self _
  rw [if_neg c5]
  by_cases c6 : a.kind = 4
  · rw [if_pos ⟨c6, h1 ▸ c6⟩]
    unfold arrCmp
    rw [if_pos h4]
    rw [V.wf_eq] at hw
    unfold wf0 at hw
    simp only [c6, Bool.and_eq_true] at hw
    have hw : wfEs a.next a.items [] = true := by
      have := hw.2
      simp at this
      exact this.2.2
    exact same_cmps (h1 ▸ c6) ih a.items b.items [] [] a.next (fun e he => he) rfl rfl h4 h5 hw
  · rw [if_neg (fun k => c6 k.1), if_neg c6, if_neg (fun k => c6 (h1.trans k)), if_pos ⟨h1, h2⟩]
mutual
theorem same_self : ∀ a : V, V.same a a = true
  | ⟨k, n, s, x, es⟩ => by
    rw [V.same]
    simp only [decide_true, Bool.true_and]
    exact sames_self es
theorem sames_self : ∀ es : List (Ky × V), sameEs es es = true
  | [] => sameEs_nil _
  | (k, v) :: r => by
    rw [sameEs]
    simp only [decide_true, Bool.true_and, same_self v, sames_self r]
end
theorem valid_kind {v : V} (h : v.valid = true) (h3 : v.kind ≤ 3) : 0 ≤ v.kind ∧ v.kind ≤ 3 := by
  unfold V.valid at h
  rw [Bool.and_eq_true] at h
  have hw := h.2
  rw [V.wf_eq] at hw
  unfold wf0 at hw
  rw [Bool.and_eq_true] at hw
  have hw := hw.2
  by_cases h0 : 0 ≤ v.kind
  · exact ⟨h0, h3⟩
  · rw [if_neg (by omega), if_neg (by omega), if_neg (by omega), if_neg (by omega), if_neg (by omega), if_neg (by omega)] at hw
    cases hw
theorem valid_wf {v : V} (h : v.valid = true) : v.wf = true := by
  unfold V.valid at h
  rw [Bool.and_eq_true] at h
  exact h.2
end Go.Proofs.YtconhonjkfpfmaaDoor
namespace Go.Proofs.YtconhonjkfpfmaaDoor
set_option maxRecDepth 8000
open Go Go.Sx
section
variable {h0 h : Hp} {bag : Bag} {l : List UInt8} {p : Nat}
def NewP (h0 : Hp) (l : List UInt8) (bag : Bag) (u : Value) (h' : Hp) : Prop := ∃ p, u = pv p ∧ CurM h0 h' l p bag
theorem l1New_c (hl : l.length ≤ 1048576) {sl : Value} (rd : RdS h0 1 sl (bcells l)) (m : My h0 h bag) : ACalls Tryd.prog 37 #[sl] h (NewP h0 l bag) := by
  obtain ⟨a, c, b, off, rfl, hat⟩ := rd.bytes
  have e0 := m.ext
  have hat : ∀ i, i < l.length → At h ⟨b, off, none⟩ (bcells l) ∧ ixA (some 1) a l.length (i : Int) = some (.pointer (some ⟨b, off + i * 1, none⟩)) ∧ (bcells l)[i]? = some (.int .u8 ((l.getD i 0).toNat : Nat)) := fun i hi => hat i hi h e0
  (refine enter Tryd.func37 rfl rfl (by kernel_rfl) [31] ?_; simp only [go_sem, Nat.reduceBEq])
  generalize IntKind.i64.wrap (193017 + (l.length : Nat)) = hh0
  refine aloop (ι := Nat × Int) (fun x => [(4, .val (.int .i64 (x.1 : Nat))), (3, .val (.int .i64 x.2)), (0, .val (.slice a l.length c))]) (fun _ => [])
    (fun x h' => x.1 ≤ l.length ∧ h' = h) (fun x => l.length - x.1) (0, hh0) ⟨Nat.zero_le _, rfl⟩ (by repeat (first | exact wkF_e | refine wkF_c rfl ?_)) wkB_e rfl ?_
  rintro ⟨i, hh⟩ _ ⟨hi, rfl⟩
  have hi : i ≤ l.length := hi
  have fin : ∀ {p : Nat} {h' : Hp}, My h0 h' ((.ptr [] [.raw (.slice a l.length c), .raw (.int .i64 0), .raw (.int .i64 hh)] [], .pointer (some ⟨p, 0, none⟩)) :: bag) → NewP h0 l bag (.pointer (some ⟨p, 0, none⟩)) h' := fun {p h'} m' => ⟨p, rfl, a, c, 0, hh, Nat.zero_le _, rd, m'⟩
  have wsu := wrap_succ (i := i) (by omega)
  by_cases hb2 : i < l.length
  case neg =>
    simp only [show decide ((i : Int) < (l.length : Nat)) = false from decide_eq_false (by omega), go_sem, Nat.reduceBEq, Nat.reduceAdd, Nat.reduceLeDiff]
    refine hsem_my_box (es := [.raw (.slice a l.length c), .raw (.int .i64 0), .raw (.int .i64 hh)]) (m.raws3) rfl fun p h' m' => ?_
    simp only [go_sem, Nat.reduceBEq]
    exact fin m'
  obtain ⟨h1, h2, h3⟩ := hat i hb2
  by_cases h4 : (i : Int) < 4000
  case neg =>
    simp only [show decide ((i : Int) < (l.length : Nat)) = true from decide_eq_true (by omega), decide_eq_false h4, go_sem, Nat.reduceBEq, Nat.reduceAdd, Nat.reduceLeDiff]
    refine hsem_my_box (es := [.raw (.slice a l.length c), .raw (.int .i64 0), .raw (.int .i64 hh)]) (m.raws3) rfl fun p h' m' => ?_
    simp only [go_sem, Nat.reduceBEq]
    exact fin m'
  simp only [show decide ((i : Int) < (l.length : Nat)) = true from decide_eq_true (by omega), decide_eq_true h4, h2, go_sem, Nat.reduceBEq]
  refine hsem_at1 tyS5 h1 h3 (by omega) ?_
  simp only [wsu, vbin_an, go_sem, Nat.reduceBEq]
  exact Again.intro (i + 1, _) (by first | omega | (simp only; omega)) ⟨hb2, rfl⟩ (by repeat (first | exact wkF_e | refine wkF_c rfl ?_)) wkB_e rfl
theorem l1Byte_c (hl : l.length ≤ 1048576) (m : CurM h0 h l p bag) : ACalls Tryd.prog 87 #[pv p] h (NumP 0 255 h0 l p bag) := by
  obtain ⟨a, c, i, hh, hi, rd, m⟩ := m
  obtain ⟨a', c', b, off, e', hat⟩ := rd.bytes
  cases e'
  (refine enter Tryd.func87 rfl rfl (by kernel_rfl) [] ?_; simp only [go_sem, Nat.reduceBEq])
  refine cu_ldH tyS3 m rfl ?_
  simp only [go_sem, Nat.reduceBEq, Nat.reduceAdd]
  refine cu_stH tyS3 m rfl fun h1 m => ?_
  try refine ⟨trivial, ?_⟩
  simp only [go_sem, Nat.reduceAdd]
  generalize IntKind.i64.wrap (IntKind.i64.wrap (hh * 6364136223846793005) + 1442695040888963407) = hh1 at m ⊢
  refine regionD_intro (lb := []) (by kernel_rfl) ?_
  simp only [go_sem, Nat.reduceBEq]
  refine cu_ldH tyS3 m rfl ?_
  simp only [vbin_shr33, go_sem, Nat.reduceBEq, Nat.reduceAdd]
  refine cu_ldH tyS3 m rfl ?_
  simp only [vbin_shr47, vbin_xor, go_sem, Nat.reduceBEq, Nat.reduceAdd]
  generalize xr (hh1.fdiv 8589934592) (hh1.fdiv 140737488355328) = y
  have hx := (vbin_and255 (P := Tryd.prog) (t := 3) (nc := false) y).choose_spec
  generalize (vbin_and255 (P := Tryd.prog) (t := 3) (nc := false) y).choose = x at hx
  simp only [hx.2, go_sem, Nat.reduceBEq]
  refine regionD_intro (lb := []) (by kernel_rfl) ?_
  simp only [go_sem, Nat.reduceBEq]
  refine cu_ldI tyS3 m rfl ?_
  simp only [go_sem, Nat.reduceBEq]
  refine cu_ldB tyS22 m rfl ?_
  simp only [go_sem, Nat.reduceBEq]
  refine Br.intro (fun hb => ?_) (fun hb => ?_)
  · have hb1 := of_decide_eq_true hb
    have hb2 : i < l.length := by omega
    have h3 := hat i hb2 h1 m.ext
    have wsu := wrap_succ (i := i) (by omega)
    simp only [hb, go_sem]
    refine regionD_intro (lb := []) (by kernel_rfl) ?_
    simp only [go_sem, Nat.reduceBEq]
    refine cu_ldB tyS22 m rfl ?_
    simp only [go_sem, Nat.reduceBEq]
    refine cu_ldI tyS3 m rfl ?_
    simp only [h3.2.1, go_sem, Nat.reduceBEq]
    refine hsem_at1 tyS5 h3.1 h3.2.2 (by omega) ?_
    simp only [go_sem, Nat.reduceBEq]
    generalize IntKind.i64.wrap ((x : Nat) + IntKind.i64.wrap ((l.getD i 0).toNat : Nat)) = y2
    have hx2 := (vbin_and255 (P := Tryd.prog) (t := 3) (nc := false) y2).choose_spec
    generalize (vbin_and255 (P := Tryd.prog) (t := 3) (nc := false) y2).choose = x2 at hx2
    simp only [hx2.2, go_sem, Nat.reduceBEq]
    refine cu_ldI tyS3 m rfl ?_
    simp only [wsu, go_sem, Nat.reduceBEq]
    refine cu_stI tyS3 m rfl fun h2 m => ?_
    try refine ⟨trivial, ?_⟩
    simp only [go_sem, Nat.reduceBEq]
    exact ⟨(x2 : Nat), rfl, by omega, by omega, a, c, i + 1, hh1, hb2, rd, m⟩
  · simp only [hb, go_sem, Nat.reduceBEq]
    exact ⟨(x : Nat), rfl, by omega, by omega, a, c, i, hh1, hi, rd, m⟩
theorem l1Below_c (hl : l.length ≤ 1048576) (m : CurM h0 h l p bag) (n : Int) (hn : 0 < n) (hn2 : n ≤ 1048576) : ACalls Tryd.prog 53 #[pv p, .int .i64 n] h (NumP 0 (n - 1) h0 l p bag) := by
  have hz : (n = 0) = False := eq_false (by omega)
  have f1 : decide (n ≤ 0) = false := decide_eq_false (by omega)
  (refine enter Tryd.func53 rfl rfl (by kernel_rfl) [] ?_; simp only [go_sem, Nat.reduceBEq])
  simp only [f1, go_sem, Nat.reduceBEq]
  by_cases h2 : n ≤ 256
  · simp only [decide_eq_true h2, go_sem, Nat.reduceBEq]
    refine (l1Byte_c hl m).mono ?_
    rintro _ h1 ⟨x, rfl, x0, x1, m1⟩
    simp only [hz, if_false, go_sem, Nat.reduceBEq]
    exact ⟨x.tmod n, rfl, Int.tmod_nonneg _ x0, by have := Int.tmod_lt_of_pos x hn; omega, m1⟩
  · simp only [decide_eq_false h2, go_sem, Nat.reduceBEq]
    refine (l1Byte_c hl m).mono ?_
    rintro _ h1 ⟨x, rfl, x0, x1, m1⟩
    simp only [go_sem, Nat.reduceBEq]
    refine (l1Byte_c hl m1).mono ?_
    rintro _ h2 ⟨y, rfl, y0, y1, m2⟩
    simp only [go_sem, Nat.reduceBEq]
    refine (l1Byte_c hl m2).mono ?_
    rintro _ h3 ⟨z, rfl, z0, z1, m3⟩
    have w1 : IntKind.i64.wrap (x * 65536) = x * 65536 := IntWalk.i64_in _ (by omega)
    have w2 : IntKind.i64.wrap (y * 256) = y * 256 := IntWalk.i64_in _ (by omega)
    have w3 : IntKind.i64.wrap (x * 65536 + y * 256) = x * 65536 + y * 256 := IntWalk.i64_in _ (by omega)
    have w4 : IntKind.i64.wrap (x * 65536 + y * 256 + z) = x * 65536 + y * 256 + z := IntWalk.i64_in _ (by omega)
    simp only [w1, w2, w3, w4, hz, if_false, go_sem, Nat.reduceBEq]
    exact ⟨(x * 65536 + y * 256 + z).tmod n, rfl, Int.tmod_nonneg _ (by omega), by have := Int.tmod_lt_of_pos (x * 65536 + y * 256 + z) hn; omega, m3⟩
theorem l1Once_c (hl : l.length ≤ 1048576) (m : CurM h0 h l p bag) (n : Int) (hn : 0 < n) (hn2 : n ≤ 1048576) : ACalls Tryd.prog 56 #[pv p, .int .i64 n] h (BoolP h0 l p bag) := by
  (refine enter Tryd.func56 rfl rfl (by kernel_rfl) [] ?_; simp only [go_sem, Nat.reduceBEq])
  refine (l1Below_c hl m n hn hn2).mono ?_
  rintro _ h1 ⟨x, rfl, x0, x1, m1⟩
  simp only [go_sem, Nat.reduceBEq]
  exact ⟨_, rfl, m1⟩
theorem l1Int_c (hl : l.length ≤ 1048576) {v : Value} {ns : List Int} (m : CurM h0 h l p ((.row 1 (ns.flatMap idt), v) :: bag)) (hn : 0 < ns.length) (hn2 : ns.length ≤ 1048576) : ACalls Tryd.prog 83 #[pv p, v] h (IntP ns h0 l p ((.row 1 (ns.flatMap idt), v) :: bag)) := by
  obtain ⟨b, c, rfl⟩ := m.row0 hn (fm_len idt_len _)
  (refine enter Tryd.func83 rfl rfl (by kernel_rfl) [] ?_; simp only [go_sem, Nat.reduceBEq])
  refine (l1Below_c hl m ns.length (by omega) (by omega)).mono ?_
  rintro _ h1 ⟨x, rfl, x0, x1, m1⟩
  obtain ⟨j, rfl⟩ := Int.eq_ofNat_of_zero_le x0
  have hj : j < ns.length := by omega
  obtain ⟨xs, hr, hat⟩ := m1.my.at_
  obtain ⟨e, he, hm⟩ := get_lt hj
  simp only [ix_nat hj, go_sem, Nat.reduceBEq]
  refine hsem_cell (f := idt) (o := 0) (d := .raw (.int .i64 e)) idt_len tyS3 (hat hn) hr he (by decide) rfl (by omega) fun v rv => ?_
  obtain ⟨rfl, _⟩ := Rd_raw.1 rv
  simp only [go_sem, Nat.reduceBEq]
  exact ⟨e, hm, rfl, m1⟩
theorem l1Str_c (hl : l.length ≤ 1048576) {v : Value} {ns : List ByteArray} (m : CurM h0 h l p ((.row 1 (ns.flatMap sdt), v) :: bag)) (hn : 0 < ns.length) (hn2 : ns.length ≤ 1048576) : ACalls Tryd.prog 58 #[pv p, v] h (StrP ns h0 l p ((.row 1 (ns.flatMap sdt), v) :: bag)) := by
  obtain ⟨b, c, rfl⟩ := m.row0 hn (fm_len sdt_len _)
  (refine enter Tryd.func58 rfl rfl (by kernel_rfl) [] ?_; simp only [go_sem, Nat.reduceBEq])
  refine (l1Below_c hl m ns.length (by omega) (by omega)).mono ?_
  rintro _ h1 ⟨x, rfl, x0, x1, m1⟩
  obtain ⟨j, rfl⟩ := Int.eq_ofNat_of_zero_le x0
  have hj : j < ns.length := by omega
  obtain ⟨xs, hr, hat⟩ := m1.my.at_
  obtain ⟨e, he, hm⟩ := get_lt hj
  simp only [ix_nat hj, go_sem, Nat.reduceBEq]
  refine hsem_cell (f := sdt) (o := 0) (d := .raw (.string e)) sdt_len tyS9 (hat hn) hr he (by decide) rfl (by omega) fun v rv => ?_
  obtain ⟨rfl, _⟩ := Rd_raw.1 rv
  simp only [go_sem, Nat.reduceBEq]
  exact ⟨e, hm, rfl, m1⟩
end
end Go.Proofs.YtconhonjkfpfmaaDoor
namespace Go.Proofs.YtconhonjkfpfmaaDoor
set_option maxRecDepth 8000
open Go Go.Sx
theorem bulks_mem' : ∀ {es : List (Ky × V)} {e : Ky × V}, e ∈ es → V.bulks e.2.items ≤ V.bulks es
  | (k, v) :: r, e, he => by
    simp only [V.bulks, V.bulk_eq]
    cases he with
    | head => simp only; omega
    | tail _ he => have := bulks_mem' he; omega
theorem bulks_len' : ∀ es : List (Ky × V), es.length ≤ V.bulks es
  | [] => Nat.le_refl _
  | (k, v) :: r => by
    have := bulks_len' r
    simp only [V.bulks, List.length_cons]
    omega
def Made (h : Hp) (v : V) (u : Value) (h' : Hp) : Prop := ∃ a c, u = .agg #[.int .i64 v.kind, .int .i64 v.num, .string v.str, .int .i64 v.next, .slice a v.items.length c] ∧ My h h' [(.row 8 (v.items.flatMap edt), .slice a v.items.length c)]
def CopyI (v : V) : Prop := V.bulks v.items ≤ 1099511627776 → ∀ (h : Hp) (sl : Value), RdE h v.items sl →
  ACalls Tryd.prog 69 #[.agg #[.int .i64 v.kind, .int .i64 v.num, .string v.str, .int .i64 v.next, sl]] h (Made h v)
theorem copyValue_c : ∀ v, CopyI v := V.ind fun v ih hbk h sl rd => by
  have hlen := bulks_len' v.items
  obtain ⟨a, c, xs, rfl, hc, hr, hat⟩ := rd.rows (by decide) v.items.length (fm_len edt_len _)
  (refine enter Tryd.func69 rfl rfl (by kernel_rfl) [] ?_; simp only [go_sem, Nat.reduceBEq, Nat.reduceAdd, Nat.reduceLeDiff])
  refine aloop (ι := Nat × Value) (fun x => [(11, .val (.int .i64 (x.1 : Nat))), (10, .val (.int .i64 (v.items.length : Nat))), (9, .val (.slice a v.items.length c)), (3, .box 3 0), (2, .box 2 0)])
    (fun x => [(3, [.int .i64 v.kind, .int .i64 v.num, .string v.str, .int .i64 v.next, x.2]), (2, [.int .i64 0, .int .i64 0, .string ⟨#[]⟩, .int .i64 0, .slice none 0 0])])
    (fun x h' => x.1 ≤ v.items.length ∧ My h h' [(.row 8 ((v.items.take x.1).flatMap edt), x.2)]) (fun x => v.items.length - x.1) (0, .slice none 0 0)
    ⟨Nat.zero_le _, (My.nil (Ext.refl h)).nilrow⟩ (by repeat (first | exact wkF_e | refine wkF_c rfl ?_)) (wkB_c rfl (wkB_c rfl wkB_e)) rfl ?_
  rintro ⟨i, o⟩ h1 ⟨hi, m1⟩
  have hi : i ≤ v.items.length := hi
  have m1 : My h h1 [(.row 8 ((v.items.take i).flatMap edt), o)] := m1
  have htl : ((v.items.take i).flatMap edt).length = i * 8 := by rw [fm_len edt_len, List.length_take, Nat.min_eq_left hi]
  obtain ⟨ao, co, rfl, _⟩ := m1.row_shape (by decide) i htl
  simp only [go_sem, Nat.reduceBEq]
  refine Br.intro (fun hb => ?_) (fun hb => ?_) <;> (try simp only [hb, go_sem, Nat.reduceBEq, Nat.reduceAdd, Nat.reduceLeDiff])
  · have hb : i < v.items.length := by simpa using hb
    obtain ⟨b, off, rfl, hat'⟩ := hat (by omega)
    have hat1 := hat'.mono m1.ext
    have hr1 := hr.mono m1.ext
    obtain ⟨e, he, hm⟩ := get_lt hb
    have wsu := wrap_succ (i := i) (by omega)
    simp only [ix_nat hb, go_sem, Nat.reduceBEq]
    refine hsem_entry tyS69 hat1 hr1 he rfl fun s2 rd2 => ?_
    obtain ⟨a2, c2, _, rfl, _⟩ := rd2.rows (by decide) e.2.items.length (fm_len edt_len _)
    simp only [go_sem, Nat.reduceBEq, Nat.reduceAdd, Nat.reduceLeDiff]
    refine regionD_intro (lb := [16, 18, 20]) (by kernel_rfl) ?_
    simp only [go_sem, Nat.reduceBEq, Nat.reduceAdd, Nat.reduceLeDiff]
    refine (ih e hm (by have := bulks_mem' hm; omega) _ _ rd2).mono ?_
    rintro _ h2 ⟨a3, c3, rfl, m2⟩
    simp only [go_sem, Nat.reduceBEq, Nat.reduceAdd, Nat.reduceLeDiff]
    have m3 := (m1.add m2)
    refine hsem_my_lit (h0 := h) (es := edt e) (parts := [(0, .agg #[.bool e.1.text, .int .i64 e.1.num, .string e.1.str, .int .i64 e.2.kind, .int .i64 e.2.num, .string e.2.str, .int .i64 e.2.next, .slice a3 e.2.items.length c3])]) slT24 (by decide) (by decide) (by decide) rfl rfl (by simp [Value.cells]) (bag := [(.row 8 ((v.items.take i).flatMap edt), .slice ao i co)]) ?_ rfl (edt_len e) fun l4 h4 m4 => ?_
    · simp only [edt_eq, flat, List.flatMap_cons, List.flatMap_nil, List.append_nil, cells_agg, List.zip_cons_cons, List.zip_nil_right, List.cons_append, List.nil_append, My.raw_iff, one_bool, one_int, one_str, and_self, true_and]
      exact m3
    simp only [go_sem, Nat.reduceBEq]
    refine hsem_my_append slT24 (by decide) rfl i 1 m4.swap htl (edt_len e) (by show (i + 1) * 96 ≤ _; omega) (by omega) fun l5 h5 m5 => ?_
    have m5 : My h h5 [(.row 8 ((v.items.take i).flatMap edt ++ edt e), l5)] := m5
    have e5 : (v.items.take i).flatMap edt ++ edt e = (v.items.take (i + 1)).flatMap edt := by rw [take_snoc he, List.flatMap_append, List.flatMap_cons, List.flatMap_nil, List.append_nil]
    rw [e5] at m5
    obtain ⟨a6, c6, rfl, _⟩ := m5.row_shape (by decide) (i + 1) (by rw [fm_len edt_len, List.length_take, Nat.min_eq_left hb])
    simp only [wsu, go_sem, Nat.reduceBEq, Nat.reduceAdd, Nat.reduceLeDiff]
    exact Again.intro (i + 1, .slice a6 (i + 1) c6) (by first | omega | (simp only; omega)) ⟨hb, m5⟩ (by repeat (first | exact wkF_e | refine wkF_c rfl ?_)) (wkB_c rfl (wkB_c rfl wkB_e)) rfl
  · have hb : i = v.items.length := by simp at hb; omega
    subst hb
    rw [List.take_length] at m1
    try simp only [go_sem, Nat.reduceBEq, Nat.reduceAdd, Nat.reduceLeDiff, Nat.reduceEqDiff, Int.reduceEq, not_false_eq_true, Int.reduceToNat]
    exact ⟨_, _, rfl, m1⟩
def CopyS (v : V) : Prop := V.bulks v.items ≤ 1099511627776 → ∀ (h : Hp) (sl : Value), RdE h v.items sl →
  ACalls Tryd.prog 74 #[.agg #[.int .i64 v.kind, .int .i64 v.num, .string v.str, .int .i64 v.next, sl]] h (Made h v)
theorem l5Copy_c : ∀ v, CopyS v := V.ind fun v ih hbk h sl rd => by
  have hlen := bulks_len' v.items
  obtain ⟨a, c, xs, rfl, hc, hr, hat⟩ := rd.rows (by decide) v.items.length (fm_len edt_len _)
  (refine enter Tryd.func74 rfl rfl (by kernel_rfl) [] ?_; simp only [go_sem, Nat.reduceBEq, Nat.reduceAdd, Nat.reduceLeDiff])
  refine aloop (ι := Nat × Value) (fun x => [(4, .val (.int .i64 (x.1 : Nat))), (1, .box 1 0), (3, .box 3 0), (2, .box 2 0)])
    (fun x => [(3, [.int .i64 v.kind, .int .i64 v.num, .string v.str, .int .i64 v.next, x.2]), (1, [.int .i64 v.kind, .int .i64 v.num, .string v.str, .int .i64 v.next, .slice a v.items.length c]), (2, [.int .i64 0, .int .i64 0, .string ⟨#[]⟩, .int .i64 0, .slice none 0 0])])
    (fun x h' => x.1 ≤ v.items.length ∧ My h h' [(.row 8 ((v.items.take x.1).flatMap edt), x.2)]) (fun x => v.items.length - x.1) (0, .slice none 0 0)
    ⟨Nat.zero_le _, (My.nil (Ext.refl h)).nilrow⟩ (by repeat (first | exact wkF_e | refine wkF_c rfl ?_)) (wkB_c rfl (wkB_c rfl (wkB_c rfl wkB_e))) rfl ?_
  rintro ⟨i, o⟩ h1 ⟨hi, m1⟩
  have hi : i ≤ v.items.length := hi
  have m1 : My h h1 [(.row 8 ((v.items.take i).flatMap edt), o)] := m1
  have htl : ((v.items.take i).flatMap edt).length = i * 8 := by rw [fm_len edt_len, List.length_take, Nat.min_eq_left hi]
  obtain ⟨ao, co, rfl, _⟩ := m1.row_shape (by decide) i htl
  simp only [go_sem, Nat.reduceBEq]
  refine Br.intro (fun hb => ?_) (fun hb => ?_) <;> (try simp only [hb, go_sem, Nat.reduceBEq, Nat.reduceAdd, Nat.reduceLeDiff])
  · have hb : i < v.items.length := by simpa using hb
    obtain ⟨b, off, rfl, hat'⟩ := hat (by omega)
    have hat1 := hat'.mono m1.ext
    have hr1 := hr.mono m1.ext
    obtain ⟨e, he, hm⟩ := get_lt hb
    have wsu := wrap_succ (i := i) (by omega)
    refine regionD_still (lb := [15, 17, 23]) (pl := [21]) h m1.ext (by kernel_rfl) ?_
    simp only [ix_nat hb, go_sem, Nat.reduceBEq]
    refine hsem_ekey tyS40 hat' hr he rfl ?_
    simp only [ix_nat hb, go_sem, Nat.reduceBEq, Nat.reduceAdd]
    refine hsem_eval tyS26 hat1 hr1 he rfl fun s2 rd2 => ?_
    simp only [go_sem, Nat.reduceBEq]
    refine (ih e hm (by have := bulks_mem' hm; omega) _ _ rd2).mono ?_
    rintro _ h2 ⟨a3, c3, rfl, m2⟩
    simp only [go_sem, Nat.reduceBEq, Nat.reduceAdd, Nat.reduceLeDiff]
    refine ⟨m1.ext.trans m2.ext, ?_⟩
    have m3 := (m1.add m2)
    refine hsem_my_lit (h0 := h) (es := edt e) (parts := [(0, .agg #[.bool e.1.text, .int .i64 e.1.num, .string e.1.str, .int .i64 e.2.kind, .int .i64 e.2.num, .string e.2.str, .int .i64 e.2.next, .slice a3 e.2.items.length c3])]) slT24 (by decide) (by decide) (by decide) rfl rfl (by simp [Value.cells]) (bag := [(.row 8 ((v.items.take i).flatMap edt), .slice ao i co)]) ?_ rfl (edt_len e) fun l4 h4 m4 => ?_
    · simp only [edt_eq, flat, List.flatMap_cons, List.flatMap_nil, List.append_nil, cells_agg, List.zip_cons_cons, List.zip_nil_right, List.cons_append, List.nil_append, My.raw_iff, one_bool, one_int, one_str, and_self, true_and]
      exact m3
    simp only [go_sem, Nat.reduceBEq]
    refine ⟨m4.ext, ?_⟩
    refine hsem_my_append slT24 (by decide) rfl i 1 m4.swap htl (edt_len e) (by show (i + 1) * 96 ≤ _; omega) (by omega) fun l5 h5 m5 => ?_
    have m5 : My h h5 [(.row 8 ((v.items.take i).flatMap edt ++ edt e), l5)] := m5
    have e5 : (v.items.take i).flatMap edt ++ edt e = (v.items.take (i + 1)).flatMap edt := by rw [take_snoc he, List.flatMap_append, List.flatMap_cons, List.flatMap_nil, List.append_nil]
    rw [e5] at m5
    obtain ⟨a6, c6, rfl, _⟩ := m5.row_shape (by decide) (i + 1) (by rw [fm_len edt_len, List.length_take, Nat.min_eq_left hb])
    simp only [wsu, go_sem, Nat.reduceBEq, Nat.reduceAdd, Nat.reduceLeDiff]
    refine ⟨m5.ext, ?_⟩
    exact Again.intro (i + 1, .slice a6 (i + 1) c6) (by first | omega | (simp only; omega)) ⟨hb, m5⟩ (by repeat (first | exact wkF_e | refine wkF_c rfl ?_)) (wkB_c rfl (wkB_c rfl (wkB_c rfl wkB_e))) rfl
  · have hb : i = v.items.length := by simp at hb; omega
    subst hb
    rw [List.take_length] at m1
    try simp only [go_sem, Nat.reduceBEq, Nat.reduceAdd, Nat.reduceLeDiff, Nat.reduceEqDiff, Int.reduceEq, not_false_eq_true, Int.reduceToNat]
    exact ⟨_, _, rfl, m1⟩
end Go.Proofs.YtconhonjkfpfmaaDoor
namespace Go.Proofs.YtconhonjkfpfmaaDoor
set_option maxRecDepth 8000
open Go Go.Sx
section
variable {h0 h : Hp} {bag : Bag} {l : List UInt8} {p : Nat}
theorem i64_lo : IntKind.i64.min = -9223372036854775808 := by decide
theorem i64_hi : IntKind.i64.max = 9223372036854775807 := by decide
theorem wrap_ok (x : Int) : IntKind.i64.min ≤ IntKind.i64.wrap x ∧ IntKind.i64.wrap x ≤ IntKind.i64.max := by
  rw [i64_lo, i64_hi]
  unfold IntKind.wrap
  have hb : IntKind.i64.bits = 64 := rfl
  have hs : IntKind.i64.signed = true := rfl
  have hp : (2 : Int) ^ 64 = 18446744073709551616 := by decide
  have hq : (2 : Int) ^ (64 - 1) = 9223372036854775808 := by decide
  simp only [hb, hs, hp, hq, Bool.true_and, decide_eq_true_eq]
  split <;> omega
def AnyP (h0 : Hp) (l : List UInt8) (p : Nat) (bag : Bag) (u : Value) (h' : Hp) : Prop := ∃ n : Int, u = .int .i64 n ∧ (IntKind.i64.min ≤ n ∧ n ≤ IntKind.i64.max) ∧ CurM h0 h' l p bag
theorem l1Odd_c (hl : l.length ≤ 1048576) (m : CurM h0 h l p bag) : ACalls Tryd.prog 82 #[pv p] h (AnyP h0 l p bag) := by
  (refine enter Tryd.func82 rfl rfl (by kernel_rfl) [] ?_; simp only [go_sem, Nat.reduceBEq])
  refine cur_ints [-1, 0, 1, 2, 255, 256, 65535, 2147483647, 2147483648, 4294967295, 4294967296, -2147483648, 9223372036854775807, -9223372036854775808] slT99 rfl rfl rfl (by decide) (by decide) m fun v h1 m1 => ?_
  simp only [go_sem, Nat.reduceBEq]
  refine (l1Int_c hl m1 (by decide) (by decide)).mono ?_
  rintro _ h2 ⟨n, hn, rfl, m2⟩
  simp only [go_sem, Nat.reduceBEq]
  have hr : ∀ n ∈ ([-1, 0, 1, 2, 255, 256, 65535, 2147483647, 2147483648, 4294967295, 4294967296, -2147483648, 9223372036854775807, -9223372036854775808] : List Int), IntKind.i64.min ≤ n ∧ n ≤ IntKind.i64.max := by decide
  exact ⟨n, rfl, hr n hn, m2.drop⟩
theorem l1Num_c (hl : l.length ≤ 1048576) (m : CurM h0 h l p bag) : ACalls Tryd.prog 88 #[pv p] h (NumP 0 1000000000000 h0 l p bag) := by
  (refine enter Tryd.func88 rfl rfl (by kernel_rfl) [] ?_; simp only [go_sem, Nat.reduceBEq])
  refine (l1Below_c hl m 4 (by decide) (by decide)).mono ?_
  rintro _ h1 ⟨x, rfl, x0, x1, m1⟩
  simp only [go_sem, Nat.reduceBEq]
  by_cases c0 : x = 0
  · simp only [decide_eq_true c0, go_sem, Nat.reduceBEq]
    refine (l1Below_c hl m1 2000 (by decide) (by decide)).mono ?_
    rintro _ h2 ⟨y, rfl, y0, y1, m2⟩
    simp only [go_sem, Nat.reduceBEq]
    exact ⟨y, rfl, y0, by omega, m2⟩
  simp only [decide_eq_false c0, go_sem, Nat.reduceBEq]
  by_cases c1 : x = 1
  · simp only [decide_eq_true c1, go_sem, Nat.reduceBEq]
    refine cur_ints [0, 1, 127, 128, 999999999, 1000000000, 1000000001, 2147483647, 1000000000000] slT99 rfl rfl rfl (by decide) (by decide) m1 fun v h2 m2 => ?_
    simp only [go_sem, Nat.reduceBEq]
    refine (l1Int_c hl m2 (by decide) (by decide)).mono ?_
    rintro _ h3 ⟨n, hn, rfl, m3⟩
    simp only [go_sem, Nat.reduceBEq]
    have hr : ∀ n ∈ ([0, 1, 127, 128, 999999999, 1000000000, 1000000001, 2147483647, 1000000000000] : List Int), 0 ≤ n ∧ n ≤ 1000000000000 := by decide
    exact ⟨n, rfl, (hr n hn).1, (hr n hn).2, m3.drop⟩
  simp only [decide_eq_false c1, go_sem, Nat.reduceBEq]
  by_cases c2 : x = 2
  · simp only [decide_eq_true c2, go_sem, Nat.reduceBEq]
    refine (l1Below_c hl m1 1000000 (by decide) (by decide)).mono ?_
    rintro _ h2 ⟨y, rfl, y0, y1, m2⟩
    simp only [go_sem, Nat.reduceBEq]
    refine (l1Below_c hl m2 1000000 (by decide) (by decide)).mono ?_
    rintro _ h3 ⟨z, rfl, z0, z1, m3⟩
    have q0 : 0 ≤ y * z := Int.mul_nonneg y0 z0
    have q1 : y * z ≤ 1000000 * 1000000 := Int.mul_le_mul (by omega) (by omega) z0 (by decide)
    have w : IntKind.i64.wrap (y * z) = y * z := IntWalk.i64_in _ (by omega)
    simp only [w, go_sem, Nat.reduceBEq]
    exact ⟨y * z, rfl, q0, by omega, m3⟩
  simp only [decide_eq_false c2, go_sem, Nat.reduceBEq]
  refine (l1Below_c hl m1 20 (by decide) (by decide)).mono ?_
  rintro _ h2 ⟨y, rfl, y0, y1, m2⟩
  simp only [go_sem, Nat.reduceBEq]
  exact ⟨y, rfl, y0, by omega, m2⟩
theorem l1One_c (hl : l.length ≤ 1048576) (m : CurM h0 h l p bag) : ACalls Tryd.prog 54 #[pv p] h (AnyP h0 l p bag) := by
  have lo := i64_lo
  have hi := i64_hi
  (refine enter Tryd.func54 rfl rfl (by kernel_rfl) [] ?_; simp only [go_sem, Nat.reduceBEq])
  refine (l1Below_c hl m 8 (by decide) (by decide)).mono ?_
  rintro _ h1 ⟨x, rfl, x0, x1, m1⟩
  simp only [go_sem, Nat.reduceBEq]
  by_cases c0 : x = 0
  · simp only [decide_eq_true c0, go_sem, Nat.reduceBEq]
    refine (l1Odd_c hl m1).mono ?_
    rintro _ h2 ⟨y, rfl, y0, m2⟩
    simp only [go_sem, Nat.reduceBEq]
    exact ⟨y, rfl, y0, m2⟩
  simp only [decide_eq_false c0, go_sem, Nat.reduceBEq]
  by_cases c1 : x = 1
  · simp only [decide_eq_true c1, go_sem, Nat.reduceBEq]
    refine (l1Num_c hl m1).mono ?_
    rintro _ h2 ⟨y, rfl, y0, y1, m2⟩
    simp only [go_sem, Nat.reduceBEq]
    exact ⟨_, rfl, wrap_ok _, m2⟩
  simp only [decide_eq_false c1, go_sem, Nat.reduceBEq]
  refine (l1Num_c hl m1).mono ?_
  rintro _ h2 ⟨y, rfl, y0, y1, m2⟩
  simp only [go_sem, Nat.reduceBEq]
  exact ⟨y, rfl, by omega, m2⟩
def WordP (h0 : Hp) (l : List UInt8) (p : Nat) (bag : Bag) (u : Value) (h' : Hp) : Prop := ∃ s : ByteArray, u = .string s ∧ s.size ≤ 16 ∧ CurM h0 h' l p bag
theorem l5Word_c (hl : l.length ≤ 1048576) (m : CurM h0 h l p bag) : ACalls Tryd.prog 105 #[pv p] h (WordP h0 l p bag) := by
  (refine enter Tryd.func105 rfl rfl (by kernel_rfl) [] ?_; simp only [go_sem, Nat.reduceBEq])
  refine cur_strs [⟨#[]⟩, ⟨#[97]⟩, ⟨#[98]⟩, ⟨#[120, 49]⟩, ⟨#[48]⟩, ⟨#[53]⟩, ⟨#[45, 53]⟩, ⟨#[48, 53]⟩, ⟨#[45, 48]⟩, ⟨#[49, 50, 97]⟩, ⟨#[48, 48, 55]⟩, ⟨#[49, 48, 48, 48, 48, 48, 48, 48, 48, 48]⟩, ⟨#[49, 48, 48, 48, 48, 48, 48, 48, 48, 49]⟩, ⟨#[32, 49]⟩, ⟨#[105, 116, 39, 115]⟩, ⟨#[10]⟩, ⟨#[60, 105, 62]⟩, ⟨#[255, 59]⟩, ⟨#[110, 97, 109, 101]⟩, ⟨#[115, 58, 49, 58]⟩] slT80 rfl rfl rfl (by decide) (by decide) m fun v h1 m1 => ?_
  simp only [go_sem, Nat.reduceBEq]
  refine (l1Str_c hl m1 (by decide) (by decide)).mono ?_
  rintro _ h2 ⟨s, hs, rfl, m2⟩
  simp only [go_sem, Nat.reduceBEq]
  refine ⟨s, rfl, ?_, m2.drop⟩
  simp only [List.mem_cons, List.not_mem_nil, or_false] at hs
  rcases hs with h | h | h | h | h | h | h | h | h | h | h | h | h | h | h | h | h | h | h | h <;> (rw [h]; decide)
def KeyP (h0 : Hp) (l : List UInt8) (p : Nat) (bag : Bag) (u : Value) (h' : Hp) : Prop := ∃ k : Ky, u = .agg #[.bool k.text, .int .i64 k.num, .string k.str] ∧ k.ok ∧ k.str.size ≤ 4 ∧ CurM h0 h' l p bag
theorem l5Key_c (hl : l.length ≤ 1048576) (m : CurM h0 h l p bag) : ACalls Tryd.prog 84 #[pv p] h (KeyP h0 l p bag) := by
  have lo := i64_lo
  have hi := i64_hi
  (refine enter Tryd.func84 rfl rfl (by kernel_rfl) [] ?_; simp only [go_sem, Nat.reduceBEq])
  refine (l1Once_c hl m 3 (by decide) (by decide)).mono ?_
  rintro _ h1 ⟨b, rfl, m1⟩
  simp only [go_sem, Nat.reduceBEq]
  cases b with
  | true =>
    simp only [go_sem, Nat.reduceBEq]
    refine cur_strs [⟨#[97]⟩, ⟨#[98]⟩, ⟨#[99]⟩, ⟨#[]⟩, ⟨#[48, 53]⟩, ⟨#[120]⟩] slT80 rfl rfl rfl (by decide) (by decide) m1 fun v h2 m2 => ?_
    simp only [go_sem, Nat.reduceBEq]
    refine (l1Str_c hl m2 (by decide) (by decide)).mono ?_
    rintro _ h3 ⟨s, hs, rfl, m3⟩
    simp only [go_sem, Nat.reduceBEq, Nat.reduceAdd, Nat.reduceLeDiff]
    have hsz : s.size ≤ 4 := by
      simp only [List.mem_cons, List.not_mem_nil, or_false] at hs
      rcases hs with h | h | h | h | h | h <;> (rw [h]; decide)
    exact ⟨⟨true, 0, s⟩, rfl, ⟨by show IntKind.i64.min ≤ 0 ∧ 0 ≤ IntKind.i64.max; omega, by show s.size ≤ maxLen; unfold maxLen; omega⟩, hsz, m3.drop⟩
  | false =>
    simp only [go_sem, Nat.reduceBEq]
    refine cur_ints [0, 1, 2, 3, 4, -1, 7, 1000000000, -1000000000] slT99 rfl rfl rfl (by decide) (by decide) m1 fun v h2 m2 => ?_
    simp only [go_sem, Nat.reduceBEq]
    refine (l1Int_c hl m2 (by decide) (by decide)).mono ?_
    rintro _ h3 ⟨n, hn, rfl, m3⟩
    simp only [go_sem, Nat.reduceBEq, Nat.reduceAdd, Nat.reduceLeDiff]
    have hr : ∀ n ∈ ([0, 1, 2, 3, 4, -1, 7, 1000000000, -1000000000] : List Int), IntKind.i64.min ≤ n ∧ n ≤ IntKind.i64.max := by decide
    exact ⟨⟨false, n, ⟨#[]⟩⟩, rfl, ⟨hr n hn, Nat.zero_le _⟩, Nat.zero_le _, m3.drop⟩
/-- A draw of a value. -/
def ValP (B : Nat) (h0 : Hp) (l : List UInt8) (p : Nat) (bag : Bag) (u : Value) (h' : Hp) : Prop := ∃ (v : V) (a : Option Addr) (c : Nat), u = .agg #[.int .i64 v.kind, .int .i64 v.num, .string v.str, .int .i64 v.next, .slice a v.items.length c] ∧ v.ok ∧ v.bulk ≤ B ∧ CurM h0 h' l p ((.row 8 (v.items.flatMap edt), .slice a v.items.length c) :: bag)
theorem ValP.plain {B : Nat} {h' : Hp} (k n : Int) (s : ByteArray) (hk : IntKind.i64.min ≤ k ∧ k ≤ IntKind.i64.max) (hn : IntKind.i64.min ≤ n ∧ n ≤ IntKind.i64.max) (hs : s.size ≤ B) (hB : B ≤ 1000000) (m : CurM h0 h' l p bag) : ValP B h0 l p bag (.agg #[.int .i64 k, .int .i64 n, .string s, .int .i64 0, .slice none 0 0]) h' := by
  refine ⟨⟨k, n, s, 0, []⟩, none, 0, rfl, ?_, by rw [V.bulk_eq]; simpa [V.bulks, V.items, V.str] using hs, m.upd fun d m => (m.nilrow).swap⟩
  simp only [V.ok, V.oks, and_true]
  exact ⟨hk, hn, by unfold maxLen; omega, by decide, Nat.zero_le _⟩
theorem dBoolV (b : Bool) (h : Hp) : ACalls Tryd.prog 104 #[.bool b] h (Pu (.agg #[.int .i64 1, .int .i64 (if b then 1 else 0), .string ⟨#[]⟩, .int .i64 0, .slice none 0 0]) h) := by
  cases b with
  | false =>
    (refine enter Tryd.func104 rfl rfl (by kernel_rfl) [] ?_; simp only [go_sem, Nat.reduceBEq, Nat.reduceAdd, Nat.reduceLeDiff])
    exact ⟨rfl, rfl⟩
  | true =>
    (refine enter Tryd.func104 rfl rfl (by kernel_rfl) [] ?_; simp only [go_sem, Nat.reduceBEq, Nat.reduceAdd, Nat.reduceLeDiff])
    exact ⟨rfl, rfl⟩
theorem dIntV (n : Int) (h : Hp) : ACalls Tryd.prog 106 #[.int .i64 n] h (Pu (.agg #[.int .i64 2, .int .i64 n, .string ⟨#[]⟩, .int .i64 0, .slice none 0 0]) h) := by
  (refine enter Tryd.func106 rfl rfl (by kernel_rfl) [] ?_; simp only [go_sem, Nat.reduceBEq, Nat.reduceAdd, Nat.reduceLeDiff])
  exact ⟨rfl, rfl⟩
theorem dTextV (s : ByteArray) (h : Hp) : ACalls Tryd.prog 57 #[.string s] h (Pu (.agg #[.int .i64 3, .int .i64 0, .string s, .int .i64 0, .slice none 0 0]) h) := by
  (refine enter Tryd.func57 rfl rfl (by kernel_rfl) [] ?_; simp only [go_sem, Nat.reduceBEq, Nat.reduceAdd, Nat.reduceLeDiff])
  exact ⟨rfl, rfl⟩
theorem dArrV (h : Hp) : ACalls Tryd.prog 109 #[] h (Pu (.agg #[.int .i64 4, .int .i64 0, .string ⟨#[]⟩, .int .i64 0, .slice none 0 0]) h) := by
  (refine enter Tryd.func109 rfl rfl (by kernel_rfl) [] ?_; simp only [go_sem, Nat.reduceBEq, Nat.reduceAdd, Nat.reduceLeDiff])
  exact ⟨rfl, rfl⟩
theorem l5Scalar_c (hl : l.length ≤ 1048576) (m : CurM h0 h l p bag) : ACalls Tryd.prog 75 #[pv p] h (ValP 16 h0 l p bag) := by
  have lo := i64_lo
  have hi := i64_hi
  (refine enter Tryd.func75 rfl rfl (by kernel_rfl) [] ?_; simp only [go_sem, Nat.reduceBEq])
  refine (l1Below_c hl m 8 (by decide) (by decide)).mono ?_
  rintro _ h1 ⟨x, rfl, x0, x1, m1⟩
  simp only [go_sem, Nat.reduceBEq]
  by_cases c0 : x = 0
  · simp only [decide_eq_true c0, go_sem, Nat.reduceBEq, Nat.reduceAdd, Nat.reduceLeDiff]
    exact .plain 0 0 _ (by decide) (by decide) (by decide) (by decide) m1
  simp only [decide_eq_false c0, go_sem, Nat.reduceBEq]
  by_cases c1 : x = 1
  · simp only [decide_eq_true c1, go_sem, Nat.reduceBEq]
    refine (l1Once_c hl m1 2 (by decide) (by decide)).mono ?_
    rintro _ h2 ⟨b, rfl, m2⟩
    simp only [go_sem, Nat.reduceBEq]
    (refine (dBoolV b _).mono ?_; rintro _ _ ⟨rfl, rfl⟩; simp only [go_sem, Nat.reduceBEq, Nat.reduceAdd, Nat.reduceLeDiff])
    exact .plain 1 _ _ (by decide) (by split <;> decide) (by decide) (by decide) m2
  simp only [decide_eq_false c1, go_sem, Nat.reduceBEq]
  by_cases c2 : x = 2
  · simp only [decide_eq_true c2, go_sem, Nat.reduceBEq]
    refine (l5Word_c hl m1).mono ?_
    rintro _ h2 ⟨s, rfl, hs, m2⟩
    simp only [go_sem, Nat.reduceBEq]
    (refine (dTextV s _).mono ?_; rintro _ _ ⟨rfl, rfl⟩; simp only [go_sem, Nat.reduceBEq, Nat.reduceAdd, Nat.reduceLeDiff])
    exact .plain 3 0 s (by decide) (by decide) hs (by decide) m2
  simp only [decide_eq_false c2, go_sem, Nat.reduceBEq]
  by_cases c3 : x = 3
  · simp only [decide_eq_true c3, go_sem, Nat.reduceBEq]
    refine (l5Word_c hl m1).mono ?_
    rintro _ h2 ⟨s, rfl, hs, m2⟩
    simp only [go_sem, Nat.reduceBEq]
    (refine (dTextV s _).mono ?_; rintro _ _ ⟨rfl, rfl⟩; simp only [go_sem, Nat.reduceBEq, Nat.reduceAdd, Nat.reduceLeDiff])
    exact .plain 3 0 s (by decide) (by decide) hs (by decide) m2
  simp only [decide_eq_false c3, go_sem, Nat.reduceBEq]
  by_cases c4 : x = 4
  · simp only [decide_eq_true c4, go_sem, Nat.reduceBEq]
    refine cur_ints [0, 1, -1, 5, 10, 999999999, 1000000000, -1000000000] slT99 rfl rfl rfl (by decide) (by decide) m1 fun v h2 m2 => ?_
    simp only [go_sem, Nat.reduceBEq]
    refine (l1Int_c hl m2 (by decide) (by decide)).mono ?_
    rintro _ h3 ⟨n, hn, rfl, m3⟩
    simp only [go_sem, Nat.reduceBEq]
    have hr : ∀ n ∈ ([0, 1, -1, 5, 10, 999999999, 1000000000, -1000000000] : List Int), IntKind.i64.min ≤ n ∧ n ≤ IntKind.i64.max := by decide
    (refine (dIntV n _).mono ?_; rintro _ _ ⟨rfl, rfl⟩; simp only [go_sem, Nat.reduceBEq, Nat.reduceAdd, Nat.reduceLeDiff])
    exact .plain 2 n _ (by decide) (hr n hn) (by decide) (by decide) m3.drop
  simp only [decide_eq_false c4, go_sem, Nat.reduceBEq]
  refine (l1Below_c hl m1 20 (by decide) (by decide)).mono ?_
  rintro _ h2 ⟨y, rfl, y0, y1, m2⟩
  simp only [go_sem, Nat.reduceBEq]
  (refine (dIntV (IntKind.i64.wrap (y - 5)) _).mono ?_; rintro _ _ ⟨rfl, rfl⟩; simp only [go_sem, Nat.reduceBEq, Nat.reduceAdd, Nat.reduceLeDiff])
  exact .plain 2 _ _ (by decide) (wrap_ok _) (by decide) (by decide) m2
end
end Go.Proofs.YtconhonjkfpfmaaDoor
namespace Go.Proofs.YtconhonjkfpfmaaDoor
set_option maxRecDepth 8000
open Go Go.Sx
section
variable {h0 h : Hp} {K : Value → Hp → Prop} {bag : Bag} {c : List Dt → Dt} {val : Value} {b off : Nat}
def vraws (v : V) (u : Value) : List Dt := [.raw (.int .i64 v.kind), .raw (.int .i64 v.num), .raw (.string v.str), .raw (.int .i64 v.next), .raw u]
/-- the items are taken out -/
theorem var_open (hd : Hold c val b off) {v : V} (m : My h0 h ((c v.dt, val) :: bag)) : ∃ a n, My h0 h ((.row 8 (v.items.flatMap edt), .slice a v.items.length n) :: (c (vraws v (.slice a v.items.length n)), val) :: bag) := by
  rw [V.dt_eq] at m
  obtain ⟨u, m⟩ := hd.open_ (X := [.raw (.int .i64 v.kind), .raw (.int .i64 v.num), .raw (.string v.str), .raw (.int .i64 v.next)]) (Y := []) m
  obtain ⟨a, n, rfl, _⟩ := m.row_shape (by decide) v.items.length (fm_len edt_len _)
  exact ⟨a, n, m⟩
/-- .. and put back, perhaps others than before -/
theorem var_close (hd : Hold c val b off) {v : V} {u : Value} (m : My h0 h ((.row 8 (v.items.flatMap edt), u) :: (c (vraws v u), val) :: bag)) : My h0 h ((c v.dt, val) :: bag) := by
  have := hd.close (X := [.raw (.int .i64 v.kind), .raw (.int .i64 v.num), .raw (.string v.str), .raw (.int .i64 v.next)]) (Y := []) m
  rw [V.dt_eq]
  exact this
theorem var_ldraw (hd : Hold c val b off) {v : V} {u : Value} {j : Nat} (m : My h0 h ((c (vraws v u), val) :: bag)) (hj : j = off) (k : K (.agg #[.int .i64 v.kind, .int .i64 v.num, .string v.str, .int .i64 v.next, u]) h) : HPure Tryd.prog (ldI 26 (.pointer (some ⟨b, j, none⟩))) h K := by
  refine hd.loadN (i := 0) (ds := vraws v u) tyS26 m rfl rfl hj fun ys r => ?_
  simp only [vraws, RdL_cons, RdL_nil, Rd_raw] at r
  obtain ⟨_, _, rfl, ⟨rfl, _⟩, _, _, rfl, ⟨rfl, _⟩, _, _, rfl, ⟨rfl, _⟩, _, _, rfl, ⟨rfl, _⟩, _, _, rfl, ⟨rfl, _⟩, rfl⟩ := r
  exact k
/-- the value is read -/
theorem var_load (hd : Hold c val b off) {v : V} {j : Nat} (m : My h0 h ((c v.dt, val) :: bag)) (hj : j = off) (k : ∀ sl, RdE h v.items sl → K (.agg #[.int .i64 v.kind, .int .i64 v.num, .string v.str, .int .i64 v.next, sl]) h) : HPure Tryd.prog (ldI 26 (.pointer (some ⟨b, j, none⟩))) h K := by
  refine hd.loadN (i := 0) (ds := v.dt) tyS26 m (by rw [List.drop_zero, List.take_of_length_le (by rw [V.dt_len]; exact Nat.le_refl _)]) (V.dt_len v) hj fun ys r => ?_
  obtain ⟨sl, rfl, rd⟩ := RdL_val r
  exact k sl rd
/-- a value of the walk's own is written -/
theorem var_store (hd : Hold c val b off) {w : V} {sl : Value} {j : Nat} {x : List Dt} (hx : x.length = 5) (m : My h0 h ((.row 8 (w.items.flatMap edt), sl) :: (c x, val) :: bag)) (hj : j = off) (k : ∀ h', My h0 h' ((c w.dt, val) :: bag) → K undef h') :
    HSem Tryd.prog (stI 26 (.pointer (some ⟨b, j, none⟩)) (.agg #[.int .i64 w.kind, .int .i64 w.num, .string w.str, .int .i64 w.next, sl])) h K := by
  refine hd.store (x := x) (es := w.dt) tyS26 ?_ hx (V.dt_len w) rfl hj k
  rw [V.dt_eq]
  simp only [cells_agg, List.zip_cons_cons, List.zip_nil_right, List.cons_append, List.nil_append, My.raw_iff, one_int, one_str, and_self, true_and]
  exact m
/-- the value is read for good: the variable is given up -/
theorem var_take (hd : Hold c val b off) {v : V} {j : Nat} (m : My h0 h ((c v.dt, val) :: bag)) (hj : j = off) (k : ∀ a n, My h0 h ((.row 8 (v.items.flatMap edt), .slice a v.items.length n) :: bag) → K (.agg #[.int .i64 v.kind, .int .i64 v.num, .string v.str, .int .i64 v.next, .slice a v.items.length n]) h) : HPure Tryd.prog (ldI 26 (.pointer (some ⟨b, j, none⟩))) h K := by
  obtain ⟨a, n, m⟩ := var_open hd m
  exact var_ldraw hd m.drop hj (k a n m.swap.drop)
/-- an item's value within the items -/
theorem hold_item {es : List (Ky × V)} {i : Nat} {e : Ky × V} {b cap : Nat} (he : es[i]? = some e) : ∃ c, Hold c (.slice (some ⟨b, 0, none⟩) es.length cap) b (i * 8 + 3) ∧ ∀ w : V, c w.dt = .row 8 ((es.take i ++ (e.1, w) :: es.drop (i + 1)).flatMap edt) := by
  obtain ⟨h1, h2⟩ := fm_split edt_len he
  have hlt := (List.getElem?_eq_some_iff.1 he).1
  refine ⟨_, (Hold.row (z := 8) (p := (es.take i).flatMap edt ++ e.1.dt) (q := (es.drop (i + 1)).flatMap edt) (by omega)).at_ ?_, fun w => ?_⟩
  · rw [List.length_append, h2]
    rfl
  · simp only [List.flatMap_append, List.flatMap_cons, edt, List.append_assoc]
/-- the slice of items is written, bare -/
theorem var_setRaw (hd : Hold c val b off) {v : V} {u : Value} {a : Option Addr} {n q j : Nat} (m : My h0 h ((c (vraws v u), val) :: bag)) (hj : j = off + 4) (k : ∀ h', My h0 h' ((c (vraws v (.slice a n q)), val) :: bag) → K undef h') :
    HSem Tryd.prog (stI 24 (.pointer (some ⟨b, j, none⟩)) (.slice a n q)) h K := by
  have m1 : My h0 h ((.raw (.slice a n q), .slice a n q) :: (c ([.raw (.int .i64 v.kind), .raw (.int .i64 v.num), .raw (.string v.str), .raw (.int .i64 v.next)] ++ ([.raw u] ++ [])), val) :: bag) := m.raw rfl
  exact (hd.sub [.raw (.int .i64 v.kind), .raw (.int .i64 v.num), .raw (.string v.str), .raw (.int .i64 v.next)] []).store (h0 := h0) (bag := bag) (x := [.raw u]) (es := [.raw (.slice a n q)]) tyS24 m1 rfl rfl rfl hj fun h' m' => k h' m'
/-- the items' slice is written -/
theorem var_setItems (hd : Hold c val b off) {v : V} {u : Value} {es : List (Ky × V)} {a : Option Addr} {n q j : Nat} (m : My h0 h ((.row 8 (es.flatMap edt), .slice a n q) :: (c (vraws v u), val) :: bag)) (hj : j = off + 4) (k : ∀ h', My h0 h' ((c (v.withItems es).dt, val) :: bag) → K undef h') :
    HSem Tryd.prog (stI 24 (.pointer (some ⟨b, j, none⟩)) (.slice a n q)) h K := by
  refine (hd.sub [.raw (.int .i64 v.kind), .raw (.int .i64 v.num), .raw (.string v.str), .raw (.int .i64 v.next)] []).store (x := [.raw u]) (es := [.row 8 (es.flatMap edt)]) tyS24 m rfl rfl rfl hj fun h' m' => k h' ?_
  rw [V.dt_eq]
  exact m'
/-- the next number is written -/
theorem var_setNext (hd : Hold c val b off) {v : V} {n : Int} {j : Nat} (m : My h0 h ((c v.dt, val) :: bag)) (hj : j = off + 3) (k : ∀ h', My h0 h' ((c (V.mk v.kind v.num v.str n v.items).dt, val) :: bag) → K undef h') :
    HSem Tryd.prog (stI 3 (.pointer (some ⟨b, j, none⟩)) (.int .i64 n)) h K := by
  rw [V.dt_eq] at m
  have m1 : My h0 h ((.raw (.int .i64 n), .int .i64 n) :: (c ([.raw (.int .i64 v.kind), .raw (.int .i64 v.num), .raw (.string v.str)] ++ ([.raw (.int .i64 v.next)] ++ [.row 8 (v.items.flatMap edt)])), val) :: bag) := m.raw rfl
  refine (hd.sub [.raw (.int .i64 v.kind), .raw (.int .i64 v.num), .raw (.string v.str)] [.row 8 (v.items.flatMap edt)]).store (h0 := h0) (bag := bag) (x := [.raw (.int .i64 v.next)]) (es := [.raw (.int .i64 n)]) tyS3 m1 rfl rfl rfl hj fun h' m' => k h' ?_
  rw [V.dt_eq]
  exact m'
/-- the next number is read -/
theorem var_ldNext (hd : Hold c val b off) {v : V} {j : Nat} (m : My h0 h ((c v.dt, val) :: bag)) (hj : j = off + 3) (k : K (.int .i64 v.next) h) : HPure Tryd.prog (ldI 3 (.pointer (some ⟨b, j, none⟩))) h K := by
  rw [V.dt_eq] at m
  refine hd.load1 (i := 3) (d := .raw (.int .i64 v.next)) tyS3 m rfl hj fun u ru => ?_
  obtain ⟨rfl, _⟩ := Rd_raw.1 ru
  exact k
/-- the kind is read -/
theorem var_ldKind (hd : Hold c val b off) {v : V} {j : Nat} (m : My h0 h ((c v.dt, val) :: bag)) (hj : j = off) (k : K (.int .i64 v.kind) h) : HPure Tryd.prog (ldI 3 (.pointer (some ⟨b, j, none⟩))) h K := by
  rw [V.dt_eq] at m
  refine hd.load1 (i := 0) (d := .raw (.int .i64 v.kind)) tyS3 m rfl hj fun u ru => ?_
  obtain ⟨rfl, _⟩ := Rd_raw.1 ru
  exact k
/-- the items' slice is read, the items taken out before -/
theorem var_ldItems (hd : Hold c val b off) {v : V} {u : Value} {j : Nat} (m : My h0 h ((c (vraws v u), val) :: bag)) (hj : j = off + 4) (k : K u h) : HPure Tryd.prog (ldI 24 (.pointer (some ⟨b, j, none⟩))) h K := by
  refine hd.load1 (i := 4) (d := .raw u) tyS24 m rfl hj fun w rw_ => ?_
  obtain ⟨rfl, _⟩ := Rd_raw.1 rw_
  exact k
end
end Go.Proofs.YtconhonjkfpfmaaDoor
namespace Go.Proofs.YtconhonjkfpfmaaDoor
set_option maxRecDepth 8000
open Go Go.Sx
section
variable {h0 h : Hp} {bag : Bag} {l : List UInt8} {p : Nat}
/-- how much a value drawn to some depth holds -/
def bD : Nat → Nat
  | 0 => 16
  | d + 1 => 4 * (5 + bD d)
theorem bD_pos : ∀ d, 16 ≤ bD d
  | 0 => Nat.le_refl _
  | d + 1 => by
    have := bD_pos d
    unfold bD
    omega
theorem max_ok {a b : Int} (ha : IntKind.i64.min ≤ a ∧ a ≤ IntKind.i64.max) (hb : IntKind.i64.min ≤ b ∧ b ≤ IntKind.i64.max) : IntKind.i64.min ≤ max a b ∧ max a b ≤ IntKind.i64.max := by omega
theorem ValP.up {B C : Nat} (hBC : B ≤ C) {u : Value} {h' : Hp} (k : ValP B h0 l p bag u h') : ValP C h0 l p bag u h' := by
  obtain ⟨v, a, c, e, h1, h2, h3⟩ := k
  exact ⟨v, a, c, e, h1, Nat.le_trans h2 hBC, h3⟩
/-- what is known of the array so far -/
def InD (d : Nat) (h0 : Hp) (l : List UInt8) (p : Nat) (bag : Bag) (x : Nat × List (Ky × V) × Int × Value) (h' : Hp) : Prop :=
  x.2.1.length + x.1 ≤ 4 ∧ V.oks x.2.1 ∧ V.bulks x.2.1 ≤ x.2.1.length * (5 + bD d) ∧ (IntKind.i64.min ≤ x.2.2.1 ∧ x.2.2.1 ≤ IntKind.i64.max) ∧ ∃ a c, x.2.2.2 = .slice a x.2.1.length c ∧ CurM h0 h' l p ((.row 8 (x.2.1.flatMap edt), .slice a x.2.1.length c) :: bag)
theorem l5Draw_c (hl : l.length ≤ 1048576) : ∀ (d : Nat), d ≤ 1000 → ∀ {h0 h : Hp} {bag : Bag}, CurM h0 h l p bag → ACalls Tryd.prog 81 #[pv p, .int .i64 (d : Nat)] h (ValP (bD d) h0 l p bag)
  | 0, _, h0, h, bag, m => by
    (refine enter Tryd.func81 rfl rfl (by kernel_rfl) [] ?_; simp only [go_sem, Nat.reduceBEq])
    simp only [show decide (((0 : Nat) : Int) ≤ 0) = true from rfl, go_sem, Nat.reduceBEq]
    refine (l5Scalar_c hl m).mono ?_
    rintro _ h1 ⟨v, a, c, rfl, hv, hb, m1⟩
    simp only [go_sem, Nat.reduceBEq, Nat.reduceAdd, Nat.reduceLeDiff]
    exact ⟨v, a, c, rfl, hv, hb, m1⟩
  | d + 1, hd, h0, h, bag, m => by
    have ih := fun hd {h0 h : Hp} {bag : Bag} m => l5Draw_c hl d hd (h0 := h0) (h := h) (bag := bag) m
    have hp := bD_pos d
    have wd : IntKind.i64.wrap (((d + 1 : Nat) : Int) - 1) = ((d : Nat) : Int) := by rw [IntWalk.i64_in _ (by omega)]; omega
    (refine enter Tryd.func81 rfl rfl (by kernel_rfl) [] ?_; simp only [go_sem, Nat.reduceBEq])
    simp only [show decide (((d + 1 : Nat) : Int) ≤ 0) = false from decide_eq_false (by omega), go_sem, Nat.reduceBEq]
    refine (l1Once_c hl m 3 (by decide) (by decide)).mono ?_
    rintro _ h1 ⟨b, rfl, m1⟩
    simp only [go_sem, Nat.reduceBEq]
    cases b with
    | false =>
      simp only [go_sem, Nat.reduceBEq]
      refine (l5Scalar_c hl m1).mono ?_
      rintro _ h2 ⟨v, a, c, rfl, hv, hb, m2⟩
      simp only [go_sem, Nat.reduceBEq, Nat.reduceAdd, Nat.reduceLeDiff]
      exact ⟨v, a, c, rfl, hv, by unfold bD; omega, m2⟩
    | true =>
    simp only [go_sem]
    (refine (dArrV _).mono ?_; rintro _ _ ⟨rfl, rfl⟩; simp only [go_sem, Nat.reduceBEq, Nat.reduceAdd, Nat.reduceLeDiff])
    try simp only [go_sem, Nat.reduceBEq, Nat.reduceAdd, Nat.reduceLeDiff, Nat.reduceEqDiff, Int.reduceEq, not_false_eq_true, Int.reduceToNat]
    refine (l1Below_c hl m1 5 (by decide) (by decide)).mono ?_
    rintro _ h2 ⟨x, rfl, x0, x1, m2⟩
    obtain ⟨k0, rfl⟩ := Int.eq_ofNat_of_zero_le x0
    simp only [go_sem, Nat.reduceBEq]
    refine aloop (ι := Nat × List (Ky × V) × Int × Value) (fun x => [(6, .val (.int .i64 (x.1 : Nat))), (5, .box 5 0), (4, .box 4 0), (1, .val (.int .i64 ((d + 1 : Nat) : Int))), (0, .val (pv p))])
      (fun x => [(5, [.int .i64 4, .int .i64 0, .string ⟨#[]⟩, .int .i64 x.2.2.1, x.2.2.2]), (4, [.int .i64 0, .int .i64 0, .string ⟨#[]⟩, .int .i64 0, .slice none 0 0])])
      (InD d h0 l p bag) (fun x => x.1) (k0, [], 0, .slice none 0 0) ⟨by show 0 + k0 ≤ 4; omega, by simp only [V.oks], Nat.zero_le _, (show IntKind.i64.min ≤ 0 ∧ 0 ≤ IntKind.i64.max by decide), none, 0, rfl, m2.upd fun d m => (m.nilrow).swap⟩ (by repeat (first | exact wkF_e | refine wkF_c rfl ?_)) (wkB_c rfl (wkB_c rfl wkB_e)) rfl ?_
    rintro ⟨kk, es, nx, sl⟩ h3 ⟨hk, ho, hb, hx, a, c, hsl, m3⟩
    have hsl : sl = .slice a es.length c := hsl
    subst hsl
    have hk : es.length + kk ≤ 4 := hk
    have ho : V.oks es := ho
    have hb : V.bulks es ≤ es.length * (5 + bD d) := hb
    have hx : IntKind.i64.min ≤ nx ∧ nx ≤ IntKind.i64.max := hx
    have m3 : CurM h0 h3 l p ((.row 8 (es.flatMap edt), .slice a es.length c) :: bag) := m3
    simp only [go_sem, Nat.reduceBEq]
    cases kk with
    | zero =>
      simp only [show decide (0 < ((0 : Nat) : Int)) = false from rfl, go_sem, Nat.reduceBEq, Nat.reduceAdd, Nat.reduceLeDiff]
      refine ⟨V.mk 4 0 ⟨#[]⟩ nx es, a, c, rfl, V.ok_mk (by decide) (by decide) (by decide) hx (by omega) ho, ?_, m3⟩
      rw [V.bulk_eq]
      show 0 + V.bulks es ≤ bD (d + 1)
      have h4 : es.length * (5 + bD d) ≤ 4 * (5 + bD d) := Nat.mul_le_mul_right _ (by omega)
      unfold bD
      omega
    | succ k =>
    have wk : IntKind.i64.wrap (((k + 1 : Nat) : Int) - 1) = ((k : Nat) : Int) := by rw [IntWalk.i64_in _ (by omega)]; omega
    simp only [show decide (0 < ((k + 1 : Nat) : Int)) = true from decide_eq_true (by omega), go_sem, Nat.reduceBEq]
    refine (l5Key_c hl m3).mono ?_
    rintro _ h4 ⟨key, rfl, hkey, hks, m4⟩
    try simp only [go_sem, Nat.reduceBEq, Nat.reduceAdd, Nat.reduceLeDiff]
    refine (l1Once_c hl m4 2 (by decide) (by decide)).mono ?_
    rintro _ h5 ⟨b, rfl, m5⟩
    try simp only [go_sem, Nat.reduceBEq]
    cases b with
    | false =>
      try simp only [go_sem, Nat.reduceBEq, Nat.reduceAdd, Nat.reduceLeDiff]
      try simp only [go_sem, Nat.reduceBEq, Nat.reduceAdd, Nat.reduceLeDiff, Nat.reduceEqDiff, Int.reduceEq, not_false_eq_true, Int.reduceToNat]
      refine (sFind (V.mk 4 0 ⟨#[]⟩ nx es) key (by show es.length ≤ _; omega) _ _ m5.my.rd).mono ?_
      rintro _ _ ⟨rfl, rfl⟩
      simp only [ixI_neg, go_sem, Nat.reduceBEq]
      cases hf : (V.mk 4 0 ⟨#[]⟩ nx es).find key with
      | some j =>
        simp only [Option.isNone_some, go_sem, Nat.reduceBEq]
        try simp only [go_sem, Nat.reduceBEq, Nat.reduceAdd, Nat.reduceLeDiff, Nat.reduceEqDiff, Int.reduceEq, not_false_eq_true, Int.reduceToNat]
        simp only [wk, go_sem]
        exact Again.intro (k, es, nx, .slice a es.length c) (by first | omega | (simp only; omega)) ⟨(show es.length + k ≤ 4 by omega), ho, hb, hx, a, c, rfl, m5⟩ (by repeat (first | exact wkF_e | refine wkF_c rfl ?_)) (wkB_c rfl (wkB_c rfl wkB_e)) rfl
      | none =>
      simp only [Option.isNone_none, go_sem]
      refine regionD_intro (lb := [41, 42]) (by kernel_rfl) ?_
      simp only [wd, go_sem, Nat.reduceBEq, Nat.reduceAdd, Nat.reduceLeDiff]
      refine (ih (by omega) m5).mono ?_
      rintro _ h9 ⟨w, aw, cw, rfl, hw, hwb, m9⟩
      try simp only [go_sem, Nat.reduceBEq, Nat.reduceAdd, Nat.reduceLeDiff]
      refine cur_ent (k := key) slT24 rfl m9 fun v10 h10 m10 => ?_
      try simp only [go_sem, Nat.reduceBEq]
      refine cur_push slT24 rfl rfl (by decide) m10 (by omega) fun a11 c11 h11 m11 => ?_
      try simp only [go_sem, Nat.reduceBEq, Nat.reduceAdd, Nat.reduceLeDiff]
      have hl11 : (es ++ [(key, w)]).length = es.length + 1 := by rw [List.length_append]; rfl
      have hb11 : V.bulks (es ++ [(key, w)]) ≤ (es ++ [(key, w)]).length * (5 + bD d) := by
        have hsz := hks
        rw [bulks_snoc, hl11, Nat.add_mul]
        omega
      have ho11 : V.oks (es ++ [(key, w)]) := oks_snoc ho hkey hw
      cases ht : key.text with
      | true =>
        try simp only [go_sem, Nat.reduceBEq]
        simp only [wk, go_sem]
        exact Again.intro (k, es ++ [(key, w)], nx, .slice a11 (es ++ [(key, w)]).length c11) (by first | omega | (simp only; omega)) ⟨(show (es ++ [(key, w)]).length + k ≤ 4 by omega), ho11, hb11, hx, a11, c11, rfl, m11⟩ (by repeat (first | exact wkF_e | refine wkF_c rfl ?_)) (wkB_c rfl (wkB_c rfl wkB_e)) rfl
      | false =>
      try simp only [go_sem, Nat.reduceBEq]
      (refine (sMax nx (IntKind.i64.wrap (key.num + 1)) _).mono ?_; rintro _ _ ⟨rfl, rfl⟩; simp only [go_sem, Nat.reduceBEq, Nat.reduceAdd, Nat.reduceLeDiff])
      try simp only [go_sem, Nat.reduceBEq, Nat.reduceAdd, Nat.reduceLeDiff, Nat.reduceEqDiff, Int.reduceEq, not_false_eq_true, Int.reduceToNat]
      simp only [wk, go_sem]
      exact Again.intro (k, es ++ [(key, w)], max nx (IntKind.i64.wrap (key.num + 1)), .slice a11 (es ++ [(key, w)]).length c11) (by first | omega | (simp only; omega)) ⟨(show (es ++ [(key, w)]).length + k ≤ 4 by omega), ho11, hb11, max_ok hx (wrap_ok _), a11, c11, rfl, m11⟩ (by repeat (first | exact wkF_e | refine wkF_c rfl ?_)) (wkB_c rfl (wkB_c rfl wkB_e)) rfl
    | true =>
    try simp only [go_sem, Nat.reduceBEq]
    by_cases hn : nx ≤ 1000000000
    case neg =>
      simp only [decide_eq_false hn, go_sem, Nat.reduceBEq, Nat.reduceAdd, Nat.reduceLeDiff]
      try simp only [go_sem, Nat.reduceBEq, Nat.reduceAdd, Nat.reduceLeDiff, Nat.reduceEqDiff, Int.reduceEq, not_false_eq_true, Int.reduceToNat]
      refine (sFind (V.mk 4 0 ⟨#[]⟩ nx es) key (by show es.length ≤ _; omega) _ _ m5.my.rd).mono ?_
      rintro _ _ ⟨rfl, rfl⟩
      simp only [ixI_neg, go_sem, Nat.reduceBEq]
      cases hf : (V.mk 4 0 ⟨#[]⟩ nx es).find key with
      | some j =>
        simp only [Option.isNone_some, go_sem, Nat.reduceBEq]
        try simp only [go_sem, Nat.reduceBEq, Nat.reduceAdd, Nat.reduceLeDiff, Nat.reduceEqDiff, Int.reduceEq, not_false_eq_true, Int.reduceToNat]
        simp only [wk, go_sem]
        exact Again.intro (k, es, nx, .slice a es.length c) (by first | omega | (simp only; omega)) ⟨(show es.length + k ≤ 4 by omega), ho, hb, hx, a, c, rfl, m5⟩ (by repeat (first | exact wkF_e | refine wkF_c rfl ?_)) (wkB_c rfl (wkB_c rfl wkB_e)) rfl
      | none =>
      simp only [Option.isNone_none, go_sem]
      refine regionD_intro (lb := [41, 42]) (by kernel_rfl) ?_
      simp only [wd, go_sem, Nat.reduceBEq, Nat.reduceAdd, Nat.reduceLeDiff]
      refine (ih (by omega) m5).mono ?_
      rintro _ h9 ⟨w, aw, cw, rfl, hw, hwb, m9⟩
      try simp only [go_sem, Nat.reduceBEq, Nat.reduceAdd, Nat.reduceLeDiff]
      refine cur_ent (k := key) slT24 rfl m9 fun v10 h10 m10 => ?_
      try simp only [go_sem, Nat.reduceBEq]
      refine cur_push slT24 rfl rfl (by decide) m10 (by omega) fun a11 c11 h11 m11 => ?_
      try simp only [go_sem, Nat.reduceBEq, Nat.reduceAdd, Nat.reduceLeDiff]
      have hl11 : (es ++ [(key, w)]).length = es.length + 1 := by rw [List.length_append]; rfl
      have hb11 : V.bulks (es ++ [(key, w)]) ≤ (es ++ [(key, w)]).length * (5 + bD d) := by
        have hsz := hks
        rw [bulks_snoc, hl11, Nat.add_mul]
        omega
      have ho11 : V.oks (es ++ [(key, w)]) := oks_snoc ho hkey hw
      cases ht : key.text with
      | true =>
        try simp only [go_sem, Nat.reduceBEq]
        simp only [wk, go_sem]
        exact Again.intro (k, es ++ [(key, w)], nx, .slice a11 (es ++ [(key, w)]).length c11) (by first | omega | (simp only; omega)) ⟨(show (es ++ [(key, w)]).length + k ≤ 4 by omega), ho11, hb11, hx, a11, c11, rfl, m11⟩ (by repeat (first | exact wkF_e | refine wkF_c rfl ?_)) (wkB_c rfl (wkB_c rfl wkB_e)) rfl
      | false =>
      try simp only [go_sem, Nat.reduceBEq]
      (refine (sMax nx (IntKind.i64.wrap (key.num + 1)) _).mono ?_; rintro _ _ ⟨rfl, rfl⟩; simp only [go_sem, Nat.reduceBEq, Nat.reduceAdd, Nat.reduceLeDiff])
      try simp only [go_sem, Nat.reduceBEq, Nat.reduceAdd, Nat.reduceLeDiff, Nat.reduceEqDiff, Int.reduceEq, not_false_eq_true, Int.reduceToNat]
      simp only [wk, go_sem]
      exact Again.intro (k, es ++ [(key, w)], max nx (IntKind.i64.wrap (key.num + 1)), .slice a11 (es ++ [(key, w)]).length c11) (by first | omega | (simp only; omega)) ⟨(show (es ++ [(key, w)]).length + k ≤ 4 by omega), ho11, hb11, max_ok hx (wrap_ok _), a11, c11, rfl, m11⟩ (by repeat (first | exact wkF_e | refine wkF_c rfl ?_)) (wkB_c rfl (wkB_c rfl wkB_e)) rfl
    simp only [decide_eq_true hn, go_sem, Nat.reduceBEq, Nat.reduceAdd, Nat.reduceLeDiff]
    try simp only [go_sem, Nat.reduceBEq, Nat.reduceAdd, Nat.reduceLeDiff, Nat.reduceEqDiff, Int.reduceEq, not_false_eq_true, Int.reduceToNat]
    refine (sFind (V.mk 4 0 ⟨#[]⟩ nx es) (⟨false, nx, ⟨#[]⟩⟩ : Ky) (by show es.length ≤ _; omega) _ _ m5.my.rd).mono ?_
    rintro _ _ ⟨rfl, rfl⟩
    simp only [ixI_neg, go_sem, Nat.reduceBEq]
    cases hf : (V.mk 4 0 ⟨#[]⟩ nx es).find (⟨false, nx, ⟨#[]⟩⟩ : Ky) with
    | some j =>
      simp only [Option.isNone_some, go_sem, Nat.reduceBEq]
      try simp only [go_sem, Nat.reduceBEq, Nat.reduceAdd, Nat.reduceLeDiff, Nat.reduceEqDiff, Int.reduceEq, not_false_eq_true, Int.reduceToNat]
      simp only [wk, go_sem]
      exact Again.intro (k, es, nx, .slice a es.length c) (by first | omega | (simp only; omega)) ⟨(show es.length + k ≤ 4 by omega), ho, hb, hx, a, c, rfl, m5⟩ (by repeat (first | exact wkF_e | refine wkF_c rfl ?_)) (wkB_c rfl (wkB_c rfl wkB_e)) rfl
    | none =>
    simp only [Option.isNone_none, go_sem]
    refine regionD_intro (lb := [41, 42]) (by kernel_rfl) ?_
    simp only [wd, go_sem, Nat.reduceBEq, Nat.reduceAdd, Nat.reduceLeDiff]
    refine (ih (by omega) m5).mono ?_
    rintro _ h9 ⟨w, aw, cw, rfl, hw, hwb, m9⟩
    try simp only [go_sem, Nat.reduceBEq, Nat.reduceAdd, Nat.reduceLeDiff]
    refine cur_ent (k := (⟨false, nx, ⟨#[]⟩⟩ : Ky)) slT24 rfl m9 fun v10 h10 m10 => ?_
    try simp only [go_sem, Nat.reduceBEq]
    refine cur_push slT24 rfl rfl (by decide) m10 (by omega) fun a11 c11 h11 m11 => ?_
    try simp only [go_sem, Nat.reduceBEq, Nat.reduceAdd, Nat.reduceLeDiff]
    have hl11 : (es ++ [((⟨false, nx, ⟨#[]⟩⟩ : Ky), w)]).length = es.length + 1 := by rw [List.length_append]; rfl
    have hb11 : V.bulks (es ++ [((⟨false, nx, ⟨#[]⟩⟩ : Ky), w)]) ≤ (es ++ [((⟨false, nx, ⟨#[]⟩⟩ : Ky), w)]).length * (5 + bD d) := by
      have hsz := (show (⟨false, nx, ⟨#[]⟩⟩ : Ky).str.size ≤ 4 from Nat.zero_le _)
      rw [bulks_snoc, hl11, Nat.add_mul]
      omega
    have ho11 : V.oks (es ++ [((⟨false, nx, ⟨#[]⟩⟩ : Ky), w)]) := oks_snoc ho (show (⟨false, nx, ⟨#[]⟩⟩ : Ky).ok from ⟨hx, Nat.zero_le _⟩) hw
    (refine (sMax nx (IntKind.i64.wrap (nx + 1)) _).mono ?_; rintro _ _ ⟨rfl, rfl⟩; simp only [go_sem, Nat.reduceBEq, Nat.reduceAdd, Nat.reduceLeDiff])
    try simp only [go_sem, Nat.reduceBEq, Nat.reduceAdd, Nat.reduceLeDiff, Nat.reduceEqDiff, Int.reduceEq, not_false_eq_true, Int.reduceToNat]
    simp only [wk, go_sem]
    exact Again.intro (k, es ++ [((⟨false, nx, ⟨#[]⟩⟩ : Ky), w)], max nx (IntKind.i64.wrap (nx + 1)), .slice a11 (es ++ [((⟨false, nx, ⟨#[]⟩⟩ : Ky), w)]).length c11) (by first | omega | (simp only; omega)) ⟨(show (es ++ [((⟨false, nx, ⟨#[]⟩⟩ : Ky), w)]).length + k ≤ 4 by omega), ho11, hb11, max_ok hx (wrap_ok _), a11, c11, rfl, m11⟩ (by repeat (first | exact wkF_e | refine wkF_c rfl ?_)) (wkB_c rfl (wkB_c rfl wkB_e)) rfl
theorem l5Any_c (hl : l.length ≤ 1048576) (m : CurM h0 h l p bag) : ACalls Tryd.prog 46 #[pv p] h (ValP 1500 h0 l p bag) := by
  have lo := i64_lo
  have hi := i64_hi
  have hD : bD 3 = 1444 := rfl
  (refine enter Tryd.func46 rfl rfl (by kernel_rfl) [] ?_; simp only [go_sem, Nat.reduceBEq])
  refine (l5Draw_c hl 3 (by decide) m).mono ?_
  rintro _ h1 ⟨v, a, c, rfl, hv, hb, m1⟩
  have hB := V.bulk_eq v
  have hbl := bulks_len' v.items
  have o1 := V.ok_kind hv
  have o2 := V.ok_num hv
  have o3 := V.ok_next hv
  have o4 := V.ok_items hv
  simp only [go_sem, Nat.reduceBEq, Nat.reduceAdd, Nat.reduceLeDiff]
  refine (l1Below_c hl m1 14 (by decide) (by decide)).mono ?_
  rintro _ h2 ⟨x, rfl, x0, x1, m2⟩
  simp only [go_sem, Nat.reduceBEq]
  by_cases c0 : x = 0
  · simp only [decide_eq_true c0, go_sem, Nat.reduceBEq]
    refine (l1Odd_c hl m2).mono ?_
    rintro _ h3 ⟨n, rfl, hn, m3⟩
    simp only [go_sem, Nat.reduceBEq, Nat.reduceAdd, Nat.reduceLeDiff]
    exact ⟨V.mk v.kind n v.str v.next v.items, a, c, rfl, V.ok_mk o1 hn (by omega) o3 (by omega) o4, by rw [V.bulk_eq]; show v.str.size + V.bulks v.items ≤ 1500; omega, m3⟩
  simp only [decide_eq_false c0, go_sem, Nat.reduceBEq]
  by_cases c1 : x = 1
  · simp only [decide_eq_true c1, go_sem, Nat.reduceBEq]
    refine (l1Odd_c hl m2).mono ?_
    rintro _ h3 ⟨n, rfl, hn, m3⟩
    simp only [go_sem, Nat.reduceBEq, Nat.reduceAdd, Nat.reduceLeDiff]
    exact ⟨V.mk v.kind v.num v.str n v.items, a, c, rfl, V.ok_mk o1 o2 (by omega) hn (by omega) o4, by rw [V.bulk_eq]; show v.str.size + V.bulks v.items ≤ 1500; omega, m3⟩
  simp only [decide_eq_false c1, go_sem, Nat.reduceBEq]
  by_cases c2 : x = 2
  · simp only [decide_eq_true c2, go_sem, Nat.reduceBEq]
    refine cur_ints [-1, 4, 5, 6, 7, 8, 9] slT99 rfl rfl rfl (by decide) (by decide) m2 fun v3 h3 m3 => ?_
    simp only [go_sem, Nat.reduceBEq]
    refine (l1Int_c hl m3 (by decide) (by decide)).mono ?_
    rintro _ h4 ⟨n, hn, rfl, m4⟩
    simp only [go_sem, Nat.reduceBEq, Nat.reduceAdd, Nat.reduceLeDiff]
    have hr : ∀ n ∈ ([-1, 4, 5, 6, 7, 8, 9] : List Int), IntKind.i64.min ≤ n ∧ n ≤ IntKind.i64.max := by decide
    exact ⟨V.mk n v.num v.str v.next v.items, a, c, rfl, V.ok_mk (hr n hn) o2 (by omega) o3 (by omega) o4, by rw [V.bulk_eq]; show v.str.size + V.bulks v.items ≤ 1500; omega, m4.drop⟩
  simp only [decide_eq_false c2, go_sem, Nat.reduceBEq]
  by_cases c3 : x = 3
  · simp only [decide_eq_true c3, go_sem]
    refine regionD_intro (lb := [27]) (by kernel_rfl) ?_
    simp only [go_sem, Nat.reduceBEq]
    refine (l5Key_c hl m2).mono ?_
    rintro _ h3 ⟨key, rfl, hkey, hks, m3⟩
    simp only [go_sem, Nat.reduceBEq]
    refine (l5Scalar_c hl m3).mono ?_
    rintro _ h4 ⟨w, aw, cw, rfl, hw, hwb, m4⟩
    simp only [go_sem, Nat.reduceBEq, Nat.reduceAdd, Nat.reduceLeDiff]
    refine cur_ent (k := key) slT24 rfl m4 fun v5 h5 m5 => ?_
    simp only [go_sem, Nat.reduceBEq]
    refine cur_push slT24 rfl rfl (by decide) m5 (by omega) fun a6 c6 h6 m6 => ?_
    simp only [go_sem, Nat.reduceBEq, Nat.reduceAdd, Nat.reduceLeDiff]
    have hbs := bulks_snoc v.items key w
    have hls : (v.items ++ [(key, w)]).length = v.items.length + 1 := by rw [List.length_append]; rfl
    exact ⟨V.mk v.kind v.num v.str v.next (v.items ++ [(key, w)]), a6, c6, rfl, V.ok_mk o1 o2 (by omega) o3 (by omega) (oks_snoc o4 hkey hw), by rw [V.bulk_eq]; show v.str.size + V.bulks (v.items ++ [(key, w)]) ≤ 1500; omega, m6⟩
  simp only [decide_eq_false c3, go_sem, Nat.reduceBEq]
  by_cases c4 : x = 4
  · simp only [decide_eq_true c4, go_sem, Nat.reduceBEq]
    refine (l1Below_c hl m2 3 (by decide) (by decide)).mono ?_
    rintro _ h3 ⟨y, rfl, y0, y1, m3⟩
    simp only [go_sem, Nat.reduceBEq]
    refine (l1Below_c hl m3 3 (by decide) (by decide)).mono ?_
    rintro _ h4 ⟨z, rfl, z0, z1, m4⟩
    simp only [go_sem, Nat.reduceBEq, Nat.reduceAdd, Nat.reduceLeDiff]
    exact .plain (IntKind.i64.wrap (6 + y)) z _ (wrap_ok _) (by omega) (by decide) (by decide) m4.drop
  simp only [decide_eq_false c4, go_sem, Nat.reduceBEq, Nat.reduceAdd, Nat.reduceLeDiff]
  exact ⟨v, a, c, rfl, hv, by omega, m2⟩
/-- A draw of two values. -/
def TwoP (B : Nat) (h0 : Hp) (l : List UInt8) (p : Nat) (bag : Bag) (u : Value) (h' : Hp) : Prop := ∃ (v w : V) (a b : Option Addr) (c d : Nat), u = .tuple #[.agg #[.int .i64 v.kind, .int .i64 v.num, .string v.str, .int .i64 v.next, .slice a v.items.length c], .agg #[.int .i64 w.kind, .int .i64 w.num, .string w.str, .int .i64 w.next, .slice b w.items.length d]] ∧ v.ok ∧ w.ok ∧ v.bulk ≤ B ∧ w.bulk ≤ B ∧ CurM h0 h' l p ((.row 8 (w.items.flatMap edt), .slice b w.items.length d) :: (.row 8 (v.items.flatMap edt), .slice a v.items.length c) :: bag)
theorem l9Two_c (hl : l.length ≤ 1048576) (m : CurM h0 h l p bag) : ACalls Tryd.prog 38 #[pv p] h (TwoP 1600 h0 l p bag) := by
  (refine enter Tryd.func38 rfl rfl (by kernel_rfl) [] ?_; simp only [go_sem, Nat.reduceBEq])
  refine (l5Any_c hl m).mono ?_
  rintro _ h1 ⟨v, a, c, rfl, hv, hb, m1⟩
  have hB := V.bulk_eq v
  simp only [go_sem, Nat.reduceBEq, Nat.reduceAdd, Nat.reduceLeDiff]
  refine (l1Once_c hl m1 3 (by decide) (by decide)).mono ?_
  rintro _ h2 ⟨b, rfl, m2⟩
  simp only [go_sem, Nat.reduceBEq]
  cases b with
  | false =>
    simp only [go_sem]
    refine regionD_intro (lb := [32]) (by kernel_rfl) ?_
    simp only [go_sem, Nat.reduceBEq, Nat.reduceAdd, Nat.reduceLeDiff]
    refine (l5Any_c hl m2).mono ?_
    rintro _ h3 ⟨w, aw, cw, rfl, hw, hwb, m3⟩
    simp only [go_sem, Nat.reduceBEq, Nat.reduceAdd, Nat.reduceLeDiff]
    exact ⟨v, w, a, aw, c, cw, rfl, hv, hw, by omega, by omega, m3⟩
  | true =>
  simp only [go_sem, Nat.reduceBEq, Nat.reduceAdd, Nat.reduceLeDiff]
  refine (l5Copy_c v (by omega) _ _ m2.my.rd).mono ?_
  rintro _ h3 ⟨a3, c3, rfl, q3⟩
  have m3 := m2.add q3
  have m3 : CurM h0 h3 l p ((.row 8 (v.items.flatMap edt), .slice a3 v.items.length c3) :: (.row 8 (v.items.flatMap edt), .slice a v.items.length c) :: bag) := m3
  simp only [go_sem, Nat.reduceBEq, Nat.reduceAdd, Nat.reduceLeDiff]
  by_cases hl0 : 0 < v.items.length
  case neg =>
    simp only [show decide ((0 : Int) < (v.items.length : Nat)) = false from decide_eq_false (by omega), go_sem, Nat.reduceBEq]
    refine regionQ_intro (lb := [30]) (pl := [31]) 5 rfl (by kernel_rfl) fun b6 T6 hb6 => ?_
    obtain ⟨y6, my6, back6⟩ := (cur_val (w := v) m3 hb6 T6).fst
    simp only [proF_v, proF_b, proF_e, delb_c, delb_e, go_sem, Nat.reduceBEq, Nat.reduceAdd, Nat.reduceLeDiff]
    refine var_take (Hold.ptr (p := []) (q := [])) my6 rfl fun a7 n7 m7 => ?_
    simp only [go_sem, Nat.reduceBEq, Nat.reduceAdd, Nat.reduceLeDiff]
    exact ⟨v, v, a, a7, c, n7, rfl, hv, hv, by omega, by omega, back6 _ [_] m7⟩
  simp only [show decide ((0 : Int) < (v.items.length : Nat)) = true from decide_eq_true (by omega), go_sem, Nat.reduceBEq]
  refine (l1Once_c hl m3 2 (by decide) (by decide)).mono ?_
  rintro _ h4 ⟨b, rfl, m4⟩
  simp only [go_sem, Nat.reduceBEq]
  cases b with
  | false =>
    try simp only [go_sem]
    refine regionQ_intro (lb := [30]) (pl := [31]) 5 rfl (by kernel_rfl) fun b6 T6 hb6 => ?_
    obtain ⟨y6, my6, back6⟩ := (cur_val (w := v) m4 hb6 T6).fst
    simp only [proF_v, proF_b, proF_e, delb_c, delb_e, go_sem, Nat.reduceBEq, Nat.reduceAdd, Nat.reduceLeDiff]
    refine var_take (Hold.ptr (p := []) (q := [])) my6 rfl fun a7 n7 m7 => ?_
    simp only [go_sem, Nat.reduceBEq, Nat.reduceAdd, Nat.reduceLeDiff]
    exact ⟨v, v, a, a7, c, n7, rfl, hv, hv, by omega, by omega, back6 _ [_] m7⟩
  | true =>
  try simp only [go_sem]
  obtain ⟨b3, k3, e3⟩ := m4.row0 hl0 (fm_len edt_len _)
  cases e3
  have hil : v.items.length - 1 < v.items.length := by omega
  have w1 : IntKind.i64.wrap ((v.items.length : Nat) - 1) = ((v.items.length - 1 : Nat) : Int) := by rw [IntWalk.i64_in _ (by have := bulks_len' v.items; omega)]; omega
  have hix : ixA (some 8) (some ⟨b3, 0, none⟩) v.items.length (((v.items.length - 1 : Nat) : Int)) = some (.pointer (some ⟨b3, 0 + (v.items.length - 1) * 8, none⟩)) := ix_nat hil
  refine regionD_intro (lb := [21, 23]) (by kernel_rfl) ?_
  simp only [w1, go_sem, Nat.reduceBEq]
  refine (l5Scalar_c hl m4).mono ?_
  rintro _ h5 ⟨w, aw, cw, rfl, hw, hwb, m5⟩
  simp only [hix, go_sem, Nat.reduceBEq, Nat.reduceAdd]
  obtain ⟨e, he, _⟩ := get_lt hil
  obtain ⟨C, hC, eC⟩ := hold_item (cap := c3) (b := b3) he
  obtain ⟨y, my, back⟩ := m5.two
  have own : C e.2.dt = .row 8 (v.items.flatMap edt) := by rw [eC, ← drop_cons he, List.take_append_drop]
  have my : My h0 h5 ((.row 8 (w.items.flatMap edt), .slice aw w.items.length cw) :: (C e.2.dt, .slice (some ⟨b3, 0, none⟩) v.items.length c3) :: y :: (.row 8 (v.items.flatMap edt), .slice a v.items.length c) :: bag) := by
    rw [own]
    exact my
  refine var_store hC (V.dt_len _) my (by omega) fun h6 m6 => ?_
  rw [eC] at m6
  have m7 := back h6 [_] m6
  have m7 : CurM h0 h6 l p ((.row 8 ((setE v.items (v.items.length - 1) e w).flatMap edt), .slice (some ⟨b3, 0, none⟩) v.items.length c3) :: (.row 8 (v.items.flatMap edt), .slice a v.items.length c) :: bag) := m7
  try refine ⟨trivial, ?_⟩
  simp only [go_sem]
  have hsl := setE_len (w := w) he
  have hsb := setE_bulks (w := w) he
  have hso := setE_oks he (V.ok_items hv) hw
  have hlb := bulks_len' v.items
  have W2 : ∃ x : V, x = V.mk v.kind v.num v.str v.next (setE v.items (v.items.length - 1) e w) := ⟨_, rfl⟩
  obtain ⟨x, hx⟩ := W2
  have ox : x.ok := by rw [hx]; exact V.ok_mk (V.ok_kind hv) (V.ok_num hv) (by omega) (V.ok_next hv) (by omega) hso
  have bx : x.bulk ≤ 1600 := by
    rw [hx, V.bulk_eq]
    show v.str.size + V.bulks (setE v.items (v.items.length - 1) e w) ≤ 1600
    omega
  have m8 : CurM h0 h6 l p ((.row 8 (x.items.flatMap edt), .slice (some ⟨b3, 0, none⟩) v.items.length c3) :: (.row 8 (v.items.flatMap edt), .slice a v.items.length c) :: bag) := by rw [hx]; exact m7
  have k1 : x.kind = v.kind := by rw [hx]; rfl
  have k2 : x.num = v.num := by rw [hx]; rfl
  have k3 : x.str = v.str := by rw [hx]; rfl
  have k4 : x.next = v.next := by rw [hx]; rfl
  clear hx m7
  refine regionQ_intro (lb := [30]) (pl := [31]) 5 rfl (by kernel_rfl) fun b6 T6 hb6 => ?_
  have m9 := cur_val (w := x) m8 hb6 T6
  rw [k1, k2, k3, k4] at m9
  obtain ⟨y6, my6, back6⟩ := m9.fst
  simp only [proF_v, proF_b, proF_e, delb_c, delb_e, go_sem, Nat.reduceBEq, Nat.reduceAdd, Nat.reduceLeDiff]
  refine var_take (Hold.ptr (p := []) (q := [])) my6 rfl fun a7 n7 m7 => ?_
  simp only [go_sem, Nat.reduceBEq, Nat.reduceAdd, Nat.reduceLeDiff]
  exact ⟨v, x, a, a7, c, n7, rfl, hv, ox, by omega, bx, back6 _ [_] m7⟩
theorem drawToNumber_c (hl : l.length ≤ 1048576) {sl : Value} (rd : RdS h0 1 sl (bcells l)) (m : My h0 h bag) : ACalls Tryd.prog 13 #[sl] h (fun u h' => ∃ p, ValP 1500 h0 l p bag u h') := by
  (refine enter Tryd.func13 rfl rfl (by kernel_rfl) [] ?_; simp only [go_sem, Nat.reduceBEq])
  refine (l1New_c hl rd m).mono ?_
  rintro _ h1 ⟨p, rfl, m1⟩
  simp only [go_sem, Nat.reduceBEq]
  refine (l5Any_c hl m1).mono ?_
  rintro _ h2 ⟨v, a, c, rfl, hv, hb, m2⟩
  simp only [go_sem, Nat.reduceBEq, Nat.reduceAdd, Nat.reduceLeDiff]
  exact ⟨p, v, a, c, rfl, hv, hb, m2⟩
theorem drawCompare_c (hl : l.length ≤ 1048576) {sl : Value} (rd : RdS h0 1 sl (bcells l)) (m : My h0 h bag) : ACalls Tryd.prog 8 #[sl] h (fun u h' => ∃ p, TwoP 1600 h0 l p bag u h') := by
  (refine enter Tryd.func8 rfl rfl (by kernel_rfl) [] ?_; simp only [go_sem, Nat.reduceBEq])
  refine (l1New_c hl rd m).mono ?_
  rintro _ h1 ⟨p, rfl, m1⟩
  simp only [go_sem, Nat.reduceBEq]
  refine (l9Two_c hl m1).mono ?_
  rintro _ h2 ⟨v, w, a, b, c, d, rfl, hv, hw, hb, hwb, m2⟩
  simp only [go_sem, Nat.reduceBEq, Nat.reduceAdd, Nat.reduceLeDiff]
  exact ⟨p, v, w, a, b, c, d, rfl, hv, hw, hb, hwb, m2⟩
def ArithP (h0 : Hp) (l : List UInt8) (bag : Bag) (u : Value) (h' : Hp) : Prop := ∃ (p : Nat) (x y z : Int), u = .tuple #[.int .i64 x, .int .i64 y, .int .i64 z] ∧ CurM h0 h' l p bag
theorem drawArith_c (hl : l.length ≤ 1048576) {sl : Value} (rd : RdS h0 1 sl (bcells l)) (m : My h0 h bag) : ACalls Tryd.prog 25 #[sl] h (ArithP h0 l bag) := by
  (refine enter Tryd.func25 rfl rfl (by kernel_rfl) [] ?_; simp only [go_sem, Nat.reduceBEq])
  refine (l1New_c hl rd m).mono ?_
  rintro _ h1 ⟨p, rfl, m1⟩
  simp only [go_sem, Nat.reduceBEq]
  refine (l1Below_c hl m1 7 (by decide) (by decide)).mono ?_
  rintro _ h2 ⟨x, rfl, x0, x1, m2⟩
  simp only [go_sem, Nat.reduceBEq]
  refine (l1One_c hl m2).mono ?_
  rintro _ h3 ⟨y, rfl, y0, m3⟩
  simp only [go_sem, Nat.reduceBEq]
  refine (l1One_c hl m3).mono ?_
  rintro _ h4 ⟨z, rfl, z0, m4⟩
  simp only [go_sem, Nat.reduceBEq]
  refine (l1Below_c hl m4 3 (by decide) (by decide)).mono ?_
  rintro _ h5 ⟨t, rfl, t0, t1, m5⟩
  simp only [go_sem, Nat.reduceBEq]
  exact ⟨p, _, _, _, rfl, m5⟩
/-- A draw of an operation and two values. -/
def OpP (h0 : Hp) (l : List UInt8) (bag : Bag) (u : Value) (h' : Hp) : Prop := ∃ (p : Nat) (op : Int) (v w : V) (a b : Option Addr) (c d : Nat), u = .tuple #[.int .i64 op, .agg #[.int .i64 v.kind, .int .i64 v.num, .string v.str, .int .i64 v.next, .slice a v.items.length c], .agg #[.int .i64 w.kind, .int .i64 w.num, .string w.str, .int .i64 w.next, .slice b w.items.length d]] ∧ 0 ≤ op ∧ op ≤ 16 ∧ v.ok ∧ w.ok ∧ v.bulk ≤ 1600 ∧ w.bulk ≤ 1600 ∧ CurM h0 h' l p ((.row 8 (w.items.flatMap edt), .slice b w.items.length d) :: (.row 8 (v.items.flatMap edt), .slice a v.items.length c) :: bag)
theorem drawBinary_c (hl : l.length ≤ 1048576) {sl : Value} (rd : RdS h0 1 sl (bcells l)) (m : My h0 h bag) : ACalls Tryd.prog 27 #[sl] h (OpP h0 l bag) := by
  (refine enter Tryd.func27 rfl rfl (by kernel_rfl) [] ?_; simp only [go_sem, Nat.reduceBEq])
  refine (l1New_c hl rd m).mono ?_
  rintro _ h1 ⟨p, rfl, m1⟩
  simp only [go_sem, Nat.reduceBEq]
  refine (l1Below_c hl m1 17 (by decide) (by decide)).mono ?_
  rintro _ h2 ⟨op, rfl, x0, x1, m2⟩
  simp only [go_sem, Nat.reduceBEq]
  refine (l1Once_c hl m2 9 (by decide) (by decide)).mono ?_
  rintro _ h3 ⟨b, rfl, m3⟩
  simp only [go_sem, Nat.reduceBEq]
  cases b with
  | false =>
    simp only [go_sem, Nat.reduceBEq]
    refine (l9Two_c hl m3).mono ?_
    rintro _ h4 ⟨v, w, a, b, c, d, rfl, hv, hw, hb, hwb, m4⟩
    simp only [go_sem, Nat.reduceBEq, Nat.reduceAdd, Nat.reduceLeDiff]
    refine regionQ_intro (lb := [34]) (pl := [35]) 9 rfl (by kernel_rfl) fun b6 T6 hb6 => ?_
    obtain ⟨y6, my6, back6⟩ := (cur_val (w := w) m4 hb6 T6).fst
    simp only [proF_v, proF_b, proF_e, delb_c, delb_e, go_sem, Nat.reduceBEq, Nat.reduceAdd, Nat.reduceLeDiff]
    refine var_take (Hold.ptr (p := []) (q := [])) my6 rfl fun a7 n7 m7 => ?_
    simp only [go_sem, Nat.reduceBEq, Nat.reduceAdd, Nat.reduceLeDiff]
    exact ⟨p, op, v, w, a, a7, c, n7, rfl, x0, by omega, hv, hw, hb, hwb, back6 _ [_] m7⟩
  | true =>
  simp only [go_sem]
  refine aloop (ι := ByteArray) (fun s => [(7, .val (.string s)), (6, .val (.int .i64 op)), (5, .val (pv p)), (4, .box 4 0), (3, .box 3 0)])
    (fun _ => [(4, [.int .i64 0, .int .i64 0, .string ⟨#[]⟩, .int .i64 0, .slice none 0 0]), (3, [.int .i64 0, .int .i64 0, .string ⟨#[]⟩, .int .i64 0, .slice none 0 0])])
    (fun s h' => s.size ≤ 400 ∧ h' = h3) (fun s => 401 - s.size) ⟨#[]⟩ ⟨by decide, rfl⟩ (by repeat (first | exact wkF_e | refine wkF_c rfl ?_)) (wkB_c rfl (wkB_c rfl wkB_e)) rfl ?_
  rintro s _ ⟨hs, rfl⟩
  have hs : s.size ≤ 400 := hs
  simp only [go_sem, Nat.reduceBEq]
  by_cases hc : s.size < 396
  · simp only [show decide ((s.size : Int) < 396) = true from decide_eq_true (by omega), go_sem, Nat.reduceBEq]
    have hz : (s ++ ⟨#[97, 98, 99, 100, 101]⟩).size = s.size + 5 := by simp [ByteArray.size_append]; rfl
    refine ⟨by rw [i64max]; show ((s.size + 5 : Nat) : Int) ≤ _; omega, ?_⟩
    try simp only [go_sem, Nat.reduceBEq, Nat.reduceAdd, Nat.reduceLeDiff, Nat.reduceEqDiff, Int.reduceEq, not_false_eq_true, Int.reduceToNat]
    exact Again.intro (s ++ ⟨#[97, 98, 99, 100, 101]⟩) (by rw [hz]; omega) ⟨by rw [hz]; omega, rfl⟩ (by repeat (first | exact wkF_e | refine wkF_c rfl ?_)) (wkB_c rfl (wkB_c rfl wkB_e)) rfl
  simp only [show decide ((s.size : Int) < 396) = false from decide_eq_false (by omega), go_sem, Nat.reduceBEq]
  (refine (dTextV s _).mono ?_; rintro _ _ ⟨rfl, rfl⟩; simp only [go_sem, Nat.reduceBEq])
  try simp only [go_sem, Nat.reduceBEq, Nat.reduceAdd, Nat.reduceLeDiff, Nat.reduceEqDiff, Int.reduceEq, not_false_eq_true, Int.reduceToNat]
  refine cur_strs [⟨#[]⟩, ⟨#[97, 98, 99]⟩, ⟨#[97, 98, 99, 100]⟩, ⟨#[97, 98, 99, 100, 101]⟩] slT80 rfl rfl rfl (by decide) (by decide) m3 fun v4 h4 m4 => ?_
  simp only [go_sem, Nat.reduceBEq]
  refine (l1Str_c hl m4 (by decide) (by decide)).mono ?_
  rintro _ h5 ⟨r, hr, rfl, m5⟩
  have hrs : r.size ≤ 5 := by
    simp only [List.mem_cons, List.not_mem_nil, or_false] at hr
    rcases hr with h | h | h | h <;> (rw [h]; decide)
  simp only [go_sem, Nat.reduceBEq]
  (refine (dTextV r _).mono ?_; rintro _ _ ⟨rfl, rfl⟩; simp only [go_sem, Nat.reduceBEq, Nat.reduceAdd, Nat.reduceLeDiff])
  try simp only [go_sem, Nat.reduceBEq, Nat.reduceAdd, Nat.reduceLeDiff, Nat.reduceEqDiff, Int.reduceEq, not_false_eq_true, Int.reduceToNat]
  refine ⟨p, op, V.mk 3 0 s 0 [], V.mk 3 0 r 0 [], none, none, 0, 0, rfl, x0, by omega, V.ok_mk (by decide) (by decide) (by omega) (by decide) (Nat.zero_le _) (by simp only [V.oks]), V.ok_mk (by decide) (by decide) (by omega) (by decide) (Nat.zero_le _) (by simp only [V.oks]), by rw [V.bulk_eq]; show s.size + 0 ≤ 1600; omega, by rw [V.bulk_eq]; show r.size + 0 ≤ 1600; omega, ?_⟩
  have m6 := m5.drop
  exact (m6.upd fun d m => (m.nilrow).swap).upd fun d m => (m.nilrow).swap
end
end Go.Proofs.YtconhonjkfpfmaaDoor
namespace Go.Proofs.YtconhonjkfpfmaaDoor
set_option maxRecDepth 8000
open Go Go.Sx Go.ChangeShapes Go.WideShapes Go.RowKit Go.ChangeMaps
section
variable {H : Type} {enc : TypeId × Value → H} {w : World} {base : Nat} {sp : Nat → Bool} {held : Bool}
def bdt (b : UInt8) : List Dt := [.raw (.int .u8 b.toNat)]
theorem openB {v0 : Value} {d : DataW H} {ps : List MemPlace} (h : DataW.Trod enc Tryd.prog w base sp held 22 v0 d ps) (h1 : oneCell v0 = true) :
    ∃ (l : List UInt8), RdS (vis w) 1 v0 (bcells l) := by
  obtain ⟨n, h⟩ := h
  obtain ⟨l, v, e, _, _, hrd⟩ := open_list (α := UInt8) (f := bdt) (ok := fun _ => True) (z := 1) Tryd.underlying22 (by kernel_rfl) (by decide) (fun n' cs' x' _ h' => by
    obtain ⟨m, e, h0, h2⟩ := trod_one Tryd.underlying5 h'
    have h0 : 0 ≤ m := h0
    have h2 : m ≤ 255 := h2
    refine ⟨UInt8.ofNat m.toNat, trivial, ?_⟩
    have h3 : (UInt8.ofNat m.toNat).toNat = m.toNat := by
      rw [UInt8.toNat_ofNat']
      exact Nat.mod_eq_of_lt (by show m.toNat < 256; omega)
    rw [e]
    simp only [bdt, RdL_cons, RdL_nil, Rd_raw]
    exact ⟨_, _, rfl, ⟨by rw [h3, Int.toNat_of_nonneg h0], rfl⟩, rfl⟩) h
  have : v0 = v := by cases v0 <;> first | (simp [Value.cells] at e; exact e) | (simp [oneCell] at h1)
  subst this
  refine ⟨l, ?_⟩
  simp only [Rd] at hrd
  obtain ⟨xs, r1, r2⟩ := hrd
  have r2 : RdL (vis w) ((bcells l).map .raw) xs := by
    have : ∀ l : List UInt8, l.flatMap bdt = (bcells l).map .raw := by
      intro l
      induction l with
      | nil => rfl
      | cons b r ih => simp only [List.flatMap_cons, ih, bdt, bcells, List.map_cons, List.cons_append, List.nil_append]
    rw [← this]
    exact r2
  rwa [r2.of_raws] at r1
end
end Go.Proofs.YtconhonjkfpfmaaDoor
namespace Go.Proofs.YtconhonjkfpfmaaDoor
set_option maxRecDepth 8000
open Go Go.Sx
theorem big_c (l : List UInt8) (sl : Value) (h : Hp) (rd : RdS h 1 sl (bcells l)) : ACalls Tryd.prog 7 #[sl] h (Pu (.bool (decide (1048576 < l.length))) h) := by
  have hbl : (bcells l).length = l.length * 1 := by simp [bcells]
  obtain ⟨a, c, rfl, _⟩ := rd.slice l.length (by decide) hbl
  (refine enter Tryd.func7 rfl rfl (by kernel_rfl) [] ?_; simp only [go_sem, Nat.reduceBEq])
  exact ⟨by rw [show decide ((1048576 : Int) < (l.length : Nat)) = decide (1048576 < l.length) from decide_eq_decide.2 (by omega)], rfl⟩
end Go.Proofs.YtconhonjkfpfmaaDoor
namespace Go.Proofs.YtconhonjkfpfmaaDoor
set_option maxRecDepth 8000
open Go Go.Sx Go.ChangeShapes Go.WideShapes Go.ChangeAt Go.RowKit Go.ChangeMaps
theorem own : ownKnob Tryd.prog.godebug = none := by kernel_rfl
theorem laidOut : laidOutB Tryd.prog = true := by kernel_rfl
theorem FnCompare_law (l : List UInt8) (sl : Value) (h : Hp) (rd : RdS h 1 sl (bcells l)) (hT : Pow h) : ACalls Tryd.prog 3 #[sl] h (Is (.bool true) h) := by
  have hbl : (bcells l).length = l.length * 1 := by simp [bcells]
  obtain ⟨a, c, rfl, _⟩ := rd.slice l.length (by decide) hbl
  (refine enter Tryd.func3 rfl rfl (by kernel_rfl) [] ?_; simp only [go_sem, Nat.reduceBEq])
  (refine (big_c l _ _ rd).mono ?_; rintro _ _ ⟨rfl, rfl⟩; simp only [go_sem, Nat.reduceBEq])
  by_cases hl : 1048576 < l.length
  · simp only [decide_eq_true hl, go_sem, Nat.reduceBEq]
    exact ⟨rfl, Ext.refl _⟩
  simp only [decide_eq_false hl, go_sem, Nat.reduceBEq]
  refine (drawCompare_c (by omega) rd (My.nil (Ext.refl h))).mono ?_
  rintro _ h1 ⟨p, v, w, av, aw, cv, cw, rfl, okv, okw, hbv, hbw, m1⟩
  have E1 := m1.my.ext
  have rv1 : RdE h1 v.items (.slice av v.items.length cv) := m1.my.rd2
  have rw1 : RdE h1 w.items (.slice aw w.items.length cw) := m1.my.rd
  clear m1
  simp only [go_sem, Nat.reduceBEq, Nat.reduceAdd, Nat.reduceLeDiff]
  refine (iCompare v w okv okw (by omega) (by omega) _ _ _ rv1 rw1 (hT.ext E1)).mono ?_
  rintro _ h2 ⟨rfl, e2⟩
  have E2 := E1.trans e2
  simp only [go_sem, Nat.reduceBEq, Nat.reduceAdd, Nat.reduceLeDiff]
  refine (iCompare w v okw okv (by omega) (by omega) _ _ _ (rw1.mono e2) (rv1.mono e2) (hT.ext E2)).mono ?_
  rintro _ h3 ⟨rfl, e3⟩
  have E3 := E2.trans e3
  have rv3 := rv1.mono (e2.trans e3)
  have rw3 := rw1.mono (e2.trans e3)
  simp only [go_sem, Nat.reduceBEq, Nat.reduceAdd, Nat.reduceLeDiff]
  refine (sIsValue v (by omega) _ _ rv3).mono ?_
  rintro _ h4 ⟨rfl, e4⟩
  have E4 := E3.trans e4
  have rv4 := rv3.mono e4
  have rw4 := rw3.mono e4
  simp only [go_sem, Nat.reduceBEq]
  cases hva : v.valid with
  | false =>
    simp only [go_sem, Nat.reduceBEq, Nat.reduceAdd, Nat.reduceLeDiff]
    refine (sIsValue v (by omega) _ _ rv4).mono ?_
    rintro _ g11 ⟨rfl, f11⟩
    have E11 := E4.trans f11
    have rv11 := rv4.mono f11
    have rw11 := rw4.mono f11
    rw [hva]
    try simp only [go_sem, Nat.reduceBEq, Nat.reduceAdd, Nat.reduceLeDiff]
    refine (iLoose v w okv okw (by omega) (by omega) _ _ _ rv11 rw11 (hT.ext E11)).mono ?_
    rintro _ g12 ⟨rfl, f12⟩
    have E12 := E11.trans f12
    have rv12 := rv11.mono f12
    have rw12 := rw11.mono f12
    try simp only [go_sem, Nat.reduceBEq]
    exact ⟨by simp, E12⟩
  | true =>
  have hself := decide_eq_true (same_cmp v v (valid_wf hva) (same_self v))
  simp only [go_sem, Nat.reduceBEq, Nat.reduceAdd, Nat.reduceLeDiff]
  refine (sIsValue w (by omega) _ _ rw4).mono ?_
  rintro _ h5 ⟨rfl, e5⟩
  have E5 := E4.trans e5
  have rv5 := rv4.mono e5
  have rw5 := rw4.mono e5
  simp only [go_sem, Nat.reduceBEq]
  cases hwa : w.valid with
  | false =>
    simp only [go_sem, Nat.reduceBEq, Nat.reduceAdd, Nat.reduceLeDiff]
    refine (sIsValue v (by omega) _ _ rv5).mono ?_
    rintro _ g13 ⟨rfl, f13⟩
    have E13 := E5.trans f13
    have rv13 := rv5.mono f13
    have rw13 := rw5.mono f13
    rw [hva]
    try simp only [go_sem, Nat.reduceBEq, Nat.reduceAdd, Nat.reduceLeDiff]
    refine (iLoose v v okv okv (by omega) (by omega) _ _ _ rv13 rv13 (hT.ext E13)).mono ?_
    rintro _ g14 ⟨rfl, f14⟩
    have E14 := E13.trans f14
    have rv14 := rv13.mono f14
    have rw14 := rw13.mono f14
    rw [hself]
    try simp only [go_sem, Nat.reduceBEq, Nat.reduceAdd, Nat.reduceLeDiff]
    (refine (sSame v w (by omega) (by omega) _ _ _ rv14 rw14).mono ?_; rintro _ _ ⟨rfl, rfl⟩; simp only [go_sem, Nat.reduceBEq])
    cases hs : V.same v w with
    | false =>
      try simp only [go_sem, Nat.reduceBEq, Nat.reduceAdd, Nat.reduceLeDiff]
      refine (iLoose v w okv okw (by omega) (by omega) _ _ _ rv14 rw14 (hT.ext E14)).mono ?_
      rintro _ g15 ⟨rfl, f15⟩
      have E15 := E14.trans f15
      have rv15 := rv14.mono f15
      have rw15 := rw14.mono f15
      try simp only [go_sem, Nat.reduceBEq]
      exact ⟨by simp, E15⟩
    | true =>
    try simp only [go_sem, Nat.reduceBEq, Nat.reduceAdd, Nat.reduceLeDiff]
    have hvw := same_cmp v w (valid_wf hva) hs
    refine (iLoose v w okv okw (by omega) (by omega) _ _ _ rv14 rw14 (hT.ext E14)).mono ?_
    rintro _ g16 ⟨rfl, f16⟩
    have E16 := E14.trans f16
    have rv16 := rv14.mono f16
    have rw16 := rw14.mono f16
    rw [decide_eq_true hvw]
    try simp only [go_sem, Nat.reduceBEq, Nat.reduceAdd, Nat.reduceLeDiff]
    refine (iLoose v w okv okw (by omega) (by omega) _ _ _ rv16 rw16 (hT.ext E16)).mono ?_
    rintro _ g17 ⟨rfl, f17⟩
    have E17 := E16.trans f17
    have rv17 := rv16.mono f17
    have rw17 := rw16.mono f17
    try simp only [go_sem, Nat.reduceBEq]
    exact ⟨by simp, E17⟩
  | true =>
  simp only [go_sem, Nat.reduceBEq]
  by_cases k1 : v.kind ≤ 3
  case neg =>
    simp only [decide_eq_false k1, go_sem, Nat.reduceBEq, Nat.reduceAdd, Nat.reduceLeDiff]
    refine (sIsValue v (by omega) _ _ rv5).mono ?_
    rintro _ g18 ⟨rfl, f18⟩
    have E18 := E5.trans f18
    have rv18 := rv5.mono f18
    have rw18 := rw5.mono f18
    rw [hva]
    try simp only [go_sem, Nat.reduceBEq, Nat.reduceAdd, Nat.reduceLeDiff]
    refine (iLoose v v okv okv (by omega) (by omega) _ _ _ rv18 rv18 (hT.ext E18)).mono ?_
    rintro _ g19 ⟨rfl, f19⟩
    have E19 := E18.trans f19
    have rv19 := rv18.mono f19
    have rw19 := rw18.mono f19
    rw [hself]
    try simp only [go_sem, Nat.reduceBEq, Nat.reduceAdd, Nat.reduceLeDiff]
    (refine (sSame v w (by omega) (by omega) _ _ _ rv19 rw19).mono ?_; rintro _ _ ⟨rfl, rfl⟩; simp only [go_sem, Nat.reduceBEq])
    cases hs : V.same v w with
    | false =>
      try simp only [go_sem, Nat.reduceBEq, Nat.reduceAdd, Nat.reduceLeDiff]
      refine (iLoose v w okv okw (by omega) (by omega) _ _ _ rv19 rw19 (hT.ext E19)).mono ?_
      rintro _ g20 ⟨rfl, f20⟩
      have E20 := E19.trans f20
      have rv20 := rv19.mono f20
      have rw20 := rw19.mono f20
      try simp only [go_sem, Nat.reduceBEq]
      exact ⟨by simp, E20⟩
    | true =>
    try simp only [go_sem, Nat.reduceBEq, Nat.reduceAdd, Nat.reduceLeDiff]
    have hvw := same_cmp v w (valid_wf hva) hs
    refine (iLoose v w okv okw (by omega) (by omega) _ _ _ rv19 rw19 (hT.ext E19)).mono ?_
    rintro _ g21 ⟨rfl, f21⟩
    have E21 := E19.trans f21
    have rv21 := rv19.mono f21
    have rw21 := rw19.mono f21
    rw [decide_eq_true hvw]
    try simp only [go_sem, Nat.reduceBEq, Nat.reduceAdd, Nat.reduceLeDiff]
    refine (iLoose v w okv okw (by omega) (by omega) _ _ _ rv21 rw21 (hT.ext E21)).mono ?_
    rintro _ g22 ⟨rfl, f22⟩
    have E22 := E21.trans f22
    have rv22 := rv21.mono f22
    have rw22 := rw21.mono f22
    try simp only [go_sem, Nat.reduceBEq]
    exact ⟨by simp, E22⟩
  simp only [decide_eq_true k1, go_sem, Nat.reduceBEq]
  by_cases k2 : w.kind ≤ 3
  case neg =>
    simp only [decide_eq_false k2, go_sem, Nat.reduceBEq, Nat.reduceAdd, Nat.reduceLeDiff]
    refine (sIsValue v (by omega) _ _ rv5).mono ?_
    rintro _ g23 ⟨rfl, f23⟩
    have E23 := E5.trans f23
    have rv23 := rv5.mono f23
    have rw23 := rw5.mono f23
    rw [hva]
    try simp only [go_sem, Nat.reduceBEq, Nat.reduceAdd, Nat.reduceLeDiff]
    refine (iLoose v v okv okv (by omega) (by omega) _ _ _ rv23 rv23 (hT.ext E23)).mono ?_
    rintro _ g24 ⟨rfl, f24⟩
    have E24 := E23.trans f24
    have rv24 := rv23.mono f24
    have rw24 := rw23.mono f24
    rw [hself]
    try simp only [go_sem, Nat.reduceBEq, Nat.reduceAdd, Nat.reduceLeDiff]
    (refine (sSame v w (by omega) (by omega) _ _ _ rv24 rw24).mono ?_; rintro _ _ ⟨rfl, rfl⟩; simp only [go_sem, Nat.reduceBEq])
    cases hs : V.same v w with
    | false =>
      try simp only [go_sem, Nat.reduceBEq, Nat.reduceAdd, Nat.reduceLeDiff]
      refine (iLoose v w okv okw (by omega) (by omega) _ _ _ rv24 rw24 (hT.ext E24)).mono ?_
      rintro _ g25 ⟨rfl, f25⟩
      have E25 := E24.trans f25
      have rv25 := rv24.mono f25
      have rw25 := rw24.mono f25
      try simp only [go_sem, Nat.reduceBEq]
      exact ⟨by simp, E25⟩
    | true =>
    try simp only [go_sem, Nat.reduceBEq, Nat.reduceAdd, Nat.reduceLeDiff]
    have hvw := same_cmp v w (valid_wf hva) hs
    refine (iLoose v w okv okw (by omega) (by omega) _ _ _ rv24 rw24 (hT.ext E24)).mono ?_
    rintro _ g26 ⟨rfl, f26⟩
    have E26 := E24.trans f26
    have rv26 := rv24.mono f26
    have rw26 := rw24.mono f26
    rw [decide_eq_true hvw]
    try simp only [go_sem, Nat.reduceBEq, Nat.reduceAdd, Nat.reduceLeDiff]
    refine (iLoose v w okv okw (by omega) (by omega) _ _ _ rv26 rw26 (hT.ext E26)).mono ?_
    rintro _ g27 ⟨rfl, f27⟩
    have E27 := E26.trans f27
    have rv27 := rv26.mono f27
    have rw27 := rw26.mono f27
    try simp only [go_sem, Nat.reduceBEq]
    exact ⟨by simp, E27⟩
  obtain ⟨t1, t2⟩ := cmp_opp (valid_kind hva k1) (valid_kind hwa k2)
  have t3 : V.cmp v w ≠ 2 := by unfold three at t1; omega
  have t4 : IntKind.i64.wrap (0 - V.cmp w v) = V.cmp v w := by
    unfold three at t1
    rw [t2] at t1
    rw [IntWalk.i64_in _ (by omega), t2]
    omega
  simp only [decide_eq_true k2, decide_eq_false t3, t4, decide_true, Bool.not_true, go_sem, Nat.reduceBEq, Nat.reduceAdd, Nat.reduceLeDiff]
  refine (sIsValue v (by omega) _ _ rv5).mono ?_
  rintro _ g28 ⟨rfl, f28⟩
  have E28 := E5.trans f28
  have rv28 := rv5.mono f28
  have rw28 := rw5.mono f28
  rw [hva]
  try simp only [go_sem, Nat.reduceBEq, Nat.reduceAdd, Nat.reduceLeDiff]
  refine (iLoose v v okv okv (by omega) (by omega) _ _ _ rv28 rv28 (hT.ext E28)).mono ?_
  rintro _ g29 ⟨rfl, f29⟩
  have E29 := E28.trans f29
  have rv29 := rv28.mono f29
  have rw29 := rw28.mono f29
  rw [hself]
  try simp only [go_sem, Nat.reduceBEq, Nat.reduceAdd, Nat.reduceLeDiff]
  (refine (sSame v w (by omega) (by omega) _ _ _ rv29 rw29).mono ?_; rintro _ _ ⟨rfl, rfl⟩; simp only [go_sem, Nat.reduceBEq])
  cases hs : V.same v w with
  | false =>
    try simp only [go_sem, Nat.reduceBEq, Nat.reduceAdd, Nat.reduceLeDiff]
    refine (iLoose v w okv okw (by omega) (by omega) _ _ _ rv29 rw29 (hT.ext E29)).mono ?_
    rintro _ g30 ⟨rfl, f30⟩
    have E30 := E29.trans f30
    have rv30 := rv29.mono f30
    have rw30 := rw29.mono f30
    try simp only [go_sem, Nat.reduceBEq]
    exact ⟨by simp, E30⟩
  | true =>
  try simp only [go_sem, Nat.reduceBEq, Nat.reduceAdd, Nat.reduceLeDiff]
  have hvw := same_cmp v w (valid_wf hva) hs
  refine (iLoose v w okv okw (by omega) (by omega) _ _ _ rv29 rw29 (hT.ext E29)).mono ?_
  rintro _ g31 ⟨rfl, f31⟩
  have E31 := E29.trans f31
  have rv31 := rv29.mono f31
  have rw31 := rw29.mono f31
  rw [decide_eq_true hvw]
  try simp only [go_sem, Nat.reduceBEq, Nat.reduceAdd, Nat.reduceLeDiff]
  refine (iLoose v w okv okw (by omega) (by omega) _ _ _ rv31 rw31 (hT.ext E31)).mono ?_
  rintro _ g32 ⟨rfl, f32⟩
  have E32 := E31.trans f32
  have rv32 := rv31.mono f32
  have rw32 := rw31.mono f32
  try simp only [go_sem, Nat.reduceBEq]
  exact ⟨by simp, E32⟩
theorem FnCompare_met (os : Os) (args : Array Value) : laidMetH Tryd.prog Rows.fnCompareRow.laid ((World.doorLaid Tryd.prog 400 os).forCall (fun _ _ => 0) ⟨#[], args, []⟩).memory :=
  laidMetH_of_parts3 (fuel := 8) (laidMet_of_run' 8 (by kernel_rfl) (by kernel_rfl)) (by kernel_rfl) (by kernel_rfl)
set_option maxRecDepth 100000 in
theorem FnCompare_lifted (os : Os) (started : os.Started) (H : Type) (enc : TypeId × Value → H) :
    ReturnsInHanded {} Tryd.checked os 3 .any (fun w args => (Rows.fnCompareSpec.pre enc Tryd.prog Tryd.f3 Rows.fnCompareRow.domain false w args ∧ laidMetH Tryd.prog Rows.fnCompareRow.laid w) ∧ sizedMet enc Tryd.prog Tryd.f3 (OpenSpec.ofChange Rows.fnCompareSpec) false w args) (Rows.fnCompareSpec.post enc Tryd.prog Tryd.f3 false true false false) := by
  refine returnsInHanded_of_change_and (C := Tryd.checked) (X := fun w _ => laidMetH Tryd.prog Rows.fnCompareRow.laid w) (fun _ _ _ hh h => h.of_heap hh) own started (by kernel_rfl) Tryd.func3
    (ChangeSpec.witness_shaped (enc := enc) (C := Tryd.checked) (os := os) (X := fun w _ => laidMetH Tryd.prog Rows.fnCompareRow.laid w) false (World.doorLaid Tryd.prog 400 os) #[.slice none 0 0] 8 rfl (World.shaped_of_RefB (by kernel_rfl) (by kernel_rfl)) (by kernel_rfl) (by kernel_rfl) (by kernel_rfl) (FnCompare_met os _)) ?_
  intro W base args ds gs before hval0 hW _ _ hL _
  have hT : Pow (vis W) := pow_of (by kernel_rfl) (by rw [MakeChecks.laidMetH_plain _ _ _ (by kernel_rfl)] at hL; exact hL)
  have hval : ∀ (j : Nat) t v, Tryd.f3.params[j]? = some t → args[j]? = some v → Value.okWide Tryd.prog W .any base t v := hval0
  have hW' := hW
  obtain ⟨p, q, hA0, hV, rfl, _, _⟩ := hW
  have hA : DataW.TrodAll enc Tryd.prog W 0 (fun _ => true) true Tryd.f3.params.toList args.toList ds p := hA0
  rw [Tryd.params3] at hA hval
  obtain ⟨v0, vs0, d0, ds0, p0, q0, hargs, rfl, rfl, h0, r0⟩ := trodAll_cons hA
  obtain ⟨rfl, rfl, rfl⟩ := trodAll_nil r0
  obtain rfl : args = #[v0] := by cases args; simp_all
  obtain ⟨rfl, rfl⟩ := trodVars_none hV
  obtain ⟨_, _, _, rfl⟩ := okWide_slice Tryd.underlying22 (hval 0 22 v0 rfl rfl)
  obtain ⟨a0, e0⟩ := openB h0 rfl
  clear hA0 hval0
  simp only [List.append_nil] at hW'
  exact (to_below (FnCompare_law a0 _ _ e0 hT)).mono fun e W' ⟨he, hb⟩ => ⟨_, he, law_post laidOut (by kernel_rfl) rfl Tryd.underlying4 rfl hW' rfl rfl rfl hb⟩
theorem FnCompare_proved : Rows.FnCompareSaid :=
  OpenClaim.holds_of_wide 3 Tryd.f3 rfl rfl rfl rfl rfl rfl rfl ⟨rfl, rfl, rfl, rfl, rfl⟩ rfl rfl rfl rfl rfl (by kernel_rfl) Tryd.func3 (by kernel_rfl)
    (of_decide_eq_true (by kernel_rfl)) (by unfold Func.isWrapper; first | (rw [if_pos (by decide +kernel)]; kernel_rfl) | (rw [if_neg (by decide +kernel)]; exact ⟨rfl, rfl⟩))
    (fun os started H enc _ => FnCompare_lifted os started H enc)
theorem FnCompare_card : Rows.FnCompareCardSaid :=
  Claim7.holds_tied_plain_at .later [] Rows.fnCompareCard.laidKinds true Rows.fnCompareCard.stood.harness Rows.fnCompareCard.stood.looks
    FnCompare_proved (fun _ h => by cases h) (by kernel_rfl) (fun _ h => by cases h) fnCompare_row_tie rfl ⟨rfl, rfl⟩ (by kernel_rfl) rfl
    (fun f fn hf hfn => by
      obtain rfl : f = 3 := Option.some.inj ((show Tryd.prog.funcNamed Rows.fnCompareRow.func = some 3 by kernel_rfl).symm.trans hf) |>.symm
      obtain rfl : fn = Tryd.f3 := (Option.some.inj (Tryd.func3.symm.trans hfn)).symm
      exact ⟨by kernel_rfl, fun j t ht => by
        rw [Tryd.params3] at ht
        have hm : t ∈ [22] := by simpa using Array.mem_of_getElem? ht
        have hall : ([22].all fun u => !Tryd.prog.wantsStandIn u) = true := by kernel_rfl
        exact (show Tryd.prog.wantsStandIn t = false by simpa using List.all_eq_true.1 hall t hm)⟩)
    (by kernel_rfl)
end Go.Proofs.YtconhonjkfpfmaaDoor
