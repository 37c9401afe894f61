/-
  The draws' cursor: what l1New, l1Byte, l1Below, l1Once, l1Int and l1Str return.
-/
import Derived.Test.YtconhonjkfpfmaaNum
import Derived.Test.YtconhonjkfpfmaaSxCur
import Derived.Test.YtconhonjkfpfmaaSxMathW
namespace Go.Proofs.Ytconhonjkfpfmaa
set_option maxRecDepth 8000
open Go Go.Sx
section
variable {h0 h : Hp} {bag : Bag} {l : List UInt8} {p : Nat}
def NewP (h0 : Hp) (l : List UInt8) (bag : Bag) (u : Value) (h' : Hp) : Prop := ∃ p, u = pv p ∧ CurM h0 h' l p bag
theorem l1New_c (hl : l.length ≤ 1048576) {sl : Value} (rd : RdS h0 1 sl (bcells l)) (m : My h0 h bag) : ACalls Try.prog 15 #[sl] h (NewP h0 l bag) := by
  obtain ⟨a, c, b, off, rfl, hat⟩ := rd.bytes
  have e0 := m.ext
  have hat : ∀ i, i < l.length → At h ⟨b, off, none⟩ (bcells l) ∧ ixA (some 1) a l.length (i : Int) = some (.pointer (some ⟨b, off + i * 1, none⟩)) ∧ (bcells l)[i]? = some (.int .u8 ((l.getD i 0).toNat : Nat)) := fun i hi => hat i hi h e0
  (refine enter Try.func15 rfl rfl (by kernel_rfl) [31] ?_; simp only [go_sem, Nat.reduceBEq])
  generalize IntKind.i64.wrap (193017 + (l.length : Nat)) = hh0
  refine aloop (ι := Nat × Int) (fun x => [(4, .val (.int .i64 (x.1 : Nat))), (3, .val (.int .i64 x.2)), (0, .val (.slice a l.length c))]) (fun _ => [])
    (fun x h' => x.1 ≤ l.length ∧ h' = h) (fun x => l.length - x.1) (0, hh0) ⟨Nat.zero_le _, rfl⟩ (by repeat (first | exact wkF_e | refine wkF_c rfl ?_)) wkB_e rfl ?_
  rintro ⟨i, hh⟩ _ ⟨hi, rfl⟩
  have hi : i ≤ l.length := hi
  have fin : ∀ {p : Nat} {h' : Hp}, My h0 h' ((.ptr [] [.raw (.slice a l.length c), .raw (.int .i64 0), .raw (.int .i64 hh)] [], .pointer (some ⟨p, 0, none⟩)) :: bag) → NewP h0 l bag (.pointer (some ⟨p, 0, none⟩)) h' := fun {p h'} m' => ⟨p, rfl, a, c, 0, hh, Nat.zero_le _, rd, m'⟩
  have wsu := wrap_succ (i := i) (by omega)
  by_cases hb2 : i < l.length
  case neg =>
    simp only [show decide ((i : Int) < (l.length : Nat)) = false from decide_eq_false (by omega), go_sem, Nat.reduceBEq, Nat.reduceAdd, Nat.reduceLeDiff]
    refine hsem_my_box (es := [.raw (.slice a l.length c), .raw (.int .i64 0), .raw (.int .i64 hh)]) (m.raws3) rfl fun p h' m' => ?_
    simp only [go_sem, Nat.reduceBEq]
    exact fin m'
  obtain ⟨h1, h2, h3⟩ := hat i hb2
  by_cases h4 : (i : Int) < 4000
  case neg =>
    simp only [show decide ((i : Int) < (l.length : Nat)) = true from decide_eq_true (by omega), decide_eq_false h4, go_sem, Nat.reduceBEq, Nat.reduceAdd, Nat.reduceLeDiff]
    refine hsem_my_box (es := [.raw (.slice a l.length c), .raw (.int .i64 0), .raw (.int .i64 hh)]) (m.raws3) rfl fun p h' m' => ?_
    simp only [go_sem, Nat.reduceBEq]
    exact fin m'
  simp only [show decide ((i : Int) < (l.length : Nat)) = true from decide_eq_true (by omega), decide_eq_true h4, h2, go_sem, Nat.reduceBEq]
  refine hsem_at1 tyS5 h1 h3 (by omega) ?_
  simp only [wsu, vbin_an, go_sem, Nat.reduceBEq]
  exact Again.intro (i + 1, _) (by first | omega | (simp only; omega)) ⟨hb2, rfl⟩ (by repeat (first | exact wkF_e | refine wkF_c rfl ?_)) wkB_e rfl
theorem l1Byte_c (hl : l.length ≤ 1048576) (m : CurM h0 h l p bag) : ACalls Try.prog 45 #[pv p] h (NumP 0 255 h0 l p bag) := by
  obtain ⟨a, c, i, hh, hi, rd, m⟩ := m
  obtain ⟨a', c', b, off, e', hat⟩ := rd.bytes
  cases e'
  (refine enter Try.func45 rfl rfl (by kernel_rfl) [] ?_; simp only [go_sem, Nat.reduceBEq])
  refine cu_ldH tyS3 m rfl ?_
  simp only [go_sem, Nat.reduceBEq, Nat.reduceAdd]
  refine cu_stH tyS3 m rfl fun h1 m => ?_
  try refine ⟨trivial, ?_⟩
  simp only [go_sem, Nat.reduceAdd]
  generalize IntKind.i64.wrap (IntKind.i64.wrap (hh * 6364136223846793005) + 1442695040888963407) = hh1 at m ⊢
  refine regionD_intro (lb := []) (by kernel_rfl) ?_
  simp only [go_sem, Nat.reduceBEq]
  refine cu_ldH tyS3 m rfl ?_
  simp only [vbin_shr33, go_sem, Nat.reduceBEq, Nat.reduceAdd]
  refine cu_ldH tyS3 m rfl ?_
  simp only [vbin_shr47, vbin_xor, go_sem, Nat.reduceBEq, Nat.reduceAdd]
  generalize xr (hh1.fdiv 8589934592) (hh1.fdiv 140737488355328) = y
  have hx := (vbin_and255 (P := Try.prog) (t := 3) (nc := false) y).choose_spec
  generalize (vbin_and255 (P := Try.prog) (t := 3) (nc := false) y).choose = x at hx
  simp only [hx.2, go_sem, Nat.reduceBEq]
  refine regionD_intro (lb := []) (by kernel_rfl) ?_
  simp only [go_sem, Nat.reduceBEq]
  refine cu_ldI tyS3 m rfl ?_
  simp only [go_sem, Nat.reduceBEq]
  refine cu_ldB tyS22 m rfl ?_
  simp only [go_sem, Nat.reduceBEq]
  refine Br.intro (fun hb => ?_) (fun hb => ?_)
  · have hb1 := of_decide_eq_true hb
    have hb2 : i < l.length := by omega
    have h3 := hat i hb2 h1 m.ext
    have wsu := wrap_succ (i := i) (by omega)
    simp only [hb, go_sem]
    refine regionD_intro (lb := []) (by kernel_rfl) ?_
    simp only [go_sem, Nat.reduceBEq]
    refine cu_ldB tyS22 m rfl ?_
    simp only [go_sem, Nat.reduceBEq]
    refine cu_ldI tyS3 m rfl ?_
    simp only [h3.2.1, go_sem, Nat.reduceBEq]
    refine hsem_at1 tyS5 h3.1 h3.2.2 (by omega) ?_
    simp only [go_sem, Nat.reduceBEq]
    generalize IntKind.i64.wrap ((x : Nat) + IntKind.i64.wrap ((l.getD i 0).toNat : Nat)) = y2
    have hx2 := (vbin_and255 (P := Try.prog) (t := 3) (nc := false) y2).choose_spec
    generalize (vbin_and255 (P := Try.prog) (t := 3) (nc := false) y2).choose = x2 at hx2
    simp only [hx2.2, go_sem, Nat.reduceBEq]
    refine cu_ldI tyS3 m rfl ?_
    simp only [wsu, go_sem, Nat.reduceBEq]
    refine cu_stI tyS3 m rfl fun h2 m => ?_
    try refine ⟨trivial, ?_⟩
    simp only [go_sem, Nat.reduceBEq]
    exact ⟨(x2 : Nat), rfl, by omega, by omega, a, c, i + 1, hh1, hb2, rd, m⟩
  · simp only [hb, go_sem, Nat.reduceBEq]
    exact ⟨(x : Nat), rfl, by omega, by omega, a, c, i, hh1, hi, rd, m⟩
theorem l1Below_c (hl : l.length ≤ 1048576) (m : CurM h0 h l p bag) (n : Int) (hn : 0 < n) (hn2 : n ≤ 1048576) : ACalls Try.prog 26 #[pv p, .int .i64 n] h (NumP 0 (n - 1) h0 l p bag) := by
  have hz : (n = 0) = False := eq_false (by omega)
  have f1 : decide (n ≤ 0) = false := decide_eq_false (by omega)
  (refine enter Try.func26 rfl rfl (by kernel_rfl) [] ?_; simp only [go_sem, Nat.reduceBEq])
  simp only [f1, go_sem, Nat.reduceBEq]
  by_cases h2 : n ≤ 256
  · simp only [decide_eq_true h2, go_sem, Nat.reduceBEq]
    refine (l1Byte_c hl m).mono ?_
    rintro _ h1 ⟨x, rfl, x0, x1, m1⟩
    simp only [hz, if_false, go_sem, Nat.reduceBEq]
    exact ⟨x.tmod n, rfl, Int.tmod_nonneg _ x0, by have := Int.tmod_lt_of_pos x hn; omega, m1⟩
  · simp only [decide_eq_false h2, go_sem, Nat.reduceBEq]
    refine (l1Byte_c hl m).mono ?_
    rintro _ h1 ⟨x, rfl, x0, x1, m1⟩
    simp only [go_sem, Nat.reduceBEq]
    refine (l1Byte_c hl m1).mono ?_
    rintro _ h2 ⟨y, rfl, y0, y1, m2⟩
    simp only [go_sem, Nat.reduceBEq]
    refine (l1Byte_c hl m2).mono ?_
    rintro _ h3 ⟨z, rfl, z0, z1, m3⟩
    have w1 : IntKind.i64.wrap (x * 65536) = x * 65536 := IntWalk.i64_in _ (by omega)
    have w2 : IntKind.i64.wrap (y * 256) = y * 256 := IntWalk.i64_in _ (by omega)
    have w3 : IntKind.i64.wrap (x * 65536 + y * 256) = x * 65536 + y * 256 := IntWalk.i64_in _ (by omega)
    have w4 : IntKind.i64.wrap (x * 65536 + y * 256 + z) = x * 65536 + y * 256 + z := IntWalk.i64_in _ (by omega)
    simp only [w1, w2, w3, w4, hz, if_false, go_sem, Nat.reduceBEq]
    exact ⟨(x * 65536 + y * 256 + z).tmod n, rfl, Int.tmod_nonneg _ (by omega), by have := Int.tmod_lt_of_pos (x * 65536 + y * 256 + z) hn; omega, m3⟩
theorem l1Once_c (hl : l.length ≤ 1048576) (m : CurM h0 h l p bag) (n : Int) (hn : 0 < n) (hn2 : n ≤ 1048576) : ACalls Try.prog 25 #[pv p, .int .i64 n] h (BoolP h0 l p bag) := by
  (refine enter Try.func25 rfl rfl (by kernel_rfl) [] ?_; simp only [go_sem, Nat.reduceBEq])
  refine (l1Below_c hl m n hn hn2).mono ?_
  rintro _ h1 ⟨x, rfl, x0, x1, m1⟩
  simp only [go_sem, Nat.reduceBEq]
  exact ⟨_, rfl, m1⟩
theorem l1Int_c (hl : l.length ≤ 1048576) {v : Value} {ns : List Int} (m : CurM h0 h l p ((.row 1 (ns.flatMap idt), v) :: bag)) (hn : 0 < ns.length) (hn2 : ns.length ≤ 1048576) : ACalls Try.prog 27 #[pv p, v] h (IntP ns h0 l p ((.row 1 (ns.flatMap idt), v) :: bag)) := by
  obtain ⟨b, c, rfl⟩ := m.row0 hn (fm_len idt_len _)
  (refine enter Try.func27 rfl rfl (by kernel_rfl) [] ?_; simp only [go_sem, Nat.reduceBEq])
  refine (l1Below_c hl m ns.length (by omega) (by omega)).mono ?_
  rintro _ h1 ⟨x, rfl, x0, x1, m1⟩
  obtain ⟨j, rfl⟩ := Int.eq_ofNat_of_zero_le x0
  have hj : j < ns.length := by omega
  obtain ⟨xs, hr, hat⟩ := m1.my.at_
  obtain ⟨e, he, hm⟩ := get_lt hj
  simp only [ix_nat hj, go_sem, Nat.reduceBEq]
  refine hsem_cell (f := idt) (o := 0) (d := .raw (.int .i64 e)) idt_len tyS3 (hat hn) hr he (by decide) rfl (by omega) fun v rv => ?_
  obtain ⟨rfl, _⟩ := Rd_raw.1 rv
  simp only [go_sem, Nat.reduceBEq]
  exact ⟨e, hm, rfl, m1⟩
theorem l1Str_c (hl : l.length ≤ 1048576) {v : Value} {ns : List ByteArray} (m : CurM h0 h l p ((.row 1 (ns.flatMap sdt), v) :: bag)) (hn : 0 < ns.length) (hn2 : ns.length ≤ 1048576) : ACalls Try.prog 28 #[pv p, v] h (StrP ns h0 l p ((.row 1 (ns.flatMap sdt), v) :: bag)) := by
  obtain ⟨b, c, rfl⟩ := m.row0 hn (fm_len sdt_len _)
  (refine enter Try.func28 rfl rfl (by kernel_rfl) [] ?_; simp only [go_sem, Nat.reduceBEq])
  refine (l1Below_c hl m ns.length (by omega) (by omega)).mono ?_
  rintro _ h1 ⟨x, rfl, x0, x1, m1⟩
  obtain ⟨j, rfl⟩ := Int.eq_ofNat_of_zero_le x0
  have hj : j < ns.length := by omega
  obtain ⟨xs, hr, hat⟩ := m1.my.at_
  obtain ⟨e, he, hm⟩ := get_lt hj
  simp only [ix_nat hj, go_sem, Nat.reduceBEq]
  refine hsem_cell (f := sdt) (o := 0) (d := .raw (.string e)) sdt_len tyS9 (hat hn) hr he (by decide) rfl (by omega) fun v rv => ?_
  obtain ⟨rfl, _⟩ := Rd_raw.1 rv
  simp only [go_sem, Nat.reduceBEq]
  exact ⟨e, hm, rfl, m1⟩
end
end Go.Proofs.Ytconhonjkfpfmaa
