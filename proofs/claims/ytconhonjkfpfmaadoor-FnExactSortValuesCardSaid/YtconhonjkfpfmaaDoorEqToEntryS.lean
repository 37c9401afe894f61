/-
  What the laws' eqEntryS and toEntryS do, given what the functions of one element do: two slices that read as one list are equal; a copy is made, all its memory new.
-/
import Derived.Test.YtconhonjkfpfmaaDoorFacts
import Derived.Test.YtconhonjkfpfmaaDoorSxLaw
import Derived.Test.YtconhonjkfpfmaaDoorSxDataT
namespace Go.Proofs.YtconhonjkfpfmaaDoor
set_option maxRecDepth 8000
open Go Go.Sx
def EqEntry (e : Ky × V) : Prop := ∀ (h : Hp) (ys zs : List Value), RdL h (edt e) ys → RdL h (edt e) zs → ACalls Tryd.prog 121 #[.agg ys.toArray, .agg zs.toArray] h (Pu (.bool true) h)
theorem eqEntryS_s (l : List (Ky × V)) (ih : ∀ e ∈ l, EqEntry e) (hl : l.length ≤ 4611686018427387904) (s1 s2 : Value) (h : Hp) (r1 : Rd h (.row 8 (l.flatMap edt)) s1) (r2 : Rd h (.row 8 (l.flatMap edt)) s2) :
    ACalls Tryd.prog 103 #[s1, s2] h (Pu (.bool true) h) := by
  obtain ⟨a1, c1, xs1, rfl, hc1, hr1, hat1⟩ := r1.rows (by decide) l.length (fm_len edt_len l)
  obtain ⟨a2, c2, xs2, rfl, hc2, hr2, hat2⟩ := r2.rows (by decide) l.length (fm_len edt_len l)
  (refine enter Tryd.func103 rfl rfl (by kernel_rfl) [] ?_; simp only [go_sem, Nat.reduceBEq])
  refine aloop (ι := Nat) (fun i => [(5, .val (.int .i64 (i : Nat))), (0, .val (.slice a1 l.length c1)), (1, .val (.slice a2 l.length c2))]) (fun _ => []) (fun i h' => i ≤ l.length ∧ h' = h) (fun i => l.length - i) 0 ⟨Nat.zero_le _, rfl⟩ (by repeat (first | exact wkF_e | refine wkF_c rfl ?_)) wkB_e rfl ?_
  rintro i _ ⟨hi, rfl⟩
  simp only [go_sem, Nat.reduceBEq]
  refine Br.intro (fun hb => ?_) (fun hb => ?_) <;> (try simp only [hb, go_sem, Nat.reduceBEq])
  · have hb : i < l.length := by simpa using hb
    obtain ⟨b1, o1, rfl, hat1'⟩ := hat1 (by omega)
    obtain ⟨b2, o2, rfl, hat2'⟩ := hat2 (by omega)
    obtain ⟨e, he, hm⟩ := get_lt hb
    have wsu := wrap_succ (i := i) (by omega)
    refine regionD_intro (lb := []) (by kernel_rfl) ?_
    simp only [ix_nat hb, go_sem, Nat.reduceBEq]
    refine hsem_row (f := edt) (o := 0) (ds := edt e) edt_len tyS69 hat1' hr1 he (Nat.le_refl _) (by rw [List.drop_zero, List.take_of_length_le (Nat.le_of_eq (edt_len e))]) ?_ fun ys1 q1 => ?_
    · omega
    simp only [ix_nat hb, go_sem, Nat.reduceBEq]
    refine hsem_row (f := edt) (o := 0) (ds := edt e) edt_len tyS69 hat2' hr2 he (Nat.le_refl _) (by rw [List.drop_zero, List.take_of_length_le (Nat.le_of_eq (edt_len e))]) ?_ fun ys2 q2 => ?_
    · omega
    simp only [go_sem, Nat.reduceBEq]
    (refine (ih e hm _ _ _ q1 q2).mono ?_; rintro _ _ ⟨rfl, rfl⟩; simp only [go_sem, Nat.reduceBEq])
    simp only [wsu, go_sem]
    exact Again.intro (i + 1) (by first | omega | (simp only; omega)) ⟨hb, rfl⟩ (by repeat (first | exact wkF_e | refine wkF_c rfl ?_)) wkB_e rfl
  · exact ⟨rfl, rfl⟩
def ToEntry (e : Ky × V) : Prop := ∀ (h : Hp) (ys : List Value), RdL h (edt e) ys → ACalls Tryd.prog 119 #[.agg ys.toArray] h fun u h' => ∃ us, u = .agg us.toArray ∧ us.length = 8 ∧ My h h' ((edt e).zip us)
theorem toEntryS_s (l : List (Ky × V)) (ih : ∀ e ∈ l, ToEntry e) (hl : l.length ≤ 1048576) (sl : Value) (h : Hp) (rd : Rd h (.row 8 (l.flatMap edt)) sl) :
    ACalls Tryd.prog 100 #[sl] h fun u h' => My h h' [(.row 8 (l.flatMap edt), u)] := by
  obtain ⟨a, c, xs, rfl, hc, hr, hat⟩ := rd.rows (by decide) l.length (fm_len edt_len l)
  (refine enter Tryd.func100 rfl rfl (by kernel_rfl) [] ?_; simp only [go_sem, Nat.reduceBEq])
  refine hsem_my_make slT24 (by decide) rfl rfl hl (by decide) (My.nil (Ext.refl h)) fun bo h1 m1 => ?_
  simp only [go_sem, Nat.reduceBEq]
  generalize hzz : SlT.zero _ = zz at m1
  refine aloop (ι := Nat) (fun i => [(4, .val (.int .i64 (i : Nat))), (3, .val (.slice (some ⟨bo, 0, none⟩) l.length l.length)), (0, .val (.slice a l.length c))]) (fun _ => []) (fun i h' => i ≤ l.length ∧ My h h' [(.row 8 ((l.take i).flatMap edt ++ zeros zz (l.length - i)), .slice (some ⟨bo, 0, none⟩) l.length l.length)]) (fun i => l.length - i) 0
    ⟨Nat.zero_le _, m1⟩ (by repeat (first | exact wkF_e | refine wkF_c rfl ?_)) wkB_e rfl ?_
  rintro i h2 ⟨hi, m2⟩
  have hi : i ≤ l.length := hi
  have m2 : My h h2 [(.row 8 ((l.take i).flatMap edt ++ zeros zz (l.length - i)), .slice (some ⟨bo, 0, none⟩) l.length l.length)] := m2
  simp only [go_sem, Nat.reduceBEq]
  refine Br.intro (fun hb => ?_) (fun hb => ?_) <;> (try simp only [hb, go_sem, Nat.reduceBEq])
  · have hb : i < l.length := by simpa using hb
    obtain ⟨b, o, rfl, hat'⟩ := hat (by omega)
    have hat2 := hat'.mono m2.ext
    have hr2 := hr.mono m2.ext
    obtain ⟨e, he, hm⟩ := get_lt hb
    have wsu := wrap_succ (i := i) (by omega)
    simp only [ix_nat hb, go_sem, Nat.reduceBEq]
    refine hsem_row (f := edt) (o := 0) (ds := edt e) edt_len tyS115 hat2 hr2 he (Nat.le_refl _) (by rw [List.drop_zero, List.take_of_length_le (Nat.le_of_eq (edt_len e))]) ?_ fun ys1 q1 => ?_
    · omega
    simp only [go_sem, Nat.reduceBEq]
    refine (ih e hm _ _ q1).mono ?_
    rintro _ h3 ⟨us, rfl, hus, n3⟩
    simp only [ix_nat hb, go_sem, Nat.reduceBEq]
    have m3 := m2.add n3
    rw [zeros_sub zz hb] at m3
    refine hsem_my_put tyS69 m3 (by omega) (by rw [List.length_map, ← hzz]; rfl) (edt_len e) hus ?_ fun h4 m4 => ?_
    · rw [fm_len edt_len, List.length_take, Nat.min_eq_left hi]
    simp only [wsu, go_sem, Nat.reduceBEq]
    refine Again.intro (i + 1) (by first | omega | (simp only; omega)) ⟨hb, ?_⟩ (by repeat (first | exact wkF_e | refine wkF_c rfl ?_)) wkB_e rfl
    rw [take_snoc he, List.flatMap_append, List.flatMap_cons, List.flatMap_nil, List.append_nil, List.append_assoc]
    exact m4
  · have hb : i = l.length := by simp at hb; omega
    subst hb
    rw [List.take_length, Nat.sub_self] at m2
    simpa [zeros] using m2
end Go.Proofs.YtconhonjkfpfmaaDoor
