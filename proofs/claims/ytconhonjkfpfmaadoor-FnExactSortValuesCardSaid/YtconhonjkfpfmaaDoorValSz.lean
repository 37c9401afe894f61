/-
  What the laws' size functions over keys, entries and values return: what is left of a bound; below it: -1.
-/
import Derived.Test.YtconhonjkfpfmaaDoorFacts
import Derived.Test.YtconhonjkfpfmaaDoorSxLaw
import Derived.Test.YtconhonjkfpfmaaDoorSxDataT
namespace Go.Proofs.YtconhonjkfpfmaaDoor
set_option maxRecDepth 8000
open Go Go.Sx
theorem szKey_c (k : Ky) (hk : k.ok) (l : Int) (h0 : 0 ≤ l) (h1 : l ≤ 1048576) (h : Hp) : ACalls Tryd.prog 126 #[.agg #[.bool k.text, .int .i64 k.num, .string k.str], .int .i64 l] h (Pu (.int .i64 (less l k.str.size)) h) := by
  (refine enter Tryd.func126 rfl rfl (by kernel_rfl) [] ?_; simp only [go_sem, Nat.reduceBEq])
  simp only [less_wrap h0 h1 hk.2, go_sem]
  refine Br.intro (fun hb => ?_) (fun hb => ?_) <;> (try simp only [hb, go_sem, Nat.reduceBEq])
  · have hb : l - (k.str.size : Int) < 0 := by simpa using hb
    exact ⟨by unfold less; rw [if_neg (by omega)], rfl⟩
  · have hb : ¬ l - (k.str.size : Int) < 0 := by simpa using hb
    exact ⟨by unfold less; rw [if_pos (by omega)], rfl⟩
def SzV (v : V) : Prop := v.ok → ∀ (sl : Value) (l : Int) (h : Hp), RdE h v.items sl → 0 ≤ l → l ≤ 1048576 →
  ACalls Tryd.prog 64 #[.agg #[.int .i64 v.kind, .int .i64 v.num, .string v.str, .int .i64 v.next, sl], .int .i64 l] h (Pu (.int .i64 (less l v.bulk)) h)
theorem szEntry_c (e : Ky × V) (ih : SzV e.2) (h1 : e.1.ok) (h2 : e.2.ok) (sl : Value) (l : Int) (h : Hp) (rd : RdE h e.2.items sl) (l0 : 0 ≤ l) (l1 : l ≤ 1048576) :
    ACalls Tryd.prog 113 #[.agg #[.bool e.1.text, .int .i64 e.1.num, .string e.1.str, .int .i64 e.2.kind, .int .i64 e.2.num, .string e.2.str, .int .i64 e.2.next, sl], .int .i64 l] h (Pu (.int .i64 (less l (e.1.str.size + e.2.bulk))) h) := by
  (refine enter Tryd.func113 rfl rfl (by kernel_rfl) [] ?_; simp only [go_sem, Nat.reduceBEq, Nat.reduceAdd, Nat.reduceLeDiff])
  (refine (szKey_c _ h1 _ l0 l1 _).mono ?_; rintro _ _ ⟨rfl, rfl⟩; simp only [go_sem, Nat.reduceBEq])
  refine Br.intro (fun hb => ?_) (fun hb => ?_) <;> (try simp only [hb, go_sem, Nat.reduceBEq, Nat.reduceAdd, Nat.reduceLeDiff])
  · have hb : less l e.1.str.size < 0 := by simpa using hb
    exact ⟨by rw [less_neg hb], rfl⟩
  · have hb : 0 ≤ less l e.1.str.size := by simpa using hb
    (refine (ih h2 _ _ _ rd hb (less_le l1)).mono ?_; rintro _ _ ⟨rfl, rfl⟩; simp only [go_sem, Nat.reduceBEq])
    rw [less_add hb]
    refine Br.intro (fun hc => ?_) (fun hc => ?_) <;> (try simp only [hc, go_sem, Nat.reduceBEq])
    · have hc : less l (e.1.str.size + e.2.bulk) < 0 := by simpa using hc
      exact ⟨by rw [less_is hc], rfl⟩
    · exact ⟨rfl, rfl⟩
def wsum (es : List (Ky × V)) : Nat := (es.map fun e => e.1.str.size + e.2.bulk).sum
theorem wsum_snoc {es : List (Ky × V)} {i : Nat} {e : Ky × V} (hi : es[i]? = some e) : wsum (es.take (i + 1)) = wsum (es.take i) + (e.1.str.size + e.2.bulk) := by
  rw [List.take_add_one, hi]; simp [wsum]
theorem wsum_split (es : List (Ky × V)) (k : Nat) : wsum es = wsum (es.take k) + wsum (es.drop k) := by
  unfold wsum; rw [← List.sum_append, ← List.map_append, List.take_append_drop]
theorem bulks_eq : ∀ es : List (Ky × V), V.bulks es = es.length + wsum es
  | [] => rfl
  | (k, v) :: r => by simp only [V.bulks, bulks_eq r, wsum, List.length_cons, List.map_cons, List.sum_cons]; omega
theorem szEntryS_c (es : List (Ky × V)) (ih : ∀ e ∈ es, SzV e.2) (ok : V.oks es) (hl : es.length ≤ maxLen) (sl : Value) (l : Int) (h : Hp) (rd : RdE h es sl) (l0 : 0 ≤ l) (l1 : l ≤ 1048576) :
    ACalls Tryd.prog 93 #[sl, .int .i64 l] h (Pu (.int .i64 (less l (V.bulks es))) h) := by
  obtain ⟨a, c, xs, rfl, hc, hr, hat⟩ := rd.rows (by decide) es.length (fm_len edt_len es)
  (refine enter Tryd.func93 rfl rfl (by kernel_rfl) [] ?_; simp only [go_sem, Nat.reduceBEq])
  simp only [less_wrap l0 l1 hl, go_sem]
  refine Br.intro (fun hb => ?_) (fun hb => ?_) <;> (try simp only [hb, go_sem, Nat.reduceBEq])
  · have hb : l - (es.length : Int) < 0 := by simpa using hb
    exact ⟨by rw [bulks_eq, less_neg (by unfold less; split <;> omega)], rfl⟩
  · have hb : ¬ l - (es.length : Int) < 0 := by simpa using hb
    have e0 : l - (es.length : Int) = less l (es.length + wsum (es.take 0)) := by unfold less; simp [wsum]; omega
    rw [e0]
    refine aloop (ι := Nat) (fun i => [(5, .val (.int .i64 (i : Nat))), (1, .val (.int .i64 (less l (es.length + wsum (es.take i))))), (0, .val (.slice a es.length c))]) (fun _ => []) (fun i h' => i ≤ es.length ∧ 0 ≤ less l (es.length + wsum (es.take i)) ∧ h = h') (fun i => es.length - i) 0
      ⟨Nat.zero_le _, by rw [← e0]; omega, rfl⟩ (by repeat (first | exact wkF_e | refine wkF_c rfl ?_)) wkB_e rfl ?_
    intro i h1 hx
    have hx : i ≤ es.length ∧ 0 ≤ less l (es.length + wsum (es.take i)) ∧ h = h1 := hx
    have hi := hx.1
    have hf := hx.2.1
    have he := hx.2.2
    clear hx
    subst he
    simp only [go_sem, Nat.reduceBEq]
    refine Br.intro (fun hb => ?_) (fun hb => ?_) <;> (try simp only [hb, go_sem, Nat.reduceBEq])
    · have hb : i < es.length := by simpa using hb
      obtain ⟨b, off, rfl, hat'⟩ := hat (by omega)
      obtain ⟨e, he, hm⟩ := get_lt hb
      have hok := V.oks_mem ok hm
      simp only [ix_nat hb, go_sem, Nat.reduceBEq]
      refine hsem_entry tyS115 hat' hr he rfl fun sl' rd' => ?_
      simp only [go_sem, Nat.reduceBEq]
      (refine (szEntry_c e (ih e hm) hok.1 hok.2 sl' _ _ rd' hf (less_le l1)).mono ?_; rintro _ _ ⟨rfl, rfl⟩; simp only [go_sem, Nat.reduceBEq])
      rw [less_add hf, Nat.add_assoc, ← wsum_snoc he]
      refine Br.intro (fun hc => ?_) (fun hc => ?_) <;> (try simp only [hc, go_sem, Nat.reduceBEq])
      · have hc : less l (es.length + wsum (es.take (i + 1))) < 0 := by simpa using hc
        refine ⟨?_, rfl⟩
        rw [bulks_eq, wsum_split es (i + 1), ← Nat.add_assoc, less_neg hc]
      · have hc : 0 ≤ less l (es.length + wsum (es.take (i + 1))) := by simpa using hc
        rw [wrap_succ (i := i) (by unfold maxLen at hl; omega)]
        exact Again.intro (i + 1) (by first | omega | (simp only; omega)) ⟨hb, hc, rfl⟩ (by repeat (first | exact wkF_e | refine wkF_c rfl ?_)) wkB_e rfl
    · have hb : i = es.length := by simp at hb; omega
      subst hb
      refine ⟨?_, rfl⟩
      rw [List.take_length, bulks_eq]
theorem szValue_c : ∀ v, SzV v := V.ind fun v ih ok sl l h rd l0 l1 => by
  (refine enter Tryd.func64 rfl rfl (by kernel_rfl) [] ?_; simp only [go_sem, Nat.reduceBEq])
  simp only [less_wrap l0 l1 (V.ok_str ok), go_sem]
  refine Br.intro (fun hb => ?_) (fun hb => ?_) <;> (try simp only [hb, go_sem, Nat.reduceBEq])
  · have hb : l - (v.str.size : Int) < 0 := by simpa using hb
    exact ⟨by rw [V.bulk_eq, less_neg (by unfold less; split <;> omega)], rfl⟩
  · have hb : ¬ l - (v.str.size : Int) < 0 := by simpa using hb
    have e0 : l - (v.str.size : Int) = less l v.str.size := by unfold less; split <;> omega
    rw [e0]
    (refine (szEntryS_c v.items ih (V.ok_items ok) (V.ok_len ok) sl _ _ rd (by omega) (less_le l1)).mono ?_; rintro _ _ ⟨rfl, rfl⟩; simp only [go_sem, Nat.reduceBEq])
    rw [less_add (by omega), ← V.bulk_eq]
    refine Br.intro (fun hc => ?_) (fun hc => ?_) <;> (try simp only [hc, go_sem, Nat.reduceBEq])
    · have hc : less l v.bulk < 0 := by simpa using hc
      exact ⟨by rw [less_is hc], rfl⟩
    · exact ⟨rfl, rfl⟩
end Go.Proofs.YtconhonjkfpfmaaDoor
