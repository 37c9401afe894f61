/-
  A part of the abstract machine over the model's Code, or of the proof that what it shows holds of the model; no program is in sight, and nothing is assumed.
-/
import Derived.Test.YtedfplodobpgfaaGreatDoorSxHeapS
import Derived.Test.YtedfplodobpgfaaGreatDoorSxHeapW
import Derived.Test.YtedfplodobpgfaaGreatDoorSxStill
/-! What storing a value needs. -/
namespace Go.Sx
open Go
theorem wfEs_parts : ∀ {es : List (Ky × V)} {x : Int} {seen : List Ky}, wfEs x es seen = true → ∀ e ∈ es, keyOk e.1 = true ∧ e.2.wf = true
  | [], _, _, _, e, he => by cases he
  | u :: r, x, seen, h, e, he => by
    rw [wfEs_cons] at h
    simp only [Bool.and_eq_true] at h
    obtain ⟨h1, _, _, h2, h3⟩ := h
    rcases List.mem_cons.1 he with rfl | he
    · exact ⟨h1, h2⟩
    · exact wfEs_parts h3 e he
theorem wf_mem {v : V} (h : v.wf = true) (k : v.kind = 4) : ∀ e ∈ v.items, keyOk e.1 = true ∧ e.2.wf = true := by
  rw [V.wf_eq] at h
  unfold wf0 at h
  rw [k] at h
  have h := (Bool.and_eq_true _ _ ▸ h : _ ∧ _).2
  simp at h
  exact wfEs_parts h.2.2
theorem valid_mem {v : V} (h : v.valid = true) (k : v.kind = 4) : v.items.length < 200 ∧ ∀ e ∈ v.items, keyOk e.1 = true ∧ e.2.valid = true := by
  unfold V.valid at h
  rw [Bool.and_eq_true] at h
  have hw := of_decide_eq_true h.1
  rw [V.weight_eq, if_pos k] at hw
  have hl := weights_len v.items
  refine ⟨by omega, fun e he => ?_⟩
  obtain ⟨q1, q2⟩ := wf_mem h.2 k e he
  refine ⟨q1, ?_⟩
  have hm := weights_mem he
  unfold V.valid
  rw [q2, Bool.and_true]
  exact decide_eq_true (by omega)
theorem allocH_in {l : List Bk} {t : Tb} (h : freeN l < l.length) : allocH l t = l.set (freeN l) ⟨1, t⟩ := if_pos h
theorem allocH_out {l : List Bk} {t : Tb} (h : freeN l = l.length) : allocH l t = l ++ [⟨1, t⟩] := if_neg (by omega)
theorem app_set (l : List Bk) (u w : Bk) : (l ++ [u]).set l.length w = l ++ [w] := by
  rw [List.set_append_right _ _ (Nat.le_refl _), Nat.sub_self]
  rfl
theorem allocH_cnt {l : List Bk} {t : Tb} (h : ∀ b ∈ l, 0 ≤ b.count) : ∀ b ∈ allocH l t, 0 ≤ b.count := by
  intro b hb
  unfold allocH at hb
  have e : (0 : Int) ≤ (⟨1, t⟩ : Bk).count := by show (0 : Int) ≤ 1; decide
  split at hb
  · rcases List.mem_or_eq_of_mem_set hb with hb | rfl
    · exact h b hb
    · exact e
  · rcases List.mem_append.1 hb with hb | hb
    · exact h b hb
    · rw [List.mem_singleton.1 hb]
      exact e
mutual
theorem sto_cnt : ∀ (v : V) (l : List Bk), (∀ b ∈ l, 0 ≤ b.count) → ∀ b ∈ (sto v l).1, 0 ≤ b.count
  | ⟨k, n, s, x, es⟩, l, h => by
    rw [sto]
    split
    · exact allocH_cnt (stoE_cnt es l tb0 h)
    · exact h
theorem stoE_cnt : ∀ (es : List (Ky × V)) (l : List Bk) (t : Tb), (∀ b ∈ l, 0 ≤ b.count) → ∀ b ∈ (stoE es l t).1, 0 ≤ b.count
  | [], l, t, h => by rw [stoE]; exact h
  | (k, v) :: r, l, t, h => by
    rw [stoE]
    exact stoE_cnt r _ _ (sto_cnt v l h)
end
theorem bulks_at {es : List (Ky × V)} {i : Nat} {e : Ky × V} (he : es[i]? = some e) : V.bulks (es.take i) + e.2.bulk ≤ V.bulks es := by
  have e1 := bulks_append (es.take i) (e :: es.drop (i + 1))
  rw [← at_split he] at e1
  obtain ⟨k, v⟩ := e
  simp only [V.bulks] at e1
  show V.bulks (es.take i) + v.bulk ≤ _
  omega
section
variable {P : Program} {h0 h : Hp} {K : Value → Hp → Prop} {bag : Bag}
/-- an entry whose items are taken out -/
def erw (e : Ky × V) (u : Value) : List Dt := [.raw (.bool e.1.text), .raw (.int .i64 e.1.num), .raw (.string e.1.str), .raw (.int .i64 e.2.kind), .raw (.int .i64 e.2.num), .raw (.string e.2.str), .raw (.int .i64 e.2.next), .raw u]
theorem erw_len (e : Ky × V) (u : Value) : (erw e u).length = 8 := rfl
theorem entry_open {A R : List Dt} {e : Ky × V} {v : Value} (m : My h0 h ((.row 8 (A ++ (edt e ++ R)), v) :: bag)) : ∃ a n, My h0 h ((.row 8 (e.2.items.flatMap edt), .slice a e.2.items.length n) :: (.row 8 (A ++ (erw e (.slice a e.2.items.length n) ++ R)), v) :: bag) := by
  rw [edt_eq] at m
  obtain ⟨u, m1⟩ := m.openAt (A := A) (R := R) (j := 7) rfl
  obtain ⟨a, n, rfl, _⟩ := m1.row_shape (by decide) e.2.items.length (fm_len edt_len _)
  exact ⟨a, n, m1⟩
theorem hsem_erwK {t bb j : Nat} {A R : List Dt} {e : Ky × V} {u : Value} {len cap : Nat} (ht : tyS P t = some (true, 3)) (m : My h0 h ((.row 8 (A ++ (erw e u ++ R)), .slice (some ⟨bb, 0, none⟩) len cap) :: bag)) (h0l : 0 < len) (hj : j = A.length)
    (k : K (.agg #[.bool e.1.text, .int .i64 e.1.num, .string e.1.str]) h) : HPure P (ldI t (.pointer (some ⟨bb, j, none⟩))) h K := by
  obtain ⟨xs, hr, hat⟩ := m.at_
  refine hsem_getN ht (hat h0l) hr (i := j) (ds := e.1.dt) ?_ rfl (by omega) fun ys r => ?_
  · rw [hj, List.drop_left]
    rfl
  · rw [RdL_key r]
    exact k
theorem hsem_erwV {t bb j : Nat} {A R : List Dt} {e : Ky × V} {u : Value} {len cap : Nat} (ht : tyS P t = some (true, 5)) (m : My h0 h ((.row 8 (A ++ (erw e u ++ R)), .slice (some ⟨bb, 0, none⟩) len cap) :: bag)) (h0l : 0 < len) (hj : j = A.length + 3)
    (k : K (.agg #[.int .i64 e.2.kind, .int .i64 e.2.num, .string e.2.str, .int .i64 e.2.next, u]) h) : HPure P (ldI t (.pointer (some ⟨bb, j, none⟩))) h K := by
  obtain ⟨xs, hr, hat⟩ := m.at_
  refine hsem_getN ht (hat h0l) hr (i := j) (ds := ([.int .i64 e.2.kind, .int .i64 e.2.num, .string e.2.str, .int .i64 e.2.next, u] : List Value).map .raw) ?_ rfl (by omega) fun ys r => ?_
  · rw [hj, ← List.drop_drop, List.drop_left]
    rfl
  · rw [r.of_raws]
    exact k
/-- one thing is laid aside: it becomes part of the base -/
theorem My.part {d : Dt} {v : Value} (m : My h0 h ((d, v) :: bag)) : ∃ h', My h0 h' [(d, v)] ∧ My h' h bag := by
  obtain ⟨B1, B2, l1, l2, k2, k3, k4⟩ := My.cons_iff.1 m
  obtain ⟨n1, n2, n3⟩ := List.nodup_append.1 k2
  have k4' : ∀ b o, h0 b = some o → h b = some o := k4
  refine ⟨fun b => if b ∈ B1 then h b else h0 b, My.cons_iff.2 ⟨B1, [], l1.frame fun b hb => by simp only [if_pos hb], by simp [OwL], by simpa using n1, fun b hb => k3 b (by simpa using .inl (by simpa using hb)), fun i o hi => ?_⟩, ⟨B2, l2, n2, fun b hb => ?_⟩, fun i o hi => ?_⟩
  · have hn : i ∉ B1 := fun hb => by
      rw [k3 i (List.mem_append.2 (.inl hb))] at hi
      cases hi
    simp only [if_neg hn]
    exact hi
  · have hn : b ∉ B1 := fun h1 => n3 b h1 b hb rfl
    simp only [if_neg hn]
    exact k3 b (List.mem_append.2 (.inr hb))
  · have hi : (if i ∈ B1 then h i else h0 i) = some o := hi
    split at hi
    · exact hi
    · exact k4' i o hi
/-- a value, and a heap in a variable -/
def HpR (h0 : Hp) (w : V) (l : List Bk) (bp : Nat) (R : Bag) (u : Value) (h' : Hp) : Prop := ∃ b c a n, u = .agg #[.int .i64 w.kind, .int .i64 w.num, .string w.str, .int .i64 w.next, .slice b w.items.length c] ∧ My h0 h' ((.row 8 (w.items.flatMap edt), .slice b w.items.length c) :: HpB l a n bp R)
end
end Go.Sx
