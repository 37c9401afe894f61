/-
  A part of the abstract machine over the model's Code, or of the proof that what it shows holds of the model; no program is in sight, and nothing is assumed.
-/
import Derived.Test.YtpfongmnmcmnaaaDoorSxCut
import Derived.Lib.AppendStr
/-! 'append(v, s...)' with s a string, onto a slice of bytes of the walk's own. -/
namespace Go.Sx
open Go
theorem bcells_str (s : ByteArray) : Lib.strCells s = bcells s.data.toList := rfl
section
variable {P : Program} {h : Hp} {K : Value → Hp → Prop}
theorem hsem_append_str {t u ty e : Nat} (hs : slT P t = some ⟨e, 1, 1, [.int .u8 0]⟩) (hu0 : isStr P u = true) {v : Value} {st : ByteArray} {n : Nat} {xs : List Value} {B : List Nat} (ow : OwS h 1 v xs B) (hn : xs.length = n)
    (hb : n + st.size ≤ 140737488355328)
    (k : ∀ v' h' B', OwS h' 1 v' (xs ++ bcells st.data.toList) B' → But h h' B → (∀ b ∈ B', b ∈ B ∨ h b = none) → K v' h') : HSem P (apI #[t, u] ty #[v, .string st]) h K := by
  have hu := isStr_some hu0
  obtain ⟨i, zv, h1, h2, h3, h4, h5, h6⟩ := slT_some hs
  simp only at h1 h2 h3 h4 h5 h6
  have hzs : zv.cells.size = 1 := by rw [show (1 : Nat) = [Value.int .u8 0].length from rfl, ← h6]; simp
  have h1' : oneCells (bcells st.data.toList) = true := by
    simp only [bcells]
    generalize st.data.toList = l
    induction l with
    | nil => rfl
    | cons b r ih => simp [oneCells, oneCell, ih]
  rw [← bcells_str] at *
  have hl : (Lib.strCells st).length = st.size := Lib.strCells_length st
  have big : ∀ (k : Nat), k ≤ 140737488355328 → ¬ ((9223372036854775807 : Int) < (k : Int)) := by intro k hk; omega
  have row : ∀ (w : World) (old : Nat), old < n + st.size →
      OwS (hset h w.heap.size (.cells (xs.toArray ++ (Lib.strCells st).toArray ++ Builtin.zeroCells zv.cells (grownCap w (n + st.size) old e - (n + st.size))) e (0, 0))) 1 (.slice (some ⟨w.heap.size, 0, none⟩) (n + st.size) (grownCap w (n + st.size) old e)) (xs ++ Lib.strCells st) [w.heap.size] := by
    intro w old ho
    have hge := grownCap_ge w (n + st.size) old e
    have hcm : grownCap w (n + st.size) old e ≤ maxLen := grownCap_le_maxLen w (n + st.size) old e (by simp only [maxLen]; omega)
    have hlen : (xs ++ Lib.strCells st).length = (n + st.size) * 1 := by rw [List.length_append, hn, hl, Nat.mul_one]
    refine .row (hset_same _ _ _) hge hcm ?_ hlen ?_ ?_
    · simp only [Array.size_append, List.size_toArray, size_zeroCells, hzs, hn, hl]
      omega
    · simp only [Array.toList_append, List.append_assoc]
      rw [← List.append_assoc, ← hlen]
      exact List.take_left
    · rw [oneCells_append, h1', ow.rd.one]; rfl
  cases ow with
  | nil =>
    rename_i a0
    have hn0 : n = 0 := by simpa using hn.symm
    subst hn0
    have hold : ∀ w : World, (Builtin.firstCells 1 0 (.slice a0 0 0)).run P w = .ok #[] w := fun w => by
      cases a0 with
      | none => exact run_firstCells_none w _ 0 0 0
      | some ad => exact run_firstCells_some w _ 0 ad 0 0 [] (by simp) (by simp)
    by_cases hm : st.size = 0
    · have hnil : Lib.strCells st = [] := List.eq_nil_of_length_eq_zero (by omega)
      have hf : ∀ w : World, (Builtin.firstCells 1 0 (.string st)).run P w = .ok #[] w := fun w => by
        have := Lib.run_firstCells_string (P := P) w 1 st
        rw [hm, hnil] at this
        exact this
      rw [hnil] at k
      refine hsem_pure (v := .slice a0 0 0) (fun w hw => ?_) (k _ _ [] .nil (But.refl _ _) (by simp))
      cases a0 <;> simp [apI, Builtin.append_, run_underlying h1, run_underlying hu, sizeOf, typeInfo, h2, h4, Builtin.lenOf, hm, hf, storeCells]
    · refine hsem_new (fun v b o => ∃ B', OwS (hset h b o) 1 v (Lib.strCells st) B' ∧ B' = [b]) (fun w hw => ?_) (fun v b o hb ⟨B', ho, hB⟩ => k v _ B' (by simpa using ho) (but_set _ (.inr hb)) (by subst hB; simp [hb]))
      have hf := Lib.run_firstCells_string (P := P) w.drew 1 st
      have h63' := big st.size (by omega)
      have h48' : ¬ (281474976710656 < Builtin.nextslicecap st.size 0) := by rw [nextslicecap_zero (by omega)]; omega
      have hr := row w 0 (by omega)
      simp only [Nat.zero_add, List.nil_append, Array.empty_append] at hr
      refine ⟨_, _, w.drew.alloc (.cells ((Lib.strCells st).toArray ++ Builtin.zeroCells zv.cells (grownCap w st.size 0 e - st.size)) e), ?_, rfl, rfl, rfl, rfl, _, hr, rfl⟩
      simp [apI, Builtin.append_, run_underlying h1, run_underlying hu, sizeOf, typeInfo, zeroValue, h2, h3, h4, h5, Builtin.lenOf, hm, h63', h48', Question.forced, hold, hf, newRow, grownCap]
  | row hb0 hnc hm0 hz hl0 ht0 h10 =>
    rename_i b n' cap cur e'
    have hnn : n' = n := by omega
    subst hnn
    by_cases hroom : n' + st.size ≤ cap
    · have hfit : n' * 1 + (Lib.strCells st).length ≤ cur.size := by omega
      refine hsem_set (v := .slice (some ⟨b, 0, none⟩) (n' + st.size) cap) (o' := .cells (splice cur.toList (n' * 1) (Lib.strCells st)).toArray e' (0, 0)) hb0 (fun w hw => ?_) ?_
      · obtain ⟨w', e0, e1, e2, e3, e4, e5, e6⟩ := storeCells_run (P := P) (Lib.strCells st) b (n' * 1) 0 cur e' w (hw.vis _ _ hb0) (by omega) h1'
        refine ⟨w', ?_, by simpa using e1, e2, e3, e4, e5, e6⟩
        have hf := Lib.run_firstCells_string (P := P) w 1 st
        simp only [Nat.mul_one] at e0
        simp [apI, Builtin.append_, run_underlying h1, run_underlying hu, sizeOf, typeInfo, h2, h4, Builtin.lenOf, hroom, hf, Addr.add_lit, e0]
      · refine k _ _ [b] (.row (hset_same _ _ _) hroom hm0 ?_ (by rw [List.length_append, hl0, hl]; omega) ?_ (by rw [oneCells_append, h1', h10]; rfl)) (but_set _ (.inl (by simp))) (by simp)
        · simp only [splice, List.size_toArray, List.length_append, List.length_take, List.length_drop, Array.length_toList]; omega
        · have hlen : (xs ++ Lib.strCells st).length = (n' + st.size) * 1 := by rw [List.length_append, hl0, hl]; omega
          simp only [splice, ht0]
          rw [← hlen]
          exact List.take_left
    · refine hsem_new (fun v b o => ∃ B', OwS (hset h b o) 1 v (xs ++ Lib.strCells st) B' ∧ B' = [b]) (fun w hw => ?_) (fun v b o hb ⟨B', ho, hB⟩ => k v _ B' ho (but_set _ (.inr hb)) (by subst hB; simp [hb]))
      have hw' : Sim h w.drew := ⟨hw.vis⟩
      have hf := Lib.run_firstCells_string (P := P) w.drew 1 st
      have hfo := run_firstCells_some (P := P) w.drew 1 n' ⟨b, 0, none⟩ n' cap xs hl0 (at_cells hw' ⟨_, _, _, hb0, rfl, fun j u hj => by simpa using take_get ht0 hj⟩)
      have h63' : ¬ ((9223372036854775807 : Int) < ((n' : Int) + (st.size : Int))) := by omega
      have h48' : ¬ (281474976710656 < Builtin.nextslicecap (n' + st.size) cap) := by have := growslice_fits (old := cap) (need := n' + st.size) (bytes := 1) (by omega) (by omega); omega
      refine ⟨_, _, w.drew.alloc (.cells (xs.toArray ++ (Lib.strCells st).toArray ++ Builtin.zeroCells zv.cells (grownCap w (n' + st.size) cap e - (n' + st.size))) e), ?_, rfl, rfl, rfl, rfl, _, row w cap (by omega), rfl⟩
      simp [apI, Builtin.append_, run_underlying h1, run_underlying hu, sizeOf, typeInfo, zeroValue, h2, h3, h4, h5, Builtin.lenOf, hroom, h63', h48', Question.forced, hf, hfo, newRow, grownCap]
      congr 2
      apply Array.ext'
      simp [List.append_assoc]
theorem bytes_append_str {h0 : Hp} {t u ty e : Nat} (hs : slT P t = some ⟨e, 1, 1, [.int .u8 0]⟩) (hu : isStr P u = true) {v : Value} {l : List UInt8} {st : ByteArray} (mi : Mine h0 h 1 v (bcells l)) (hb : l.length + st.size ≤ 140737488355328)
    (k : ∀ v' h', Mine h0 h' 1 v' (bcells (l ++ st.data.toList)) → K v' h') : HSem P (apI #[t, u] ty #[v, .string st]) h K := by
  obtain ⟨⟨B, h1, h2⟩, h3⟩ := mi
  refine hsem_append_str hs hu h1 (n := l.length) (by simp [bcells]) hb fun v' h' B' ho hbut hB => k v' h' ⟨⟨B', by rw [bcells_append]; exact ho, fun b hb => ?_⟩, hbut.ext h3 h2⟩
  rcases hB b hb with h | h
  · exact h2 b h
  · exact none_of_ext h3 h
/-- The load of an entry that is read in an older heap. -/
theorem hsem_entry0 {h0 : Hp} {t b off i j : Nat} {es : List (Ky × V)} {e : Ky × V} {xs : List Value} (ht : tyS P t = some (true, 8)) (hat : At h ⟨b, off, none⟩ xs) (hr : RdL h0 (es.flatMap edt) xs) (hi : es[i]? = some e) (hj : j = off + i * 8)
    (k : ∀ sl, RdE h0 e.2.items sl → K (.agg #[.bool e.1.text, .int .i64 e.1.num, .string e.1.str, .int .i64 e.2.kind, .int .i64 e.2.num, .string e.2.str, .int .i64 e.2.next, sl]) h) : HPure P (ldI t (.pointer (some ⟨b, j, none⟩))) h K := by
  have h1 := (hr.drop (i * 8)).take 8
  have e1 := fm_take (f := edt) edt_len hi 0 8 (Nat.le_refl _)
  rw [Nat.add_zero, List.drop_zero, List.take_of_length_le (l := edt e) (by rw [edt_len]; exact Nat.le_refl _)] at e1
  rw [e1] at h1
  obtain ⟨sl, hx, hs⟩ := RdL_entry h1
  have hk := k sl hs
  refine hsem_atN ht hat (by rw [hx]; rfl) rfl hj ?_
  rw [hx]
  exact hk
end
end Go.Sx
