/-
  A part of the abstract machine over the model's Code, or of the proof that what it shows holds of the model; no program is in sight, and nothing is assumed.
-/
import Derived.Test.YtconhonjkfpfmaaDoorSxLaw
import Derived.Test.YtconhonjkfpfmaaDoorSxDataT
import Derived.Deep.Slices
import Derived.Deep.Strs
/-! What can be read as data reads as data of the abstract machine. -/
namespace Go.Sx
open Go Go.ChangeShapes Go.WideShapes Go.RowKit Go.ChangeMaps
section
variable {H : Type} {enc : TypeId × Value → H} {P : Program} {w : World} {base : Nat} {sp : Nat → Bool} {held : Bool}
theorem mapM_all {α β : Type} {g : α → Option β} : ∀ (l : List α) (r : List β), l.mapM g = some r → r.length = l.length ∧ ∀ (i : Nat) (a : α), l[i]? = some a → g a = r[i]?
  | [], r, h => by
    simp at h
    subst h
    simp
  | a :: l, r, h => by
    simp only [List.mapM_cons, Option.bind_eq_bind, Option.bind_eq_some_iff, Option.pure_def, Option.some.injEq] at h
    obtain ⟨b, hb, r', hr, rfl⟩ := h
    obtain ⟨h1, h2⟩ := mapM_all l r' hr
    refine ⟨by simp [h1], fun i x hx => ?_⟩
    cases i with
    | zero => simp at hx; subst hx; simpa using hb
    | succ i => simpa using h2 i x (by simpa using hx)
theorem cells_at {a : Addr} {n : Nat} {cs : List Value} (h : w.cells? base a n = some cs) : cs.length = n ∧ ∀ i, i < n → w.cell? (a.add i) = cs[i]? := by
  unfold World.cells? at h
  split at h
  · obtain ⟨h1, h2⟩ := mapM_all _ _ h
    refine ⟨by simpa using h1, fun i hi => ?_⟩
    exact h2 i i (by simp [hi])
  · simp at h
theorem cell_vis {a : Addr} {v : Value} (h : w.cell? a = some v) : ∃ c e f, vis w a.block = some (.cells c e f) ∧ a.spot = none ∧ c[a.off]? = some v := by
  unfold World.cell? at h
  split at h
  · rename_i c e f hb
    split at h
    · simp at h
    · rename_i hs
      exact ⟨c, e, f, hb, by simpa using hs, h⟩
  · simp at h
theorem addr_add_add (a : Addr) (i j : Nat) : (a.add i).add j = a.add (i + j) := by
  unfold Addr.add
  by_cases hi : i = 0 <;> by_cases hj : j = 0 <;> simp [hi, hj, Nat.add_assoc]
/-- A slice whose elements read. -/
theorem open_list {α : Type} {f : α → List Dt} {ok : α → Prop} {z : Nat} {t e fuel : Nat} {cs : List Value} {x : DataW H × List MemPlace} (ht : P.underlying t = some (.slice e)) (hz : P.cellsOf e = z) (_ : 0 < z)
    (el : ∀ n cs x, n < fuel → DataW.trod enc P w base sp held n e cs = some x → ∃ a, ok a ∧ RdL (vis w) (f a) cs) (h : DataW.trod enc P w base sp held fuel t cs = some x) :
    ∃ (l : List α) (v : Value), cs = [v] ∧ (∀ a ∈ l, ok a) ∧ l.length ≤ maxLen ∧ Rd (vis w) (.row z (l.flatMap f)) v := by
  rcases DataW.trod_slice ht h with ⟨rfl, _⟩ | ⟨a, len, cap, elems, rest, n, hfu, rfl, _, hb, hlc, hcm, hlen, hel, _, _⟩
  · exact ⟨[], _, rfl, by simp, Nat.zero_le _, by simp only [List.flatMap_nil, Rd]; exact ⟨[], OwS.nil.rd, by simp only [RdL]⟩⟩
  · rw [hz] at hel
    have step : ∀ k, k ≤ len → ∃ (l : List α) (xs : List Value), l.length = k ∧ (∀ a ∈ l, ok a) ∧ RdL (vis w) (l.flatMap f) xs ∧ xs.length = k * z ∧ ∀ j u, xs[j]? = some u → w.cell? (a.add j) = some u := by
      intro k
      induction k with
      | zero => intro _; exact ⟨[], [], rfl, by simp, by simp only [List.flatMap_nil, RdL], by simp, by simp⟩
      | succ k ih =>
        intro hk
        obtain ⟨l, xs, h1, h2, h3, h4, h5⟩ := ih (by omega)
        have hek := hel k (by omega)
        rw [List.getElem?_eq_getElem (by omega)] at hek
        obtain ⟨cs', hc1, hc2⟩ := Option.bind_eq_some_iff.1 hek
        obtain ⟨b, hok, hrd⟩ := el n cs' _ (by omega) hc2
        obtain ⟨hcl, hcc⟩ := cells_at hc1
        have hcl0 : cs'.length = z := hcl
        clear hcl
        refine ⟨l ++ [b], xs ++ cs', by simp [h1], ?_, ?_, by rw [List.length_append, h4, hcl0, Nat.add_mul, Nat.one_mul], fun j u hj => ?_⟩
        · intro q hq
          rcases List.mem_append.1 hq with hq | hq
          · exact h2 q hq
          · simp at hq; subst hq; exact hok
        · rw [List.flatMap_append, List.flatMap_cons, List.flatMap_nil, List.append_nil]
          exact h3.append hrd
        · by_cases hjx : j < xs.length
          · rw [List.getElem?_append_left hjx] at hj
            exact h5 j u hj
          · rw [List.getElem?_append_right (by omega), h4] at hj
            have hlt : j - k * z < z := by have := (List.getElem?_eq_some_iff.1 hj).1; omega
            have := hcc (j - k * z) hlt
            rw [hj, addr_add_add, show k * z + (j - k * z) = j by omega] at this
            exact this
    obtain ⟨l, xs, h1, h2, h3, h4, h5⟩ := step len (Nat.le_refl _)
    refine ⟨l, _, rfl, h2, by omega, ?_⟩
    simp only [Rd]
    refine ⟨xs, ⟨⟨_, len, cap, rfl, hlc, h4, ?_⟩, h3.one⟩, h3⟩
    by_cases hxs : xs = []
    · exact .inl hxs
    · obtain ⟨v0, hv0⟩ : ∃ v, xs[0]? = some v := by
        cases xs with
        | nil => exact absurd rfl hxs
        | cons v r => exact ⟨v, rfl⟩
      have hc0 := h5 0 v0 hv0
      have ha0 : a.add 0 = a := rfl
      rw [ha0] at hc0
      obtain ⟨c, e', f', k1, k2, k3⟩ := cell_vis hc0
      refine .inr ⟨a, rfl, c, e', f', k1, k2, fun j u hj => ?_⟩
      have := h5 j u hj
      obtain ⟨c2, e2, f2, q1, q2, q3⟩ := cell_vis this
      have hbk : (a.add j).block = a.block := by unfold Addr.add; split <;> rfl
      have hof : (a.add j).off = a.off + j := by unfold Addr.add; split <;> simp_all
      rw [hbk] at q1
      rw [k1] at q1
      cases q1
      rw [hof] at q3
      exact q3
theorem trod_one {t n : Nat} {cs : List Value} {x : DataW H × List MemPlace} {k : IntKind} (ht : P.underlying t = some (.int k)) (h : DataW.trod enc P w base sp held n t cs = some x) : ∃ m, cs = [.int k m] ∧ k.min ≤ m ∧ m ≤ k.max := by
  obtain ⟨m, rfl, _, hw⟩ := DataW.trod_int ht h
  simp only [Lit.wf, Bool.and_eq_true, decide_eq_true_eq] at hw
  exact ⟨m, rfl, hw⟩
theorem trod_bool1 {t n : Nat} {cs : List Value} {x : DataW H × List MemPlace} (ht : P.underlying t = some .bool) (h : DataW.trod enc P w base sp held n t cs = some x) : ∃ b, cs = [.bool b] := by
  cases n with
  | zero => simp [DataW.trod] at h
  | succ n =>
    unfold DataW.trod at h
    rw [ht] at h
    split at h <;> simp_all
/-- A struct's fields. -/
theorem trod_fields {t n : Nat} {fs : Array Field} {cs : List Value} {x : DataW H × List MemPlace} (ht : P.underlying t = some (.struct fs)) (h : DataW.trod enc P w base sp held n t cs = some x) :
    cs.length = P.cellsOf t ∧ ∃ m, m < n ∧ ∀ (i : Nat) (f : Field), fs[i]? = some f → ∃ y, DataW.trod enc P w base sp held m f.type ((cs.drop f.offset).take (P.cellsOf f.type)) = some y := by
  obtain ⟨xs, m, rfl, _, hl, hlen, hf⟩ := DataW.trod_struct ht h
  refine ⟨hl, m, Nat.lt_succ_self _, fun i f hi => ?_⟩
  have := hf i f hi
  have hlt := (Array.getElem?_eq_some_iff.1 hi).1
  rw [List.getElem?_eq_getElem (by omega)] at this
  exact ⟨_, this⟩
end
end Go.Sx
