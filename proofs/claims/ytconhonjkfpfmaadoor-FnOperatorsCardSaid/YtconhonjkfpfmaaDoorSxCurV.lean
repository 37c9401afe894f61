/-
  A part of the abstract machine over the model's Code, or of the proof that what it shows holds of the model; no program is in sight, and nothing is assumed.
-/
import Derived.Test.YtconhonjkfpfmaaDoorSxCur
import Derived.Test.YtconhonjkfpfmaaDoorSxUnion
/-! Entries that a draw makes and appends, with the cursor beside them. -/
namespace Go.Sx
open Go
variable {P : Program} {h0 h : Hp} {K : Value → Hp → Prop} {bag : Bag} {p : Nat} {l : List UInt8}
theorem CurM.two {x1 x2 : Dt × Value} (c : CurM h0 h l p (x1 :: x2 :: bag)) : ∃ y, My h0 h (x1 :: x2 :: y :: bag) ∧ ∀ h' x', My h0 h' (x' ++ y :: bag) → CurM h0 h' l p (x' ++ bag) := by
  obtain ⟨a, c, i, hh, h1, h2, h3⟩ := c
  exact ⟨_, h3.perm (List.perm_middle (l₁ := [x1, x2])).symm, fun h' x' m => ⟨a, c, i, hh, h1, h2, m.perm List.perm_middle⟩⟩
/-- one entry's literal -/
theorem cur_ent {t : Nat} {s : SlT} (hs : slT P t = some s) (hz : s.z = 8) {k : Ky} {w : V} {sl : Value} (c : CurM h0 h l p ((.row 8 (w.items.flatMap edt), sl) :: bag))
    (kk : ∀ v h', CurM h0 h' l p ((.row 8 (edt (k, w)), v) :: bag) → K v h') : HSem P (bsI t 1 #[(0, .agg #[.bool k.text, .int .i64 k.num, .string k.str, .int .i64 w.kind, .int .i64 w.num, .string w.str, .int .i64 w.next, sl])]) h K := by
  obtain ⟨y, m, back⟩ := c.fst
  refine hsem_my_lit (h0 := h0) (es := edt (k, w)) (parts := [(0, .agg #[.bool k.text, .int .i64 k.num, .string k.str, .int .i64 w.kind, .int .i64 w.num, .string w.str, .int .i64 w.next, sl])]) hs (by omega) (by decide) (by omega) rfl rfl (by simp [Value.cells, hz]) (bag := y :: bag) ?_ (by rw [hz]; rfl) (by rw [hz]; exact edt_len _) fun v h' m' => ?_
  · simp only [edt_eq, flat, List.flatMap_cons, List.flatMap_nil, List.append_nil, cells_agg, List.zip_cons_cons, List.zip_nil_right, List.cons_append, List.nil_append, My.raw_iff, one_bool, one_int, one_str, and_self, true_and]
    exact m
  · rw [hz] at m'
    exact kk v h' (back h' [_] m')
/-- .. and its append -/
theorem cur_push {t ty : Nat} {s : SlT} (hs : slT P t = some s) (hz : s.z = 8) (hzl : s.zero.length = 8) (hby : s.by_ ≤ 1000) {es : List (Ky × V)} {e : Ky × V} {v x : Value} (c : CurM h0 h l p ((.row 8 (edt e), x) :: (.row 8 (es.flatMap edt), v) :: bag)) (hlen : es.length ≤ 100000)
    (kk : ∀ (a : Option Addr) (c : Nat) (h' : Hp), CurM h0 h' l p ((.row 8 ((es ++ [e]).flatMap edt), .slice a (es ++ [e]).length c) :: bag) → K (.slice a (es ++ [e]).length c) h') : HSem P (apI #[t, t] ty #[v, x]) h K := by
  obtain ⟨y, m, back⟩ := c.two
  have m : My h0 h ((.row 8 (es.flatMap edt), v) :: (.row 8 (edt e), x) :: y :: bag) := m.swap
  rw [← hz] at m
  have hb : (es.length + 1) * s.by_ ≤ 100001 * 1000 := Nat.mul_le_mul (by omega) hby
  refine hsem_my_append hs (by omega) (by rw [hzl, hz]) es.length 1 m (by rw [hz]; exact fm_len edt_len _) (by rw [hz]; exact edt_len _) (by omega) (by omega) fun v' h' m' => ?_
  have e5 : es.flatMap edt ++ edt e = (es ++ [e]).flatMap edt := by rw [List.flatMap_append, List.flatMap_cons, List.flatMap_nil, List.append_nil]
  rw [e5, hz] at m'
  obtain ⟨a, c, rfl, _⟩ := m'.row_shape (by decide) (es ++ [e]).length (fm_len edt_len _)
  exact kk a c h' (back h' [_] m')
theorem bulks_snoc (es : List (Ky × V)) (k : Ky) (v : V) : V.bulks (es ++ [(k, v)]) = V.bulks es + (1 + (k.str.size + v.bulk)) := by
  rw [bulks_append]
  simp only [V.bulks]
  omega
theorem oks_snoc : ∀ {es : List (Ky × V)} {k : Ky} {v : V}, V.oks es → k.ok → v.ok → V.oks (es ++ [(k, v)])
  | [], k, v, _, hk, hv => by
    simp only [List.nil_append, V.oks, and_true]
    exact ⟨hk.1, hk.2, hv⟩
  | (a, b) :: r, k, v, h, hk, hv => by
    simp only [V.oks, List.cons_append] at h ⊢
    exact ⟨h.1, h.2.1, h.2.2.1, oks_snoc h.2.2.2 hk hv⟩
theorem V.ok_mk {k n x : Int} {s : ByteArray} {es : List (Ky × V)} (hk : IntKind.i64.min ≤ k ∧ k ≤ IntKind.i64.max) (hn : IntKind.i64.min ≤ n ∧ n ≤ IntKind.i64.max) (hs : s.size ≤ 1000000) (hx : IntKind.i64.min ≤ x ∧ x ≤ IntKind.i64.max) (hl : es.length ≤ 1000000) (ho : V.oks es) : (V.mk k n s x es).ok := by
  simp only [V.ok]
  exact ⟨hk, hn, by unfold maxLen; omega, hx, by unfold maxLen; omega, ho⟩
theorem oks_of : ∀ {es : List (Ky × V)}, (∀ e ∈ es, e.1.ok ∧ e.2.ok) → V.oks es
  | [], _ => by simp only [V.oks]
  | (k, v) :: r, h => by
    simp only [V.oks]
    exact ⟨(h _ (List.mem_cons_self ..)).1.1, (h _ (List.mem_cons_self ..)).1.2, (h _ (List.mem_cons_self ..)).2, oks_of fun e he => h e (List.mem_cons_of_mem _ he)⟩
/-- an entry gets another value -/
def setE (es : List (Ky × V)) (i : Nat) (e : Ky × V) (w : V) : List (Ky × V) := es.take i ++ (e.1, w) :: es.drop (i + 1)
theorem setE_len {es : List (Ky × V)} {i : Nat} {e : Ky × V} {w : V} (he : es[i]? = some e) : (setE es i e w).length = es.length := by
  have := (List.getElem?_eq_some_iff.1 he).1
  unfold setE
  rw [List.length_append, List.length_cons, List.length_take, List.length_drop]
  omega
theorem setE_oks {es : List (Ky × V)} {i : Nat} {e : Ky × V} {w : V} (he : es[i]? = some e) (ho : V.oks es) (hw : w.ok) : V.oks (setE es i e w) := by
  refine oks_of fun x hx => ?_
  unfold setE at hx
  rcases List.mem_append.1 hx with h | h
  · exact V.oks_mem ho (List.mem_of_mem_take h)
  · rcases List.mem_cons.1 h with rfl | h
    · exact ⟨(V.oks_mem ho (List.mem_of_getElem? he)).1, hw⟩
    · exact V.oks_mem ho (List.mem_of_mem_drop h)
theorem setE_bulks {es : List (Ky × V)} {i : Nat} {e : Ky × V} {w : V} (he : es[i]? = some e) : V.bulks (setE es i e w) ≤ V.bulks es + w.bulk := by
  have h1 : es = es.take i ++ e :: es.drop (i + 1) := by rw [← drop_cons he, List.take_append_drop]
  have h2 : V.bulks es = V.bulks (es.take i) + V.bulks (e :: es.drop (i + 1)) := by rw [← bulks_append, ← h1]
  unfold setE
  rw [bulks_append, h2]
  obtain ⟨k, v⟩ := e
  simp only [V.bulks]
  omega
/-- a value in a box becomes a variable that is seen -/
theorem cur_val {w : V} {sl : Value} (c : CurM h0 h l p ((.row 8 (w.items.flatMap edt), sl) :: bag)) {b : Nat} (hb : h b = none) (T : Nat) :
    CurM h0 (hset h b (.cells [.int .i64 w.kind, .int .i64 w.num, .string w.str, .int .i64 w.next, sl].toArray T (0, 0))) l p ((.ptr [] w.dt [], .pointer (some ⟨b, 0, none⟩)) :: bag) := by
  obtain ⟨y, m, back⟩ := c.fst
  have mz : My h0 h (w.dt.zip [.int .i64 w.kind, .int .i64 w.num, .string w.str, .int .i64 w.next, sl] ++ (y :: bag)) := by
    rw [V.dt_eq]
    simp only [List.zip_cons_cons, List.zip_nil_right, List.cons_append, List.nil_append, My.raw_iff, one_int, one_str, and_self, true_and]
    exact m
  exact back _ [_] (my_var (e := T) mz hb (V.dt_len w))
end Go.Sx
