/-
  A part of the abstract machine over the model's Code, or of the proof that what it shows holds of the model; no program is in sight, and nothing is assumed.
-/
import Derived.Test.YtccjkhnefiikaaaGreatDoorSxLoop
import Derived.Laws.AppendOwn
import Derived.ArgAppend
import Derived.Laws.MakeOwn
import Derived.Laws.BytesArg
import Derived.Laws.IdiomStrings
/-! Slices: what is read, what is owned; append, make, copy, the conversions of bytes. -/
namespace Go.Sx
open Go
/-- The cells 'xs' lie at 'a'. -/
def At (h : Hp) (a : Addr) (xs : List Value) : Prop := ∃ cur e f, h a.block = some (.cells cur e f) ∧ a.spot = none ∧ ∀ j u, xs[j]? = some u → cur[a.off + j]? = some u
/-- A slice that reads as these cells, 'z' to an element. -/
structure RdS (h : Hp) (z : Nat) (v : Value) (xs : List Value) : Prop where
  ex : ∃ a n c, v = .slice a n c ∧ n ≤ c ∧ xs.length = n * z ∧ (xs = [] ∨ ∃ ad, a = some ad ∧ At h ad xs)
  one : oneCells xs = true
/-- A slice whose block is its own. -/
inductive OwS (h : Hp) (z : Nat) : Value → List Value → List Nat → Prop
  | nil {a : Option Addr} : OwS h z (.slice a 0 0) [] []
  | row {b n cap : Nat} {cur : Array Value} {e : Nat} {xs : List Value} (hb : h b = some (.cells cur e (0, 0))) (hn : n ≤ cap) (hm : cap ≤ maxLen) (hz : cur.size = cap * z) (hl : xs.length = n * z) (ht : cur.toList.take (n * z) = xs) (h1 : oneCells xs = true) (hp : 0 < n) :
    OwS h z (.slice (some ⟨b, 0, none⟩) n cap) xs [b]

theorem oneCells_append {a b : List Value} : oneCells (a ++ b) = (oneCells a && oneCells b) := by
  induction a with
  | nil => simp [oneCells]
  | cons v r ih => simp [oneCells, ih, Bool.and_assoc]
theorem At.mono {h h' : Hp} (e : Ext h h') {a : Addr} {xs : List Value} (k : At h a xs) : At h' a xs := by
  obtain ⟨cur, t, f, h1, h2, h3⟩ := k
  exact ⟨cur, t, f, e _ _ h1, h2, h3⟩
theorem RdS.mono {h h' : Hp} (e : Ext h h') {z : Nat} {v : Value} {xs : List Value} (k : RdS h z v xs) : RdS h' z v xs := by
  obtain ⟨⟨a, n, c, h1, h2, h3, h4⟩, h5⟩ := k
  refine ⟨⟨a, n, c, h1, h2, h3, ?_⟩, h5⟩
  rcases h4 with h4 | ⟨ad, h6, h7⟩
  · exact .inl h4
  · exact .inr ⟨ad, h6, h7.mono e⟩
theorem take_get {l xs : List Value} {k : Nat} (ht : l.take k = xs) {j : Nat} {u : Value} (hj : xs[j]? = some u) : l[j]? = some u := by
  subst ht
  rw [List.getElem?_take] at hj
  split at hj
  · exact hj
  · cases hj
theorem OwS.rd {h : Hp} {z : Nat} {v : Value} {xs : List Value} {B : List Nat} (k : OwS h z v xs B) : RdS h z v xs := by
  cases k with
  | nil => exact ⟨⟨_, 0, 0, rfl, Nat.le_refl _, by simp, .inl rfl⟩, rfl⟩
  | row hb hn hm hz hl ht h1 hp => exact ⟨⟨_, _, _, rfl, hn, hl, .inr ⟨_, rfl, _, _, _, hb, rfl, fun j u hj => by simpa using take_get ht hj⟩⟩, h1⟩
theorem OwS.frame {h h' : Hp} {z : Nat} {v : Value} {xs : List Value} {B : List Nat} (k : OwS h z v xs B) (hf : ∀ b ∈ B, h' b = h b) : OwS h' z v xs B := by
  cases k with
  | nil => exact .nil
  | row hb hn hm hz hl ht h1 hp => exact .row ((hf _ (by simp)).trans hb) hn hm hz hl ht h1 hp
theorem OwS.there {h : Hp} {z : Nat} {v : Value} {xs : List Value} {B : List Nat} (k : OwS h z v xs B) : ∀ b ∈ B, ∃ o, h b = some o := by
  cases k with
  | nil => simp
  | row hb hn hm hz hl ht h1 hp => intro b hb'; simp at hb'; subst hb'; exact ⟨_, hb⟩

section
variable {P : Program} {h : Hp} {K : Value → Hp → Prop}
/-- A step that makes one new block. -/
theorem hsem_new {s : Sem Value} (Pr : Value → Nat → Obj → Prop)
    (hr : ∀ w, Sim h w → ∃ v o w', s.run P w = .ok v w' ∧ w'.heap = w.heap.push o ∧ w'.os = w.os ∧ w'.tape = w.tape ∧ w'.output = w.output ∧ Pr v w.heap.size o)
    (k : ∀ v b o, h b = none → Pr v b o → K v (hset h b o)) : HSem P s h K := fun w hw => by
  obtain ⟨v, o, w', e, e1, e2, e3, e4, pr⟩ := hr w hw
  refine ⟨v, w', hset h w.heap.size o, e, ⟨fun b ob hb => ?_⟩, ⟨e2, e3, e4, by rw [e1]; simp, fun b hb hn => ?_⟩, k _ _ _ (sim_new hw) pr⟩
  · rw [e1]
    by_cases hbs : b = w.heap.size
    · subst hbs
      rw [hset_same] at hb
      simp at hb
      subst hb
      simp
    · rw [hset_other hbs] at hb
      have := hw.vis b ob hb
      have hl := sim_lt hw hb
      rw [Array.getElem?_push, if_neg (by omega)]
      exact this
  · rw [e1]
    refine ⟨?_, by rw [hset_other (by omega)]; exact hn⟩
    rw [Array.getElem?_push, if_neg (by omega)]
theorem at_cells {w : World} (hw : Sim h w) {a : Addr} {xs : List Value} (k : At h a xs) : ∀ j u, xs[j]? = some u → w.cell? (a.add j) = some u := by
  obtain ⟨cur, e, f, h1, h2, h3⟩ := k
  intro j u hj
  rw [load_cell hw h1 h2]
  exact h3 j u hj
theorem first_run {w : World} (hw : Sim h w) {z n c : Nat} {a : Option Addr} {xs : List Value} (k : RdS h z (.slice a n c) xs) : (Builtin.firstCells z n (.slice a n c)).run P w = .ok xs.toArray w := by
  obtain ⟨⟨a', n', c', h1, h2, h3, h4⟩, h5⟩ := k
  cases h1
  rcases h4 with rfl | ⟨ad, rfl, h7⟩
  · cases a with
    | none => exact run_firstCells_none w z n n c
    | some ad => exact run_firstCells_some w z n ad n c [] (by simpa using h3) (by simp)
  · exact run_firstCells_some w z n ad n c xs h3 (at_cells hw h7)

/-- What lies outside of B is as it was. -/
def But (h h' : Hp) (B : List Nat) : Prop := ∀ b o, h b = some o → b ∉ B → h' b = some o
theorem But.refl (h : Hp) (B : List Nat) : But h h B := fun _ _ hb _ => hb
theorem But.ext {h0 h h' : Hp} {B : List Nat} (e : Ext h0 h) (k : But h h' B) (hf : ∀ b ∈ B, h0 b = none) : Ext h0 h' := fun b o hb => k b o (e b o hb) fun hm => by rw [hf b hm] at hb; cases hb
theorem but_set {b : Nat} {o : Obj} (B : List Nat) (hb : b ∈ B ∨ h b = none) : But h (hset h b o) B := fun i x hi hn => by
  have : i ≠ b := by
    rintro rfl
    rcases hb with hb | hb
    · exact hn hb
    · rw [hb] at hi; cases hi
  rw [hset_other this]; exact hi

theorem hsem_append {t ty : Nat} {s : SlT} (hs : slT P t = some s) (hz0 : 0 < s.z) (hzl : s.zero.length = s.z) {v x : Value} {n m : Nat} {xs news : List Value} {B : List Nat} (ow : OwS h s.z v xs B) (rd : RdS h s.z x news) (hn : xs.length = n * s.z) (hm' : news.length = m * s.z)
    (hb : (n + m) * s.by_ ≤ 140737488355328) (hb2 : n + m ≤ 140737488355328)
    (k : ∀ v' h' B', OwS h' s.z v' (xs ++ news) B' → But h h' B → (∀ b ∈ B', b ∈ B ∨ h b = none) → K v' h') : HSem P (apI #[t, t] ty #[v, x]) h K := by
  obtain ⟨i, zv, h1, h2, h3, h4, h5, h6⟩ := slT_some hs
  have hzs : zv.cells.size = s.z := by rw [← hzl, ← h6]; simp
  have hrd := rd
  obtain ⟨⟨a, m', c, rfl, hmc, hl, hat⟩, hone⟩ := rd
  have hmm : m = m' := by
    rw [hl] at hm'
    exact (Nat.eq_of_mul_eq_mul_right hz0 hm').symm
  subst hmm
  have big : ∀ (k : Nat), k ≤ 140737488355328 → ¬ ((9223372036854775807 : Int) < (k : Int)) := by intro k hk; omega
  have row : ∀ (w : World) (old : Nat), old < n + m →
      OwS (hset h w.heap.size (.cells (xs.toArray ++ news.toArray ++ Builtin.zeroCells zv.cells (grownCap w (n + m) old s.e - (n + m))) s.e (0, 0))) s.z (.slice (some ⟨w.heap.size, 0, none⟩) (n + m) (grownCap w (n + m) old s.e)) (xs ++ news) [w.heap.size] := by
    intro w old ho
    have hge := grownCap_ge w (n + m) old s.e
    have hcm : grownCap w (n + m) old s.e ≤ maxLen := grownCap_le_maxLen w (n + m) old s.e (by simp only [maxLen]; omega)
    have hlen : (xs ++ news).length = (n + m) * s.z := by rw [List.length_append, hn, hl, Nat.add_mul]
    refine .row (hset_same _ _ _) hge hcm ?_ hlen ?_ ?_ (by omega)
    · simp only [Array.size_append, List.size_toArray, size_zeroCells, hzs, hn, hl, ← Nat.add_mul]
      congr 1
      omega
    · simp only [Array.toList_append, List.append_assoc]
      rw [← List.append_assoc, ← hlen]
      exact List.take_left
    · rw [oneCells_append, hone, ow.rd.one]; rfl
  cases ow with
  | nil =>
    rename_i a0
    have hn0 : n = 0 := by
      have : 0 = n * s.z := by simpa using hn
      rcases Nat.mul_eq_zero.1 this.symm with h | h <;> omega
    subst hn0
    have hold : ∀ w : World, (Builtin.firstCells s.z 0 (.slice a0 0 0)).run P w = .ok #[] w := fun w => by
      cases a0 with
      | none => exact run_firstCells_none w _ 0 0 0
      | some ad => exact run_firstCells_some w _ 0 ad 0 0 [] (by simp) (by simp)
    by_cases hm : m = 0
    · subst hm
      have hnil : news = [] := List.eq_nil_of_length_eq_zero (by simpa using hl)
      subst hnil
      refine hsem_pure (v := .slice a0 0 0) (fun w hw => ?_) (k _ _ [] .nil (But.refl _ _) (by simp))
      have hf := first_run (P := P) hw hrd
      cases a0 <;> simp [apI, Builtin.append_, run_underlying h1, sizeOf, typeInfo, h2, h4, Builtin.lenOf, hf, storeCells]
    · refine hsem_new (fun v b o => ∃ B', OwS (hset h b o) s.z v news B' ∧ B' = [b]) (fun w hw => ?_) (fun v b o hb ⟨B', ho, hB⟩ => k v _ B' (by simpa using ho) (but_set _ (.inr hb)) (by subst hB; simp [hb]))
      have hf := first_run (P := P) (w := w.drew) (h := h) ⟨hw.vis⟩ hrd
      have h63' := big m (by omega)
      have h48' : ¬ (281474976710656 < Builtin.nextslicecap m 0 * s.by_) := by rw [nextslicecap_zero (by omega)]; simp at hb; omega
      have hr := row w 0 (by omega)
      simp only [Nat.zero_add, List.nil_append, Array.empty_append] at hr
      refine ⟨_, _, w.drew.alloc (.cells (news.toArray ++ Builtin.zeroCells zv.cells (grownCap w m 0 s.e - m)) s.e), ?_, rfl, rfl, rfl, rfl, _, hr, rfl⟩
      simp [apI, Builtin.append_, run_underlying h1, sizeOf, typeInfo, zeroValue, h2, h3, h4, h5, Builtin.lenOf, hm, h63', h48', Question.forced, hold, hf, newRow, grownCap]
  | row hb0 hnc hm0 hz hl0 ht0 h10 hp0 =>
    rename_i b n' cap cur e
    have hnn : n' = n := by
      rw [hl0] at hn
      exact Nat.eq_of_mul_eq_mul_right hz0 hn
    subst hnn
    by_cases hroom : n' + m ≤ cap
    · have hfit : n' * s.z + news.length ≤ cur.size := by rw [hl, hz, ← Nat.add_mul]; exact Nat.mul_le_mul_right _ hroom
      refine hsem_set (v := .slice (some ⟨b, 0, none⟩) (n' + m) cap) (o' := .cells (splice cur.toList (n' * s.z) news).toArray e (0, 0)) hb0 (fun w hw => ?_) ?_
      · obtain ⟨w', e0, e1, e2, e3, e4, e5, e6⟩ := storeCells_run (P := P) news b (n' * s.z) 0 cur e w (hw.vis _ _ hb0) (by omega) hone
        refine ⟨w', ?_, by simpa using e1, e2, e3, e4, e5, e6⟩
        have hf := first_run (P := P) hw hrd
        simp [apI, Builtin.append_, run_underlying h1, sizeOf, typeInfo, h2, h4, Builtin.lenOf, hroom, hf, Addr.add_lit, e0]
      · refine k _ _ [b] (.row (hset_same _ _ _) hroom hm0 ?_ (by rw [List.length_append, hl0, hl, Nat.add_mul]) ?_ (by rw [oneCells_append, hone, h10]; rfl) (by omega)) (but_set _ (.inl (by simp))) (by simp)
        · simp only [splice, List.size_toArray, List.length_append, List.length_take, List.length_drop, Array.length_toList]; omega
        · have hlen : (xs ++ news).length = (n' + m) * s.z := by rw [List.length_append, hl0, hl, Nat.add_mul]
          simp only [splice, ht0]
          rw [← hlen]
          exact List.take_left
    · refine hsem_new (fun v b o => ∃ B', OwS (hset h b o) s.z v (xs ++ news) B' ∧ B' = [b]) (fun w hw => ?_) (fun v b o hb ⟨B', ho, hB⟩ => k v _ B' ho (but_set _ (.inr hb)) (by subst hB; simp [hb]))
      have hw' : Sim h w.drew := ⟨hw.vis⟩
      have hf := first_run (P := P) hw' hrd
      have hfo := run_firstCells_some (P := P) w.drew s.z n' ⟨b, 0, none⟩ n' cap xs hl0 (at_cells hw' ⟨_, _, _, hb0, rfl, fun j u hj => by simpa using take_get ht0 hj⟩)
      have h63' : ¬ ((9223372036854775807 : Int) < ((n' : Int) + (m : Int))) := by omega
      have h48' : ¬ (281474976710656 < Builtin.nextslicecap (n' + m) cap * s.by_) := by have := growslice_fits (old := cap) (need := n' + m) (by omega) hb; omega
      refine ⟨_, _, w.drew.alloc (.cells (xs.toArray ++ news.toArray ++ Builtin.zeroCells zv.cells (grownCap w (n' + m) cap s.e - (n' + m))) s.e), ?_, rfl, rfl, rfl, rfl, _, row w cap (by omega), rfl⟩
      simp [apI, Builtin.append_, run_underlying h1, sizeOf, typeInfo, zeroValue, h2, h3, h4, h5, Builtin.lenOf, hroom, h63', h48', Question.forced, hf, hfo, newRow, grownCap]
      congr 2
      apply Array.ext'
      simp [List.append_assoc]

/-- A slice of the walk's own since the heap was h0, and nothing of h0 has turned. -/
structure Mine (h0 h : Hp) (z : Nat) (v : Value) (xs : List Value) : Prop where
  ow : ∃ B, OwS h z v xs B ∧ ∀ b ∈ B, h0 b = none
  ext : Ext h0 h
theorem OwS.ext {h' : Hp} {z : Nat} {v : Value} {xs : List Value} {B : List Nat} (k : OwS h z v xs B) (e : Ext h h') : OwS h' z v xs B :=
  k.frame fun b hb => by obtain ⟨o, ho⟩ := k.there b hb; rw [e b o ho, ho]
theorem Mine.mono {h0 h' : Hp} {z : Nat} {v : Value} {xs : List Value} (k : Mine h0 h z v xs) (e : Ext h h') : Mine h0 h' z v xs := by
  obtain ⟨⟨B, h1, h2⟩, h3⟩ := k
  exact ⟨⟨B, h1.ext e, h2⟩, h3.trans e⟩
theorem Mine.rd {h0 : Hp} {z : Nat} {v : Value} {xs : List Value} (k : Mine h0 h z v xs) : RdS h z v xs := by
  obtain ⟨⟨B, h1, h2⟩, h3⟩ := k
  exact h1.rd
theorem Mine.nil {h0 : Hp} {z : Nat} (e : Ext h0 h) : Mine h0 h z (.slice none 0 0) [] := ⟨⟨[], .nil, by simp⟩, e⟩
theorem none_of_ext {h0 : Hp} (e : Ext h0 h) {b : Nat} (hb : h b = none) : h0 b = none := by
  cases hh : h0 b with
  | none => rfl
  | some o => rw [e b o hh] at hb; cases hb
/-- 'append(v, x..)'. -/
theorem mine_append {h0 : Hp} {t ty : Nat} {s : SlT} (hs : slT P t = some s) (hz0 : 0 < s.z) (hzl : s.zero.length = s.z) {v x : Value} (n m : Nat) {xs news : List Value} (mi : Mine h0 h s.z v xs) (rd : RdS h s.z x news) (hn : xs.length = n * s.z) (hm : news.length = m * s.z)
    (hb : (n + m) * s.by_ ≤ 140737488355328) (hb2 : n + m ≤ 140737488355328) (k : ∀ v' h', Mine h0 h' s.z v' (xs ++ news) → K v' h') : HSem P (apI #[t, t] ty #[v, x]) h K := by
  obtain ⟨⟨B, h1, h2⟩, h3⟩ := mi
  refine hsem_append hs hz0 hzl h1 rd hn hm hb hb2 fun v' h' B' ho hbut hB => k v' h' ⟨⟨B', ho, fun b hb => ?_⟩, hbut.ext h3 h2⟩
  rcases hB b hb with h | h
  · exact h2 b h
  · exact none_of_ext h3 h
/-- A slice literal, all elements given; also the array behind 'append(v, a, b)'. -/
theorem mine_lit {t n : Nat} {s : SlT} {parts : List (Nat × Value)} (hs : slT P t = some s) (hz : 0 < s.z) (hn0 : 0 < n) (hn : n * s.z ≤ 16777216) (hlen : parts.length = n) (hi : parts.map (·.1) = List.range n) (hp : ∀ p ∈ parts, p.2.cells.size = s.z)
    (h1 : oneCells (flat parts) = true) (hfl : (flat parts).length = n * s.z) (k : ∀ v h', Mine h h' s.z v (flat parts) → K v h') : HSem P (bsI t n parts.toArray) h K :=
  hsem_buildSlice hs hz hn0 hn hlen hi hp fun b hb => k _ _ ⟨⟨[b], .row (hset_same _ _ _) (Nat.le_refl _) (by
    have := Nat.le_trans (Nat.le_mul_of_pos_right n hz) hn
    simp only [maxLen]; omega) (by simpa using hfl) hfl (by simp [← hfl]) h1 hn0, by simpa using hb⟩, ext_set hb _⟩

/-! ### Bytes and strings -/
theorem sidx_at {s : ByteArray} {i : Nat} {c : UInt8} (hi : s.data.toList[i]? = some c) : sidx s (i : Int) = some (.int .u8 c.toNat) := by simp [sidx, hi]
def bytT (P : Program) (t : Nat) : Bool := match P.underlying t with
  | some (.slice e) => intT P e == some .u8
  | _ => false
theorem bytT_some {t : Nat} (hb : bytT P t = true) : ∃ e, P.underlying t = some (.slice e) ∧ P.underlying e = some (.int .u8) := by
  unfold bytT at hb
  split at hb
  · rename_i e he
    refine ⟨e, he, ?_⟩
    unfold intT at hb
    split at hb
    · rename_i k hk
      simp at hb
      subst hb
      exact hk
    · simp at hb
  · simp at hb
theorem isStr_some {t : Nat} (hb : isStr P t = true) : P.underlying t = some .string := by
  unfold isStr at hb
  split at hb
  · rename_i he; exact he
  · simp at hb
def bcells (l : List UInt8) : List Value := l.map fun b => .int .u8 b.toNat
theorem hsem_bytes_str {s d : Nat} (hs : bytT P s = true) (hd : isStr P d = true) {v : Value} {l : List UInt8} (rd : RdS h 1 v (bcells l)) (k : K (.string ⟨l.toArray⟩) h) : HSem P (cvI s d v) h K := by
  obtain ⟨e, h1, h2⟩ := bytT_some hs
  have h3 := isStr_some hd
  obtain ⟨⟨a, n, c, rfl, _, hl, hat⟩, _⟩ := rd
  have hn : n = l.length := by simpa [bcells] using hl.symm
  subst hn
  refine hsem_pure (fun w hw => ?_) k
  have nil : l = [] → (convert s d (.slice a l.length c)).run P w = .ok (.string ⟨l.toArray⟩) w := by
    rintro rfl
    cases a with
    | none => exact run_convert_bytes_nil w s e h1 h2 _ _ d h3
    | some ad => exact run_convert_bytes_back w s d e ad c [] h1 h2 h3 (by simp)
  rcases hat with hat | ⟨ad, rfl, hat⟩
  · exact nil (by simpa [bcells] using hat)
  · exact run_convert_bytes_back w s d e ad c l h1 h2 h3 (fun j hj => at_cells hw hat j _ (by simp [bcells, hj]))
theorem bcells_append (a b : List UInt8) : bcells (a ++ b) = bcells a ++ bcells b := by simp [bcells]
theorem bytes_append {h0 : Hp} {t ty e : Nat} (hs : slT P t = some ⟨e, 1, 1, [.int .u8 0]⟩) {v x : Value} {l l2 : List UInt8} (mi : Mine h0 h 1 v (bcells l)) (rd : RdS h 1 x (bcells l2)) (hb : l.length + l2.length ≤ 140737488355328)
    (k : ∀ v' h', Mine h0 h' 1 v' (bcells (l ++ l2)) → K v' h') : HSem P (apI #[t, t] ty #[v, x]) h K :=
  mine_append hs (Nat.zero_lt_one) rfl l.length l2.length mi rd (by simp [bcells]) (by simp [bcells]) (by simpa using hb) hb fun v' h' m => k v' h' (by rw [bcells_append]; exact m)
theorem byte_is {c : UInt8} {k : UInt8} (hk : decide ((c.toNat : Int) = (k.toNat : Int)) = true) : c = k := UInt8.toNat_inj.1 (Int.ofNat.inj (of_decide_eq_true hk))
theorem byte_not {c : UInt8} {k : UInt8} (hk : decide ((c.toNat : Int) = (k.toNat : Int)) = false) : c ≠ k := fun h => of_decide_eq_false hk (by rw [h])
theorem size_list (s : ByteArray) : s.size = s.data.toList.length := by rw [Array.length_toList]; rfl
theorem bytes_lit1 {t e : Nat} (hs : slT P t = some ⟨e, 1, 1, [.int .u8 0]⟩) (c : UInt8) (k : ∀ v h', Mine h h' 1 v (bcells [c]) → K v h') : HSem P (bsI t 1 #[(0, .int .u8 c.toNat)]) h K :=
  mine_lit (parts := [(0, .int .u8 c.toNat)]) hs (Nat.zero_lt_one) (Nat.zero_lt_one) (by simp) rfl rfl (by simp [Value.cells]) rfl rfl k
theorem cvK_bytes {s d : Nat} {bx : Bx} {k : AV → Bx → Hp → Prop} (hs : bytT P s = true) (hd : isStr P d = true) {v : Value} {l : List UInt8} (rd : RdS h 1 v (bcells l)) (hk : k (.val (.string ⟨l.toArray⟩)) bx h) : cvK P none s d bx h k v := by
  have := hsem_bytes_str (P := P) (K := HKE none k bx) hs hd rd (by rw [HKE_n]; exact hk)
  obtain ⟨⟨a, n, c, rfl, _⟩, _⟩ := rd
  exact this
/-- A readable slice, opened: its length, its address. -/
theorem RdS.slice {z : Nat} {v : Value} {xs : List Value} (rd : RdS h z v xs) (n : Nat) (hz : 0 < z) (hn : xs.length = n * z) : ∃ a c, v = .slice a n c ∧ n ≤ c ∧ (0 < n → ∃ b off, a = some ⟨b, off, none⟩ ∧ At h ⟨b, off, none⟩ xs) := by
  obtain ⟨⟨a, n', c, rfl, hc, hl, hat⟩, _⟩ := rd
  have hnn : n = n' := by
    rw [hl] at hn
    exact (Nat.eq_of_mul_eq_mul_right hz hn).symm
  subst hnn
  refine ⟨a, c, rfl, hc, fun h0 => ?_⟩
  rcases hat with rfl | ⟨⟨b, off, s⟩, rfl, hat⟩
  · have := Nat.mul_pos h0 hz
    simp at hl
    omega
  · have hs : s = none := by obtain ⟨_, _, _, _, h2, _⟩ := hat; exact h2
    subst hs
    exact ⟨b, off, rfl, hat⟩
theorem hsem_at1 {t n b off j i : Nat} {xs : List Value} {u : Value} (ht : tyS P t = some (false, n)) (hat : At h ⟨b, off, none⟩ xs) (hi : xs[i]? = some u) (hj : j = off + i) (k : K u h) : HPure P (ldI t (.pointer (some ⟨b, j, none⟩))) h K := by
  obtain ⟨cur, e, f, h1, h2, h3⟩ := hat
  exact hsem_load1 ht h1 rfl (by subst hj; exact h3 _ _ hi) k
theorem hsem_atN {t n b off j i : Nat} {xs us : List Value} (ht : tyS P t = some (true, n)) (hat : At h ⟨b, off, none⟩ xs) (hn : us.length = n) (hi : (xs.drop i).take n = us) (hj : j = off + i) (k : K (.agg us.toArray) h) : HPure P (ldI t (.pointer (some ⟨b, j, none⟩))) h K := by
  obtain ⟨cur, e, f, h1, h2, h3⟩ := hat
  refine hsem_loadN ht h1 rfl hn (fun q v hq => ?_) k
  subst hj
  have := take_get hi hq
  rw [List.getElem?_drop] at this
  have := h3 _ _ this
  simpa [Nat.add_assoc] using this
end
theorem ixA_nat {z len b off i : Nat} (hi : i < len) : ixA (some z) (some ⟨b, off, none⟩) len (i : Int) = some (.pointer (some ⟨b, off + i * z, none⟩)) := by
  rw [ixA_, if_pos ⟨by omega, by omega⟩]
  simp [Addr.add_lit]
theorem scells_get {l : List ByteArray} {i : Nat} {u : ByteArray} (h : l[i]? = some u) : (l.map Value.string)[i]? = some (.string u) := by simp [h]
end Go.Sx
