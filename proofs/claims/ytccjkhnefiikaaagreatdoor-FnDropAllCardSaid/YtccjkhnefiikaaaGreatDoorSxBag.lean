/-
  A part of the abstract machine over the model's Code, or of the proof that what it shows holds of the model; no program is in sight, and nothing is assumed.
-/
import Derived.Test.YtccjkhnefiikaaaGreatDoorSxOwn
/-! Data in the heap: trees of cells; what reads as a tree, what owns one; bags of owned things. -/
namespace Go.Sx
open Go
/-- One cell's data: a plain cell; a slice (its cells lie flat, 'z' to an element); a pointer to cells within a block of its own. -/
inductive Dt where
  | raw (u : Value)
  | row (z : Nat) (cs : List Dt)
  | ptr (p cs q : List Dt)

mutual
/-- The value reads as the data. -/
def Rd (h : Hp) : Dt → Value → Prop
  | .raw u, v => v = u ∧ oneCell u = true
  | .row z cs, v => ∃ xs, RdS h z v xs ∧ RdL h cs xs
  | .ptr p cs q, v => ∃ b cur e f xp xs xq, v = .pointer (some ⟨b, xp.length, none⟩) ∧ h b = some (.cells cur e f) ∧ cur.toList = xp ++ (xs ++ xq) ∧ RdL h p xp ∧ RdL h cs xs ∧ RdL h q xq
def RdL (h : Hp) : List Dt → List Value → Prop
  | [], xs => xs = []
  | d :: ds, xs => ∃ v ys, xs = v :: ys ∧ Rd h d v ∧ RdL h ds ys
end
mutual
/-- The value owns the data: 'B' lists its blocks. -/
def Ow (h : Hp) : Dt → Value → List Nat → Prop
  | .raw u, v, B => v = u ∧ oneCell u = true ∧ B = []
  | .row z cs, v, B => ∃ xs B1 B2, OwS h z v xs B1 ∧ OwL h cs xs B2 ∧ B = B1 ++ B2
  | .ptr p cs q, v, B => ∃ b cur e xp xs xq B1 B2 B3, v = .pointer (some ⟨b, xp.length, none⟩) ∧ h b = some (.cells cur e (0, 0)) ∧ cur.toList = xp ++ (xs ++ xq) ∧ OwL h p xp B1 ∧ OwL h cs xs B2 ∧ OwL h q xq B3 ∧ B = b :: (B1 ++ (B2 ++ B3))
def OwL (h : Hp) : List Dt → List Value → List Nat → Prop
  | [], xs, B => xs = [] ∧ B = []
  | d :: ds, xs, B => ∃ v ys B1 B2, xs = v :: ys ∧ Ow h d v B1 ∧ OwL h ds ys B2 ∧ B = B1 ++ B2
end

mutual
theorem Rd.mono {h h' : Hp} (e : Ext h h') : ∀ {d : Dt} {v : Value}, Rd h d v → Rd h' d v
  | .raw _, _, k => by simp only [Rd] at k ⊢; exact k
  | .row _ cs, _, k => by
    simp only [Rd] at k ⊢
    obtain ⟨xs, k1, k2⟩ := k
    exact ⟨xs, k1.mono e, RdL.mono e k2⟩
  | .ptr p cs q, _, k => by
    simp only [Rd] at k ⊢
    obtain ⟨b, cur, t, f, xp, xs, xq, k1, k2, k3, k4, k5, k6⟩ := k
    exact ⟨b, cur, t, f, xp, xs, xq, k1, e _ _ k2, k3, RdL.mono e k4, RdL.mono e k5, RdL.mono e k6⟩
theorem RdL.mono {h h' : Hp} (e : Ext h h') : ∀ {ds : List Dt} {xs : List Value}, RdL h ds xs → RdL h' ds xs
  | [], _, k => by simp only [RdL] at k ⊢; exact k
  | d :: ds, _, k => by
    simp only [RdL] at k ⊢
    obtain ⟨v, ys, k1, k2, k3⟩ := k
    exact ⟨v, ys, k1, Rd.mono e k2, RdL.mono e k3⟩
end
mutual
theorem Ow.rd {h : Hp} : ∀ {d : Dt} {v : Value} {B : List Nat}, Ow h d v B → Rd h d v
  | .raw _, _, _, k => by simp only [Ow, Rd] at k ⊢; exact ⟨k.1, k.2.1⟩
  | .row _ cs, _, _, k => by
    simp only [Ow, Rd] at k ⊢
    obtain ⟨xs, B1, B2, k1, k2, _⟩ := k
    exact ⟨xs, k1.rd, OwL.rd k2⟩
  | .ptr p cs q, _, _, k => by
    simp only [Ow, Rd] at k ⊢
    obtain ⟨b, cur, t, xp, xs, xq, B1, B2, B3, k1, k2, k3, k4, k5, k6, _⟩ := k
    exact ⟨b, cur, t, _, xp, xs, xq, k1, k2, k3, OwL.rd k4, OwL.rd k5, OwL.rd k6⟩
theorem OwL.rd {h : Hp} : ∀ {ds : List Dt} {xs : List Value} {B : List Nat}, OwL h ds xs B → RdL h ds xs
  | [], _, _, k => by simp only [OwL, RdL] at k ⊢; exact k.1
  | d :: ds, _, _, k => by
    simp only [OwL, RdL] at k ⊢
    obtain ⟨v, ys, B1, B2, k1, k2, k3, _⟩ := k
    exact ⟨v, ys, k1, Ow.rd k2, OwL.rd k3⟩
end
mutual
theorem Ow.frame {h h' : Hp} : ∀ {d : Dt} {v : Value} {B : List Nat}, Ow h d v B → (∀ b ∈ B, h' b = h b) → Ow h' d v B
  | .raw _, _, _, k, _ => by simp only [Ow] at k ⊢; exact k
  | .row _ cs, _, _, k, e => by
    simp only [Ow] at k ⊢
    obtain ⟨xs, B1, B2, k1, k2, rfl⟩ := k
    exact ⟨xs, B1, B2, k1.frame fun b hb => e b (by simp [hb]), OwL.frame k2 fun b hb => e b (by simp [hb]), rfl⟩
  | .ptr p cs q, _, _, k, e => by
    simp only [Ow] at k ⊢
    obtain ⟨b, cur, t, xp, xs, xq, B1, B2, B3, k1, k2, k3, k4, k5, k6, rfl⟩ := k
    exact ⟨b, cur, t, xp, xs, xq, B1, B2, B3, k1, (e b (by simp)).trans k2, k3, OwL.frame k4 fun b hb => e b (by simp [hb]), OwL.frame k5 fun b hb => e b (by simp [hb]), OwL.frame k6 fun b hb => e b (by simp [hb]), rfl⟩
theorem OwL.frame {h h' : Hp} : ∀ {ds : List Dt} {xs : List Value} {B : List Nat}, OwL h ds xs B → (∀ b ∈ B, h' b = h b) → OwL h' ds xs B
  | [], _, _, k, _ => by simp only [OwL] at k ⊢; exact k
  | d :: ds, _, _, k, e => by
    simp only [OwL] at k ⊢
    obtain ⟨v, ys, B1, B2, k1, k2, k3, rfl⟩ := k
    exact ⟨v, ys, B1, B2, k1, Ow.frame k2 fun b hb => e b (by simp [hb]), OwL.frame k3 fun b hb => e b (by simp [hb]), rfl⟩
end
mutual
theorem Ow.there {h : Hp} : ∀ {d : Dt} {v : Value} {B : List Nat}, Ow h d v B → ∀ b ∈ B, ∃ o, h b = some o
  | .raw _, _, _, k => by simp only [Ow] at k; rw [k.2.2]; simp
  | .row _ cs, _, _, k => by
    simp only [Ow] at k
    obtain ⟨xs, B1, B2, k1, k2, rfl⟩ := k
    intro b hb
    rcases List.mem_append.1 hb with hb | hb
    · exact k1.there b hb
    · exact OwL.there k2 b hb
  | .ptr p cs q, _, _, k => by
    simp only [Ow] at k
    obtain ⟨b, cur, t, xp, xs, xq, B1, B2, B3, k1, k2, k3, k4, k5, k6, rfl⟩ := k
    intro b' hb
    simp only [List.mem_cons, List.mem_append] at hb
    rcases hb with rfl | hb | hb | hb
    · exact ⟨_, k2⟩
    · exact OwL.there k4 b' hb
    · exact OwL.there k5 b' hb
    · exact OwL.there k6 b' hb
theorem OwL.there {h : Hp} : ∀ {ds : List Dt} {xs : List Value} {B : List Nat}, OwL h ds xs B → ∀ b ∈ B, ∃ o, h b = some o
  | [], _, _, k => by simp only [OwL] at k; rw [k.2]; simp
  | d :: ds, _, _, k => by
    simp only [OwL] at k
    obtain ⟨v, ys, B1, B2, k1, k2, k3, rfl⟩ := k
    intro b hb
    rcases List.mem_append.1 hb with hb | hb
    · exact Ow.there k2 b hb
    · exact OwL.there k3 b hb
end
theorem Ow.ext {h h' : Hp} {d : Dt} {v : Value} {B : List Nat} (k : Ow h d v B) (e : Ext h h') : Ow h' d v B := k.frame fun b hb => by
  obtain ⟨o, ho⟩ := k.there b hb; rw [e b o ho, ho]
theorem OwL.ext {h h' : Hp} {ds : List Dt} {xs : List Value} {B : List Nat} (k : OwL h ds xs B) (e : Ext h h') : OwL h' ds xs B := k.frame fun b hb => by
  obtain ⟨o, ho⟩ := k.there b hb; rw [e b o ho, ho]

theorem OwS.nodup {h : Hp} {z : Nat} {v : Value} {xs : List Value} {B : List Nat} (k : OwS h z v xs B) : B.Nodup := by
  cases k with
  | nil => simp
  | row => simp
theorem RdL.len {h : Hp} : ∀ {ds : List Dt} {xs : List Value}, RdL h ds xs → xs.length = ds.length
  | [], _, k => by simp only [RdL] at k; subst k; rfl
  | d :: ds, _, k => by
    simp only [RdL] at k
    obtain ⟨v, ys, rfl, k2, k3⟩ := k
    simp [RdL.len k3]
theorem RdL.append {h : Hp} : ∀ {ds es : List Dt} {xs ys : List Value}, RdL h ds xs → RdL h es ys → RdL h (ds ++ es) (xs ++ ys)
  | [], _, _, _, k, l => by simp only [RdL] at k; subst k; exact l
  | d :: ds, es, _, ys, k, l => by
    simp only [RdL] at k
    obtain ⟨v, zs, rfl, k2, k3⟩ := k
    simp only [List.cons_append, RdL]
    exact ⟨v, _, rfl, k2, RdL.append k3 l⟩
theorem RdL.split {h : Hp} : ∀ {ds es : List Dt} {xs : List Value}, RdL h (ds ++ es) xs → ∃ ys zs, xs = ys ++ zs ∧ RdL h ds ys ∧ RdL h es zs
  | [], es, xs, k => ⟨[], xs, rfl, by simp only [RdL], k⟩
  | d :: ds, es, xs, k => by
    simp only [List.cons_append, RdL] at k
    obtain ⟨v, zs, rfl, k2, k3⟩ := k
    obtain ⟨ys, ws, rfl, k4, k5⟩ := RdL.split k3
    exact ⟨v :: ys, ws, rfl, by simp only [RdL]; exact ⟨v, ys, rfl, k2, k4⟩, k5⟩
theorem OwL.append {h : Hp} : ∀ {ds es : List Dt} {xs ys : List Value} {B C : List Nat}, OwL h ds xs B → OwL h es ys C → OwL h (ds ++ es) (xs ++ ys) (B ++ C)
  | [], _, _, _, _, _, k, l => by simp only [OwL] at k; obtain ⟨rfl, rfl⟩ := k; exact l
  | d :: ds, es, _, ys, _, _, k, l => by
    simp only [OwL] at k
    obtain ⟨v, zs, B1, B2, rfl, k2, k3, rfl⟩ := k
    simp only [List.cons_append, OwL]
    exact ⟨v, _, B1, _, rfl, k2, OwL.append k3 l, by simp⟩
theorem OwL.split {h : Hp} : ∀ {ds es : List Dt} {xs : List Value} {B : List Nat}, OwL h (ds ++ es) xs B → ∃ ys zs C D, xs = ys ++ zs ∧ B = C ++ D ∧ OwL h ds ys C ∧ OwL h es zs D
  | [], es, xs, B, k => ⟨[], xs, [], B, rfl, rfl, by simp [OwL], k⟩
  | d :: ds, es, xs, B, k => by
    simp only [List.cons_append, OwL] at k
    obtain ⟨v, zs, B1, B2, rfl, k2, k3, rfl⟩ := k
    obtain ⟨ys, ws, C, D, rfl, rfl, k4, k5⟩ := OwL.split k3
    exact ⟨v :: ys, ws, B1 ++ C, D, rfl, by simp, by simp only [OwL]; exact ⟨v, ys, B1, C, rfl, k2, k4, rfl⟩, k5⟩
theorem OwL.len {h : Hp} {ds : List Dt} {xs : List Value} {B : List Nat} (k : OwL h ds xs B) : xs.length = ds.length := k.rd.len
theorem OwL.split' {h : Hp} {ds es : List Dt} {xs ys : List Value} {B : List Nat} (k : OwL h (ds ++ es) (xs ++ ys) B) (hl : xs.length = ds.length) : ∃ C D, B = C ++ D ∧ OwL h ds xs C ∧ OwL h es ys D := by
  obtain ⟨us, vs, C, D, he, hB, k1, k2⟩ := k.split
  have h1 : us.length = xs.length := by rw [k1.len, hl]
  obtain ⟨rfl, rfl⟩ := List.append_inj he h1.symm
  exact ⟨C, D, hB, k1, k2⟩
theorem Rd.one {h : Hp} {d : Dt} {v : Value} (k : Rd h d v) : oneCell v = true := by
  cases d with
  | raw => simp only [Rd] at k; obtain ⟨rfl, k⟩ := k; exact k
  | row => simp only [Rd] at k; obtain ⟨xs, k1, k2⟩ := k; obtain ⟨⟨a, n, c, rfl, _⟩, _⟩ := k1; rfl
  | ptr => simp only [Rd] at k; obtain ⟨b, cur, t, f, xp, xs, xq, rfl, _⟩ := k; rfl
theorem RdL.one {h : Hp} : ∀ {ds : List Dt} {xs : List Value}, RdL h ds xs → oneCells xs = true
  | [], _, k => by simp only [RdL] at k; subst k; rfl
  | d :: ds, _, k => by
    simp only [RdL] at k
    obtain ⟨v, ys, rfl, k2, k3⟩ := k
    simp [oneCells, k2.one, RdL.one k3]
theorem Rd_raw {h : Hp} {u v : Value} : Rd h (.raw u) v ↔ v = u ∧ oneCell u = true := by simp only [Rd]
theorem RdL_nil {h : Hp} {xs : List Value} : RdL h [] xs ↔ xs = [] := by simp only [RdL]
theorem RdL_cons {h : Hp} {d : Dt} {ds : List Dt} {xs : List Value} : RdL h (d :: ds) xs ↔ ∃ v ys, xs = v :: ys ∧ Rd h d v ∧ RdL h ds ys := by simp only [RdL]
theorem RdL_cc {h : Hp} {d : Dt} {ds : List Dt} {v : Value} {xs : List Value} : RdL h (d :: ds) (v :: xs) ↔ Rd h d v ∧ RdL h ds xs := by
  simp only [RdL, List.cons.injEq]
  constructor
  · rintro ⟨_, _, ⟨rfl, rfl⟩, h1, h2⟩; exact ⟨h1, h2⟩
  · rintro ⟨h1, h2⟩; exact ⟨_, _, ⟨rfl, rfl⟩, h1, h2⟩
theorem RdL.get {h : Hp} : ∀ {ds : List Dt} {vs : List Value} {o : Nat} {d : Dt}, RdL h ds vs → ds[o]? = some d → ∃ v, vs[o]? = some v ∧ Rd h d v
  | [], _, o, d, _, ho => by simp at ho
  | e :: ds, vs, o, d, k, ho => by
    simp only [RdL] at k
    obtain ⟨v, ws, rfl, k1, k2⟩ := k
    cases o with
    | zero => simp at ho; subst ho; exact ⟨v, by simp, k1⟩
    | succ o => simp at ho; obtain ⟨u, h4, h5⟩ := RdL.get k2 ho; exact ⟨u, by simpa using h4, h5⟩
theorem RdL.drop {h : Hp} {ds : List Dt} {vs : List Value} (k : RdL h ds vs) (i : Nat) : RdL h (ds.drop i) (vs.drop i) := by
  rcases Nat.le_total i ds.length with hi | hi
  · rw [← List.take_append_drop i ds] at k
    obtain ⟨ys, zs, rfl, k1, k2⟩ := k.split
    have : ys.length = i := by rw [k1.len, List.length_take, Nat.min_eq_left hi]
    rw [List.drop_left' this]
    exact k2
  · rw [List.drop_eq_nil_of_le hi, List.drop_eq_nil_of_le (by rw [k.len]; exact hi)]
    simp only [RdL]
theorem RdL.take {h : Hp} {ds : List Dt} {vs : List Value} (k : RdL h ds vs) (i : Nat) : RdL h (ds.take i) (vs.take i) := by
  rcases Nat.le_total i ds.length with hi | hi
  · rw [← List.take_append_drop i ds] at k
    obtain ⟨ys, zs, rfl, k1, k2⟩ := k.split
    have : ys.length = i := by rw [k1.len, List.length_take, Nat.min_eq_left hi]
    rw [List.take_left' this]
    exact k1
  · rw [List.take_of_length_le hi, List.take_of_length_le (by rw [k.len]; exact hi)]
    exact k
theorem RdL.raws {h : Hp} : ∀ {xs : List Value}, oneCells xs = true → RdL h (xs.map .raw) xs
  | [], _ => by simp only [List.map_nil, RdL]
  | v :: r, k => by
    simp only [oneCells, Bool.and_eq_true] at k
    simp only [List.map_cons, RdL, Rd]
    exact ⟨v, r, rfl, ⟨rfl, k.1⟩, RdL.raws k.2⟩
theorem RdL.of_raws {h : Hp} : ∀ {us xs : List Value}, RdL h (us.map .raw) xs → xs = us
  | [], xs, k => by simpa only [List.map_nil, RdL] using k
  | v :: r, xs, k => by
    simp only [List.map_cons, RdL, Rd] at k
    obtain ⟨w, ys, rfl, ⟨rfl, _⟩, k2⟩ := k
    rw [RdL.of_raws k2]
theorem OwL.raws {h : Hp} : ∀ {xs : List Value}, oneCells xs = true → OwL h (xs.map .raw) xs []
  | [], _ => by simp only [List.map_nil, OwL, and_self]
  | v :: r, k => by
    simp only [oneCells, Bool.and_eq_true] at k
    simp only [List.map_cons, OwL, Ow]
    exact ⟨v, r, [], [], rfl, ⟨rfl, k.1, rfl⟩, OwL.raws k.2, rfl⟩
/-- A slice that reads as data, opened. -/
theorem Rd.rows {h : Hp} {z : Nat} (hz : 0 < z) {cs : List Dt} {v : Value} (k : Rd h (.row z cs) v) (n : Nat) (hn : cs.length = n * z) :
    ∃ a c xs, v = .slice a n c ∧ n ≤ c ∧ RdL h cs xs ∧ (0 < n → ∃ b off, a = some ⟨b, off, none⟩ ∧ At h ⟨b, off, none⟩ xs) := by
  simp only [Rd] at k
  obtain ⟨xs, k1, k2⟩ := k
  obtain ⟨a, c, h1, h2, h3⟩ := k1.slice n hz (by rw [k2.len, hn])
  exact ⟨a, c, xs, h1, h2, k2, h3⟩
section
variable {P : Program} {h : Hp} {K : Value → Hp → Prop}
/-- The load of some cells of a slice as one struct. -/
theorem hsem_getN {t n b off i j : Nat} {cs ds : List Dt} {xs : List Value} (ht : tyS P t = some (true, n)) (hat : At h ⟨b, off, none⟩ xs) (hr : RdL h cs xs) (hi : (cs.drop i).take n = ds) (hd : ds.length = n) (hj : j = off + i)
    (k : ∀ ys, RdL h ds ys → K (.agg ys.toArray) h) : HPure P (ldI t (.pointer (some ⟨b, j, none⟩))) h K := by
  subst hi
  have h1 := (hr.drop i).take n
  exact hsem_atN ht hat (by rw [h1.len, hd]) rfl hj (k _ h1)
/-- The load of one cell of a slice. -/
theorem hsem_get1 {t n b off i j : Nat} {cs : List Dt} {xs : List Value} {d : Dt} (ht : tyS P t = some (false, n)) (hat : At h ⟨b, off, none⟩ xs) (hr : RdL h cs xs) (hi : cs[i]? = some d) (hj : j = off + i)
    (k : ∀ v, Rd h d v → K v h) : HPure P (ldI t (.pointer (some ⟨b, j, none⟩))) h K := by
  obtain ⟨v, h4, h5⟩ := hr.get hi
  exact hsem_at1 ht hat h4 hj (k v h5)
end

/-! ### Bags -/
abbrev Bag := List (Dt × Value)
/-- The walk's own things since the heap was h0; nothing of h0 has turned. -/
structure My (h0 h : Hp) (bag : Bag) : Prop where
  ow : ∃ B, OwL h (bag.map (·.1)) (bag.map (·.2)) B ∧ B.Nodup ∧ ∀ b ∈ B, h0 b = none
  ext : Ext h0 h
section
variable {h0 h h1 h' : Hp} {bag bag' : Bag} {d e : Dt} {u v x : Value} {z : Nat}
theorem My.nil (e : Ext h0 h) : My h0 h [] := ⟨⟨[], by simp only [List.map_nil, OwL, and_self], List.nodup_nil, by simp⟩, e⟩
theorem My.mono (m : My h0 h bag) (e : Ext h h') : My h0 h' bag := by
  obtain ⟨⟨B, k1, k2, k3⟩, k4⟩ := m
  exact ⟨⟨B, k1.ext e, k2, k3⟩, k4.trans e⟩
theorem My.base (m : My h1 h bag) (e : Ext h0 h1) : My h0 h bag := by
  obtain ⟨⟨B, k1, k2, k3⟩, k4⟩ := m
  exact ⟨⟨B, k1, k2, fun b hb => none_of_ext e (k3 b hb)⟩, e.trans k4⟩
theorem My.add (m : My h0 h bag) (n : My h h' bag') : My h0 h' (bag' ++ bag) := by
  obtain ⟨⟨B, k1, k2, k3⟩, k4⟩ := m
  obtain ⟨⟨C, l1, l2, l3⟩, l4⟩ := n
  refine ⟨⟨C ++ B, by simpa only [List.map_append] using l1.append (k1.ext l4), ?_, ?_⟩, k4.trans l4⟩
  · refine List.nodup_append.2 ⟨l2, k2, fun a ha b hb hab => ?_⟩
    subst hab
    obtain ⟨o, ho⟩ := k1.there a hb
    rw [l3 a ha] at ho
    cases ho
  · intro b hb
    rcases List.mem_append.1 hb with hb | hb
    · exact none_of_ext k4 (l3 b hb)
    · exact k3 b hb
theorem OwL_cc {h : Hp} {d : Dt} {ds : List Dt} {v : Value} {xs : List Value} {B : List Nat} : OwL h (d :: ds) (v :: xs) B ↔ ∃ B1 B2, Ow h d v B1 ∧ OwL h ds xs B2 ∧ B = B1 ++ B2 := by
  simp only [OwL, List.cons.injEq]
  constructor
  · rintro ⟨_, _, B1, B2, ⟨rfl, rfl⟩, h1, h2, h3⟩; exact ⟨B1, B2, h1, h2, h3⟩
  · rintro ⟨B1, B2, h1, h2, h3⟩; exact ⟨_, _, B1, B2, ⟨rfl, rfl⟩, h1, h2, h3⟩
theorem My.cons_iff : My h0 h ((d, v) :: bag) ↔ ∃ B1 B2, Ow h d v B1 ∧ OwL h (bag.map (·.1)) (bag.map (·.2)) B2 ∧ (B1 ++ B2).Nodup ∧ (∀ b ∈ B1 ++ B2, h0 b = none) ∧ Ext h0 h := by
  constructor
  · rintro ⟨⟨B, k1, k2, k3⟩, k4⟩
    simp only [List.map_cons, OwL_cc] at k1
    obtain ⟨B1, B2, l1, l2, rfl⟩ := k1
    exact ⟨B1, B2, l1, l2, k2, k3, k4⟩
  · rintro ⟨B1, B2, l1, l2, k2, k3, k4⟩
    exact ⟨⟨B1 ++ B2, by simp only [List.map_cons, OwL_cc]; exact ⟨B1, B2, l1, l2, rfl⟩, k2, k3⟩, k4⟩
theorem My.perm {bag' : Bag} (p : bag.Perm bag') (m : My h0 h bag) : My h0 h bag' := by
  have key : ∀ {l l' : Bag}, l.Perm l' → ∀ B, OwL h (l.map (·.1)) (l.map (·.2)) B → ∃ B', OwL h (l'.map (·.1)) (l'.map (·.2)) B' ∧ B.Perm B' := by
    intro l l' p
    induction p with
    | nil => intro B k; exact ⟨B, k, List.Perm.refl _⟩
    | cons x p ih =>
      intro B k
      simp only [List.map_cons, OwL_cc] at k ⊢
      obtain ⟨B1, B2, k1, k2, rfl⟩ := k
      obtain ⟨B', k3, k4⟩ := ih B2 k2
      exact ⟨_, ⟨B1, B', k1, k3, rfl⟩, k4.append_left B1⟩
    | swap x y l =>
      intro B k
      simp only [List.map_cons, OwL_cc] at k ⊢
      obtain ⟨B1, _, k1, ⟨B2, B3, k2, k3, rfl⟩, rfl⟩ := k
      refine ⟨_, ⟨B2, _, k2, ⟨B1, B3, k1, k3, rfl⟩, rfl⟩, ?_⟩
      rw [← List.append_assoc, ← List.append_assoc]
      exact List.perm_append_comm.append_right B3
    | trans p q ih1 ih2 =>
      intro B k
      obtain ⟨B', k1, k2⟩ := ih1 B k
      obtain ⟨B'', k3, k4⟩ := ih2 B' k1
      exact ⟨B'', k3, k2.trans k4⟩
  obtain ⟨⟨B, k1, k2, k3⟩, k4⟩ := m
  obtain ⟨B', l1, l2⟩ := key p B k1
  exact ⟨⟨B', l1, l2.nodup_iff.1 k2, fun b hb => k3 b (l2.mem_iff.2 hb)⟩, k4⟩
theorem My.swap {a b : Dt × Value} (m : My h0 h (a :: b :: bag)) : My h0 h (b :: a :: bag) := m.perm (List.Perm.swap _ _ _)
/-- the third comes to the front -/
theorem My.third {a b c : Dt × Value} (m : My h0 h (a :: b :: c :: bag)) : My h0 h (c :: a :: b :: bag) := (m.perm ((List.Perm.swap c b bag).cons a)).swap
theorem My.fourth {a b c f : Dt × Value} (m : My h0 h (a :: b :: c :: f :: bag)) : My h0 h (f :: a :: b :: c :: bag) := (m.perm (((List.Perm.swap f c bag).cons b).cons a)).third
/-- the first goes behind the second -/
theorem My.drop {a : Dt × Value} (m : My h0 h (a :: bag)) : My h0 h bag := by
  obtain ⟨d, v⟩ := a
  obtain ⟨B1, B2, l1, l2, k2, k3, k4⟩ := My.cons_iff.1 m
  exact ⟨⟨B2, l2, (List.nodup_append.1 k2).2.1, fun b hb => k3 b (by simp [hb])⟩, k4⟩
theorem My.rd (m : My h0 h ((d, v) :: bag)) : Rd h d v := by
  obtain ⟨B1, B2, l1, _⟩ := My.cons_iff.1 m
  exact l1.rd
theorem My.rd2 {a : Dt × Value} (m : My h0 h (a :: (d, v) :: bag)) : Rd h d v := m.drop.rd
theorem My.rd3 {a b : Dt × Value} (m : My h0 h (a :: b :: (d, v) :: bag)) : Rd h d v := m.drop.drop.rd
theorem My.raw_iff : My h0 h ((.raw u, v) :: bag) ↔ (v = u ∧ oneCell u = true) ∧ My h0 h bag := by
  rw [My.cons_iff]
  constructor
  · rintro ⟨B1, B2, l1, l2, k2, k3, k4⟩
    simp only [Ow] at l1
    obtain ⟨rfl, h1, rfl⟩ := l1
    exact ⟨⟨rfl, h1⟩, ⟨B2, l2, k2, k3⟩, k4⟩
  · rintro ⟨⟨rfl, h1⟩, ⟨B2, l2, k2, k3⟩, k4⟩
    exact ⟨[], B2, by simp only [Ow, h1, and_self], l2, k2, k3, k4⟩
theorem My.raw (m : My h0 h bag) (hu : oneCell u = true) : My h0 h ((.raw u, u) :: bag) := My.raw_iff.2 ⟨⟨rfl, hu⟩, m⟩
theorem My.nilrow {a : Option Addr} (m : My h0 h bag) : My h0 h ((.row z [], .slice a 0 0) :: bag) := by
  rw [My.cons_iff]
  obtain ⟨⟨B2, l2, k2, k3⟩, k4⟩ := m
  exact ⟨[], B2, by simp only [Ow, OwL]; exact ⟨[], [], [], .nil, ⟨rfl, rfl⟩, rfl⟩, l2, k2, k3, k4⟩
/-- A cell of a slice is taken out: its place holds the bare value. -/
theorem My.open_ {p q : List Dt} (m : My h0 h ((.row z (p ++ d :: q), v) :: bag)) : ∃ u, My h0 h ((d, u) :: (.row z (p ++ .raw u :: q), v) :: bag) := by
  obtain ⟨B1, B2, l1, l2, k2, k3, k4⟩ := My.cons_iff.1 m
  simp only [Ow] at l1
  obtain ⟨xs, C1, C2, o1, o2, rfl⟩ := l1
  obtain ⟨ys, zs, D1, D2, rfl, rfl, o3, o4⟩ := o2.split
  simp only [OwL] at o4
  obtain ⟨u, ws, E1, E2, rfl, o5, o6, rfl⟩ := o4
  refine ⟨u, My.perm (List.Perm.swap _ _ _) ?_⟩
  rw [My.cons_iff]
  refine ⟨C1 ++ (D1 ++ E2), E1 ++ B2, ?_, ?_, ?_, ?_, k4⟩
  · simp only [Ow]
    exact ⟨_, C1, _, o1, o3.append (by simp only [OwL, Ow]; exact ⟨u, ws, [], E2, rfl, ⟨rfl, o5.rd.one, rfl⟩, o6, rfl⟩), rfl⟩
  · simp only [List.map_cons, OwL_cc]
    exact ⟨E1, B2, o5, l2, rfl⟩
  · have : (C1 ++ (D1 ++ (E1 ++ E2)) ++ B2).Perm (C1 ++ (D1 ++ E2) ++ (E1 ++ B2)) := by
      simp only [List.append_assoc]
      refine (List.Perm.append_left _ (List.Perm.append_left _ ?_))
      rw [← List.append_assoc, ← List.append_assoc]
      exact List.perm_append_comm.append_right B2
    exact this.nodup_iff.1 k2
  · intro b hb
    refine k3 b ?_
    simp only [List.mem_append] at hb ⊢
    rcases hb with (h | h | h) | h | h <;> simp [h]
theorem My.close {p q : List Dt} (m : My h0 h ((d, u) :: (.row z (p ++ .raw u :: q), v) :: bag)) : My h0 h ((.row z (p ++ d :: q), v) :: bag) := by
  obtain ⟨B1, B2, l1, l2, k2, k3, k4⟩ := My.cons_iff.1 (m.perm (List.Perm.swap _ _ _))
  simp only [List.map_cons, OwL_cc] at l2
  obtain ⟨E1, B2, o5, l2, rfl⟩ := l2
  simp only [Ow] at l1
  obtain ⟨xs, C1, C2, o1, o2, rfl⟩ := l1
  obtain ⟨ys, zs, D1, D2, rfl, rfl, o3, o4⟩ := o2.split
  simp only [OwL, Ow] at o4
  obtain ⟨_, ws, b0, E2, rfl, ⟨rfl, _, hb0⟩, o6, hD⟩ := o4
  subst hb0
  rw [List.nil_append] at hD
  subst hD
  rw [My.cons_iff]
  refine ⟨C1 ++ (D1 ++ (E1 ++ D2)), B2, ?_, l2, ?_, ?_, k4⟩
  · simp only [Ow]
    exact ⟨_, C1, _, o1, o3.append (by simp only [OwL]; exact ⟨_, ws, E1, D2, rfl, o5, o6, rfl⟩), rfl⟩
  · have : (C1 ++ (D1 ++ (E1 ++ D2)) ++ B2).Perm (C1 ++ (D1 ++ D2) ++ (E1 ++ B2)) := by
      simp only [List.append_assoc]
      refine (List.Perm.append_left _ (List.Perm.append_left _ ?_))
      rw [← List.append_assoc, ← List.append_assoc]
      exact List.perm_append_comm.append_right B2
    exact this.nodup_iff.2 (by simpa using k2)
  · intro b hb
    refine k3 b ?_
    simp only [List.mem_append] at hb ⊢
    rcases hb with (h | h | h | h) | h <;> simp [h]
/-- A slice of the walk's own: its block, its offset 0. -/
theorem My.row_shape {cs : List Dt} (m : My h0 h ((.row z cs, v) :: bag)) (hz : 0 < z) (n : Nat) (hn : cs.length = n * z) :
    ∃ a c, v = .slice a n c ∧ n ≤ c ∧ c ≤ maxLen ∧ (0 < n → ∃ b, a = some ⟨b, 0, none⟩) := by
  obtain ⟨B1, B2, l1, _⟩ := My.cons_iff.1 m
  simp only [Ow] at l1
  obtain ⟨xs, C1, C2, o1, o2, rfl⟩ := l1
  have hl := o2.len
  cases o1 with
  | nil =>
    have hn0 : n = 0 := by
      have : 0 = n * z := by simpa [hn] using hl
      rcases Nat.mul_eq_zero.1 this.symm with h | h <;> omega
    subst hn0
    exact ⟨_, 0, rfl, Nat.le_refl _, Nat.zero_le _, by omega⟩
  | row hb0 hnc hm0 hz' hl0 ht0 h10 hp0 =>
    rename_i b n' cap cur e _
    have : n' = n := by
      rw [hl0, hn] at hl
      exact Nat.eq_of_mul_eq_mul_right hz hl
    subst this
    exact ⟨_, cap, rfl, hnc, hm0, fun _ => ⟨b, rfl⟩⟩
theorem My.at_ {cs : List Dt} {b n c : Nat} (m : My h0 h ((.row z cs, .slice (some ⟨b, 0, none⟩) n c) :: bag)) : ∃ xs, RdL h cs xs ∧ (0 < n → At h ⟨b, 0, none⟩ xs) := by
  obtain ⟨B1, B2, l1, _⟩ := My.cons_iff.1 m
  simp only [Ow] at l1
  obtain ⟨xs, C1, C2, o1, o2, rfl⟩ := l1
  refine ⟨xs, o2.rd, fun hn => ?_⟩
  cases o1 with
  | nil => omega
  | row hb0 hnc hm0 hz' hl0 ht0 h10 hp0 => exact ⟨_, _, _, hb0, rfl, fun j u hj => by simpa using take_get ht0 hj⟩
end
theorem splice_mid {a o c us : List Value} (hl : us.length = o.length) : splice (a ++ (o ++ c)) a.length us = a ++ (us ++ c) := by
  unfold splice
  rw [List.take_left, hl, ← List.append_assoc, ← List.length_append, List.drop_left, List.append_assoc]
section
variable {P : Program} {h0 h : Hp} {K : Value → Hp → Prop} {bag : Bag}
/-- The store of an element, or of some of its cells. -/
theorem hsem_my_store {t n b off len cap z : Nat} {ag : Bool} {p o q es : List Dt} {u : Value} (ht : tyS P t = some (ag, n)) (m : My h0 h ((.row z (p ++ (o ++ q)), .slice (some ⟨b, 0, none⟩) len cap) :: (es.zip u.cells.toList ++ bag)))
    (h0l : 0 < len) (ho : o.length = n) (he : es.length = n) (hu : u.cells.toList.length = n) (hoff : off = p.length) (k : ∀ h', My h0 h' ((.row z (p ++ (es ++ q)), .slice (some ⟨b, 0, none⟩) len cap) :: bag) → K undef h') :
    HSem P (stI t (.pointer (some ⟨b, off, none⟩)) u) h K := by
  obtain ⟨B1, B2, l1, l2, k2, k3, k4⟩ := My.cons_iff.1 m
  simp only [Ow] at l1
  obtain ⟨xs, C1, C2, o1, o2, rfl⟩ := l1
  cases o1 with
  | nil => omega
  | row hb0 hnc hm0 hz' hl0 ht0 h10 hp0 =>
    rename_i cur e
    obtain ⟨xa, xr, D1, D2, rfl, rfl, p1, p2⟩ := o2.split
    obtain ⟨xo, xq, E1, E2, rfl, rfl, p3, p4⟩ := p2.split
    have z1 : (es.zip u.cells.toList).map (·.1) = es := List.map_fst_zip (by omega)
    have z2 : (es.zip u.cells.toList).map (·.2) = u.cells.toList := List.map_snd_zip (by omega)
    rw [List.map_append, List.map_append, z1, z2] at l2
    obtain ⟨F1, F2, rfl, q1, q2⟩ := l2.split' (by omega)
    have hxa := p1.len
    have hxo := p3.len
    obtain ⟨cl⟩ := cur
    simp only at ht0 hz'
    have hcl : cl.length = cap * z := by simpa using hz'
    have hlenz : len * z ≤ cap * z := Nat.mul_le_mul_right _ hnc
    have hle : (xa ++ (xo ++ xq)).length ≤ cl.length := by rw [hl0, hcl]; exact hlenz
    obtain ⟨junk, hj⟩ : ∃ junk, cl = xa ++ (xo ++ xq) ++ junk := ⟨cl.drop (len * z), by rw [← ht0, List.take_append_drop]⟩
    have hone := q1.rd.one
    have hlen1 : off + n ≤ cl.length := by
      simp only [List.length_append] at hle
      omega
    refine hsem_store ht hb0 hu hone hlen1 ?_
    have hsp : splice cl off u.cells.toList = xa ++ (u.cells.toList ++ xq) ++ junk := by
      rw [hj, List.append_assoc, List.append_assoc, hoff, ← hxa, splice_mid (by omega)]
      simp
    show K undef (hset h b (.cells (splice cl off u.cells.toList).toArray e (0, 0)))
    rw [hsp]
    refine k _ ?_
    have hb1 : ∀ b' ∈ D1 ++ (E1 ++ E2) ++ (F1 ++ F2), b' ≠ b := by
      intro b' hb' he'
      subst he'
      have := (List.nodup_cons.1 (show (b' :: (D1 ++ (E1 ++ E2) ++ (F1 ++ F2))).Nodup by simpa using k2)).1
      exact this hb'
    have fr : ∀ {ds : List Dt} {ys : List Value} {B : List Nat}, OwL h ds ys B → (∀ b' ∈ B, b' ∈ D1 ++ (E1 ++ E2) ++ (F1 ++ F2)) → OwL (hset h b (.cells (xa ++ (u.cells.toList ++ xq) ++ junk).toArray e (0, 0))) ds ys B :=
      fun k hB => k.frame fun b' hb' => hset_other (hb1 b' (hB b' hb'))
    rw [My.cons_iff]
    refine ⟨[b] ++ (D1 ++ (F1 ++ E2)), F2, ?_, ?_, ?_, ?_, ?_⟩
    · simp only [Ow]
      refine ⟨xa ++ (u.cells.toList ++ xq), [b], D1 ++ (F1 ++ E2), .row (hset_same _ _ _) hnc hm0 ?_ ?_ ?_ ?_ h0l, ?_, rfl⟩
      · simp only [List.size_toArray, List.length_append]
        rw [hj] at hcl
        simp only [List.length_append] at hcl
        omega
      · simp only [List.length_append] at hl0 ⊢
        omega
      · simp only
        have : len * z = (xa ++ (u.cells.toList ++ xq)).length := by
          simp only [List.length_append] at hl0 ⊢
          omega
        rw [this, List.take_left]
      · rw [oneCells_append, oneCells_append] at h10 ⊢
        simp only [Bool.and_eq_true] at h10 ⊢
        exact ⟨h10.1, hone, h10.2.2⟩
      · exact (fr p1 (by simp +contextual)).append ((fr q1 (by simp +contextual)).append (fr p4 (by simp +contextual)))
    · exact fr q2 (by simp +contextual)
    · have hp : ([b] ++ (D1 ++ (E1 ++ E2)) ++ (F1 ++ F2)).Perm ([b] ++ (D1 ++ (F1 ++ E2)) ++ F2 ++ E1) := by
        simp only [List.append_assoc]
        refine List.Perm.append_left _ (List.Perm.append_left _ ?_)
        refine List.perm_append_comm.trans ?_
        simp only [← List.append_assoc]
        refine List.Perm.append_right E1 ?_
        simp only [List.append_assoc]
        refine List.perm_append_comm.trans ?_
        simp only [List.append_assoc]
        exact List.Perm.append_left _ List.perm_append_comm
      exact (List.nodup_append.1 (hp.nodup_iff.1 k2)).1
    · intro b' hb'
      refine k3 b' ?_
      simp only [List.mem_append] at hb' ⊢
      rcases hb' with (h | h | h | h) | h <;> simp [h]
    · intro i x hi
      have hne : i ≠ b := by
        rintro rfl
        rw [k3 i (by simp)] at hi
        cases hi
      rw [hset_other hne]
      exact k4 i x hi
theorem OwL.one {h : Hp} {ds : List Dt} {xs : List Value} {B : List Nat} (k : OwL h ds xs B) : oneCells xs = true := k.rd.one
/-- 'append' of one slice of the walk's own to another one. -/
theorem hsem_my_append {t ty : Nat} {s : SlT} (hs : slT P t = some s) (hz0 : 0 < s.z) (hzl : s.zero.length = s.z) {v x : Value} (n m : Nat) {cs news : List Dt} (my : My h0 h ((.row s.z cs, v) :: (.row s.z news, x) :: bag))
    (hn : cs.length = n * s.z) (hm : news.length = m * s.z) (hb : (n + m) * s.by_ ≤ 140737488355328) (hb2 : n + m ≤ 140737488355328) (k : ∀ v' h', My h0 h' ((.row s.z (cs ++ news), v') :: bag) → K v' h') : HSem P (apI #[t, t] ty #[v, x]) h K := by
  obtain ⟨B1, B2, l1, l2, k2, k3, k4⟩ := My.cons_iff.1 my
  simp only [Ow] at l1
  obtain ⟨xs, C1, C2, o1, o2, rfl⟩ := l1
  simp only [List.map_cons, OwL_cc, Ow] at l2
  obtain ⟨_, B3, ⟨ys, D1, D2, o3, o4, rfl⟩, l3, rfl⟩ := l2
  have hC1 : ∀ b ∈ C2 ++ (D1 ++ D2) ++ B3, b ∉ C1 := by
    intro b hb hb'
    have : (C1 ++ (C2 ++ (D1 ++ D2) ++ B3)).Nodup := by simpa using k2
    exact (List.nodup_append.1 this).2.2 b hb' b hb rfl
  refine hsem_append hs hz0 hzl o1 o3.rd (by rw [o2.len, hn]) (by rw [o4.len, hm]) hb hb2 fun v' h' B' ho hbut hB => k v' h' ?_
  have fr : ∀ {ds : List Dt} {ys : List Value} {B : List Nat}, OwL h ds ys B → (∀ b ∈ B, b ∈ C2 ++ (D1 ++ D2) ++ B3) → OwL h' ds ys B := fun k hB => k.frame fun b' hb' => by
    obtain ⟨o, ho⟩ := k.there b' hb'
    rw [hbut b' o ho (hC1 b' (hB b' hb')), ho]
  have hB'n : B'.Nodup := ho.nodup
  have hB'd : ∀ b ∈ B', b ∉ C2 ++ (D1 ++ D2) ++ B3 := by
    intro b hb hb'
    rcases hB b hb with h1 | h1
    · exact hC1 b hb' h1
    · have : ∃ o, h b = some o := by
        simp only [List.mem_append] at hb'
        rcases hb' with (h2 | h2 | h2) | h2
        · exact o2.there b h2
        · exact o3.there b h2
        · exact o4.there b h2
        · exact l3.there b h2
      obtain ⟨o, ho⟩ := this
      rw [h1] at ho
      cases ho
  rw [My.cons_iff]
  refine ⟨B' ++ (C2 ++ D2), B3, ?_, fr l3 (by simp +contextual), ?_, ?_, ?_⟩
  · simp only [Ow]
    exact ⟨_, B', _, ho, (fr o2 (by simp +contextual)).append (fr o4 (by simp +contextual)), rfl⟩
  · rw [List.append_assoc]
    refine List.nodup_append.2 ⟨hB'n, ?_, ?_⟩
    · have h1 : (C2 ++ (D1 ++ D2) ++ B3).Nodup := by
        have : (C1 ++ (C2 ++ (D1 ++ D2) ++ B3)).Nodup := by simpa using k2
        exact (List.nodup_append.1 this).2.1
      have hp : (C2 ++ (D1 ++ D2) ++ B3).Perm (D1 ++ (C2 ++ D2 ++ B3)) := by
        simp only [← List.append_assoc]
        refine List.Perm.append_right B3 (List.Perm.append_right D2 ?_)
        exact List.perm_append_comm
      exact (List.nodup_append.1 (hp.nodup_iff.1 h1)).2.1
    · intro a ha b hb hab
      subst hab
      refine hB'd a ha ?_
      simp only [List.mem_append] at hb ⊢
      rcases hb with (h | h) | h <;> simp [h]
  · intro b hb
    simp only [List.mem_append] at hb
    rcases hb with (h1 | h1 | h1) | h1
    · rcases hB b h1 with h2 | h2
      · exact k3 b (by simp [h2])
      · exact none_of_ext k4 h2
    · exact k3 b (by simp [h1])
    · exact k3 b (by simp [h1])
    · exact k3 b (by simp [h1])
  · exact hbut.ext k4 fun b hb => k3 b (by simp [hb])
/-- 'append' of a slice that reads, its cells bare. -/
theorem hsem_my_appendR {t ty : Nat} {s : SlT} (hs : slT P t = some s) (hz0 : 0 < s.z) (hzl : s.zero.length = s.z) {v x : Value} (n m : Nat) {cs : List Dt} {xs : List Value} (my : My h0 h ((.row s.z cs, v) :: bag)) (rd : RdS h s.z x xs)
    (hn : cs.length = n * s.z) (hm : xs.length = m * s.z) (hb : (n + m) * s.by_ ≤ 140737488355328) (hb2 : n + m ≤ 140737488355328) (k : ∀ v' h', My h0 h' ((.row s.z (cs ++ xs.map .raw), v') :: bag) → K v' h') : HSem P (apI #[t, t] ty #[v, x]) h K := by
  obtain ⟨B1, B2, l1, l2, k2, k3, k4⟩ := My.cons_iff.1 my
  simp only [Ow] at l1
  obtain ⟨ys, C1, C2, o1, o2, rfl⟩ := l1
  have hnd : (C1 ++ (C2 ++ B2)).Nodup := by simpa using k2
  have hC1 : ∀ b ∈ C2 ++ B2, b ∉ C1 := fun b hb hb' => (List.nodup_append.1 hnd).2.2 b hb' b hb rfl
  refine hsem_append hs hz0 hzl o1 rd (by rw [o2.len, hn]) hm hb hb2 fun v' h' B' ho hbut hB => k v' h' ?_
  have fr : ∀ {ds : List Dt} {ys : List Value} {B : List Nat}, OwL h ds ys B → (∀ b ∈ B, b ∈ C2 ++ B2) → OwL h' ds ys B := fun k hB => k.frame fun b' hb' => by
    obtain ⟨o, ho⟩ := k.there b' hb'
    rw [hbut b' o ho (hC1 b' (hB b' hb')), ho]
  have hB'n : B'.Nodup := ho.nodup
  have hB'd : ∀ b ∈ B', b ∉ C2 ++ B2 := by
    intro b hb hb'
    rcases hB b hb with h1 | h1
    · exact hC1 b hb' h1
    · have : ∃ o, h b = some o := by
        simp only [List.mem_append] at hb'
        rcases hb' with h2 | h2
        · exact o2.there b h2
        · exact l2.there b h2
      obtain ⟨o, ho⟩ := this
      rw [h1] at ho
      cases ho
  rw [My.cons_iff]
  refine ⟨B' ++ C2, B2, ?_, fr l2 (by simp +contextual), ?_, ?_, ?_⟩
  · simp only [Ow]
    exact ⟨_, B', _, ho, by simpa using (fr o2 (by simp +contextual)).append (OwL.raws rd.one), rfl⟩
  · rw [List.append_assoc]
    refine List.nodup_append.2 ⟨hB'n, (List.nodup_append.1 hnd).2.1, ?_⟩
    intro a ha b hb hab
    subst hab
    exact hB'd a ha hb
  · intro b hb
    simp only [List.mem_append] at hb
    rcases hb with (h1 | h1) | h1
    · rcases hB b h1 with h2 | h2
      · exact k3 b (by simp [h2])
      · exact none_of_ext k4 h2
    · exact k3 b (by simp [h1])
    · exact k3 b (by simp [h1])
  · exact hbut.ext k4 fun b hb => k3 b (by simp [hb])
/-- One new block that holds things of the bag. -/
theorem my_new {z n cap : Nat} {es : List Dt} {us : List Value} {b e : Nat} {cur : Array Value} (my : My h0 h (es.zip us ++ bag)) (hb : h b = none) (hl : es.length = us.length) (hnc : n ≤ cap) (hm : cap ≤ maxLen) (hz : cur.size = cap * z) (hu : us.length = n * z) (ht : cur.toList.take (n * z) = us) (hnz : n = 0 → cap = 0) :
    My h0 (hset h b (.cells cur e (0, 0))) ((.row z es, .slice (some ⟨b, 0, none⟩) n cap) :: bag) := by
  obtain ⟨⟨B, k1, k2, k3⟩, k4⟩ := my
  rw [List.map_append, List.map_append, List.map_fst_zip (by omega), List.map_snd_zip (by omega)] at k1
  obtain ⟨C, D, rfl, k5, k6⟩ := k1.split' hl.symm
  have e1 := ext_set hb (.cells cur e (0, 0))
  by_cases hn0 : n = 0
  · obtain rfl : cap = 0 := hnz hn0
    subst hn0
    have hu0 : us = [] := List.eq_nil_of_length_eq_zero (by simpa using hu)
    subst hu0
    rw [My.cons_iff]
    refine ⟨C, D, ?_, k6.ext e1, k2, k3, k4.trans e1⟩
    simp only [Ow]
    exact ⟨[], [], C, .nil, k5.ext e1, rfl⟩
  rw [My.cons_iff]
  refine ⟨[b] ++ C, D, ?_, k6.ext e1, ?_, ?_, k4.trans e1⟩
  · simp only [Ow]
    exact ⟨us, [b], C, .row (hset_same _ _ _) hnc hm hz hu ht k5.one (by omega), k5.ext e1, rfl⟩
  · rw [List.append_assoc]
    refine List.nodup_cons.2 ⟨fun hb' => ?_, k2⟩
    have hb' : b ∈ C ++ D := hb'
    have : ∃ o, h b = some o := by
      rcases List.mem_append.1 hb' with h1 | h1
      · exact k5.there b h1
      · exact k6.there b h1
    obtain ⟨o, ho⟩ := this
    rw [hb] at ho
    cases ho
  · intro b' hb'
    simp only [List.mem_append, List.mem_singleton] at hb'
    rcases hb' with (rfl | h1) | h1
    · exact none_of_ext k4 hb
    · exact k3 b' (by simp [h1])
    · exact k3 b' (by simp [h1])
/-- A slice literal, all elements given. -/
theorem hsem_my_lit {t n : Nat} {s : SlT} {parts : List (Nat × Value)} {es : List Dt} (hs : slT P t = some s) (hz : 0 < s.z) (hn0 : 0 < n) (hn : n * s.z ≤ 16777216) (hlen : parts.length = n) (hi : parts.map (·.1) = List.range n) (hp : ∀ p ∈ parts, p.2.cells.size = s.z)
    (my : My h0 h (es.zip (flat parts) ++ bag)) (hfl : (flat parts).length = n * s.z) (hel : es.length = n * s.z) (k : ∀ v h', My h0 h' ((.row s.z es, v) :: bag) → K v h') : HSem P (bsI t n parts.toArray) h K :=
  hsem_buildSlice hs hz hn0 hn hlen hi hp fun b hb => k _ _ (my_new my hb (by rw [hel, hfl]) (Nat.le_refl _) (by
    have := Nat.le_trans (Nat.le_mul_of_pos_right n hz) hn
    simp only [maxLen]; omega) (by simpa using hfl) hfl (by simp [← hfl]) (fun h => by omega))
/-- '[]T{}' -/
theorem hsem_my_lit0 {t : Nat} {s : SlT} (hs : slT P t = some s) (my : My h0 h bag) (k : ∀ v h', My h0 h' ((.row s.z [], v) :: bag) → K v h') : HSem P (bsI t 0 #[]) h K := by
  refine hsem_alloc (v := fun b => .slice (some ⟨b, 0, none⟩) 0 0) (o := .cells #[] s.e (0, 0)) (fun w _ => ?_) (fun b hb => k _ _ (my_new (es := []) (us := []) (by simpa using my) hb rfl (Nat.le_refl _) (Nat.zero_le _) (by simp) (by simp) (by simp) (fun _ => rfl)))
  obtain ⟨i, v, h1, h2, h3, h4, h5, h6⟩ := slT_some hs
  simp [bsI, Instr.buildSlice, run_ty h1, run_size h2, Instr.fill, newRow]
  rw [show (Array.map (fun _ => default) (Array.range 0) : Array Value) = #[] from Array.eq_empty_of_size_eq_zero (by simp)]
def zeros (zero : List Value) : Nat → List Dt
  | 0 => []
  | n + 1 => zero.map .raw ++ zeros zero n
theorem zeros_len (zero : List Value) : ∀ n, (zeros zero n).length = n * zero.length
  | 0 => by simp [zeros]
  | n + 1 => by simp [zeros, zeros_len zero n, Nat.add_mul, Nat.add_comm]
end
end Go.Sx
