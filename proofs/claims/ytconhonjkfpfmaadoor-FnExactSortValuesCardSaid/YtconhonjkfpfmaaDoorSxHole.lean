/-
  A part of the abstract machine over the model's Code, or of the proof that what it shows holds of the model; no program is in sight, and nothing is assumed.
-/
import Derived.Test.YtconhonjkfpfmaaDoorSxSub
/-! Things with a hole: some cells of a block of the walk's own are read, written, taken out and put back, wherever they lie; variables that live in the heap. -/
namespace Go.Sx
open Go
/-- The cells 'x' of the thing 'c x' lie at 'off' of the block 'b'. -/
def Hold (c : List Dt → Dt) (val : Value) (b off : Nat) : Prop :=
  ∀ (h : Hp) (x : List Dt) (B : List Nat), Ow h (c x) val B → ∃ (e : Nat) (xp xs xq : List Value) (Bp Bx Bq : List Nat), h b = some (.cells (xp ++ (xs ++ xq)).toArray e (0, 0)) ∧ xp.length = off ∧ OwL h x xs Bx ∧ B = b :: (Bp ++ (Bx ++ Bq)) ∧
    ∀ (h' : Hp) (x' : List Dt) (xs' : List Value) (Bx' : List Nat), h' b = some (.cells (xp ++ (xs' ++ xq)).toArray e (0, 0)) → OwL h' x' xs' Bx' → xs'.length = xs.length → (∀ b' ∈ Bp ++ Bq, h' b' = h b') → Ow h' (c x') val (b :: (Bp ++ (Bx' ++ Bq)))
theorem Hold.ptr {p q : List Dt} {b : Nat} : Hold (fun x => .ptr p x q) (.pointer (some ⟨b, p.length, none⟩)) b p.length := by
  intro h x B o
  simp only [Ow] at o
  obtain ⟨b1, cur, e, xp, xs, xq, B1, B2, B3, e1, hb, hc, o1, o2, o3, rfl⟩ := o
  have hp := o1.len
  simp only [Value.pointer.injEq, Option.some.injEq, Addr.mk.injEq] at e1
  obtain ⟨rfl, _, _⟩ := e1
  refine ⟨e, xp, xs, xq, B1, B2, B3, ?_, hp, o2, rfl, fun h' x' xs' Bx' hb' o2' hl hf => ?_⟩
  · rw [← hc, Array.toArray_toList]
    exact hb
  · simp only [Ow]
    exact ⟨b, _, e, xp, xs', xq, B1, Bx', B3, by rw [hp], hb', rfl, o1.frame fun b' hb => hf b' (by simp [hb]), o2', o3.frame fun b' hb => hf b' (by simp [hb]), rfl⟩
theorem Hold.row {z len cap b : Nat} {p q : List Dt} (h0 : 0 < len) : Hold (fun x => .row z (p ++ (x ++ q))) (.slice (some ⟨b, 0, none⟩) len cap) b p.length := by
  intro h x B o
  simp only [Ow] at o
  obtain ⟨xs, C1, C2, o1, o2, rfl⟩ := o
  cases o1 with
  | nil => omega
  | row hb hn hm hz hl ht h1 hp =>
    rename_i cur e
    obtain ⟨xa, xr, D1, D2, rfl, rfl, p1, p2⟩ := o2.split
    obtain ⟨xo, xq, E1, E2, rfl, rfl, p3, p4⟩ := p2.split
    obtain ⟨cl⟩ := cur
    simp only at ht hz
    have hcl : cl.length = cap * z := by simpa using hz
    obtain ⟨junk, hj⟩ : ∃ junk, cl = xa ++ (xo ++ xq) ++ junk := ⟨cl.drop (len * z), by rw [← ht, List.take_append_drop]⟩
    refine ⟨e, xa, xo, xq ++ junk, D1, E1, E2, ?_, p1.len, p3, by simp, fun h' x' xs' Bx' hb' o' hl' hf => ?_⟩
    · rw [hb, hj]
      simp
    · have q1 := p1.frame (h' := h') fun b' hb => hf b' (by simp [hb])
      have q4 := p4.frame (h' := h') fun b' hb => hf b' (by simp [hb])
      have ow := q1.append (o'.append q4)
      simp only [Ow]
      have hlen : (xa ++ (xs' ++ xq)).length = len * z := by
        rw [← hl]
        simp only [List.length_append]
        omega
      refine ⟨xa ++ (xs' ++ xq), [b], D1 ++ (Bx' ++ E2), .row hb' hn hm ?_ hlen ?_ ow.one h0, ow, rfl⟩
      · rw [← hcl, hj]
        simp only [List.size_toArray, List.length_append]
        omega
      · rw [← hlen]
        have : xa ++ (xs' ++ (xq ++ junk)) = xa ++ (xs' ++ xq) ++ junk := by simp
        simp only [this]
        exact List.take_left
theorem Hold.sub {c : List Dt → Dt} {val : Value} {b off : Nat} (k : Hold c val b off) (X Y : List Dt) : Hold (fun y => c (X ++ (y ++ Y))) val b (off + X.length) := by
  intro h y B o
  obtain ⟨e, xp, xs, xq, Bp, Bx, Bq, hb, hp, ox, rfl, put⟩ := k h _ B o
  obtain ⟨xa, xr, D1, D2, rfl, rfl, p1, p2⟩ := ox.split
  obtain ⟨xo, xy, E1, E2, rfl, rfl, p3, p4⟩ := p2.split
  refine ⟨e, xp ++ xa, xo, xy ++ xq, Bp ++ D1, E1, E2 ++ Bq, ?_, by rw [List.length_append, hp, p1.len], p3, by simp, fun h' x' xs' Bx' hb' o' hl' hf => ?_⟩
  · rw [hb]
    simp
  · have q1 := p1.frame (h' := h') fun b' hb => hf b' (by simp [hb])
    have q4 := p4.frame (h' := h') fun b' hb => hf b' (by simp [hb])
    have := put h' (X ++ (x' ++ Y)) (xa ++ (xs' ++ xy)) (D1 ++ (Bx' ++ E2)) (by rw [hb']; simp) (q1.append (o'.append q4)) (by simp only [List.length_append]; omega) fun b' hb => hf b' (by
      rcases List.mem_append.1 hb with hb | hb <;> simp [hb])
    simpa using this
/-- the same, the place written another way -/
theorem Hold.at_ {c : List Dt → Dt} {val : Value} {b off off' : Nat} (k : Hold c val b off) (e : off' = off) : Hold c val b off' := e ▸ k
section
variable {P : Program} {h0 h : Hp} {K : Value → Hp → Prop} {bag : Bag} {c : List Dt → Dt} {val : Value} {b off : Nat}
theorem Hold.rd (hd : Hold c val b off) {x : List Dt} (m : My h0 h ((c x, val) :: bag)) : ∃ xs, RdL h x xs ∧ At h ⟨b, off, none⟩ xs := by
  obtain ⟨B1, B2, l1, _⟩ := My.cons_iff.1 m
  obtain ⟨e, xp, xs, xq, Bp, Bx, Bq, hb, hp, ox, rfl, _⟩ := hd h x B1 l1
  refine ⟨xs, ox.rd, _, _, _, hb, rfl, fun j u hj => ?_⟩
  simp only [List.getElem?_toArray]
  rw [← hp, List.getElem?_append_right (by omega), Nat.add_sub_cancel_left, List.getElem?_append_left (List.getElem?_eq_some_iff.1 hj).1]
  exact hj
/-- The load of a cell. -/
theorem Hold.load1 (hd : Hold c val b off) {t n i j : Nat} {x : List Dt} {d : Dt} (ht : tyS P t = some (false, n)) (m : My h0 h ((c x, val) :: bag)) (hi : x[i]? = some d) (hj : j = off + i) (k : ∀ v, Rd h d v → K v h) : HPure P (ldI t (.pointer (some ⟨b, j, none⟩))) h K := by
  obtain ⟨xs, hr, hat⟩ := hd.rd m
  exact hsem_get1 ht hat hr hi hj k
/-- The load of a struct. -/
theorem Hold.loadN (hd : Hold c val b off) {t n i j : Nat} {x ds : List Dt} (ht : tyS P t = some (true, n)) (m : My h0 h ((c x, val) :: bag)) (hi : (x.drop i).take n = ds) (hl : ds.length = n) (hj : j = off + i) (k : ∀ ys, RdL h ds ys → K (.agg ys.toArray) h) : HPure P (ldI t (.pointer (some ⟨b, j, none⟩))) h K := by
  obtain ⟨xs, hr, hat⟩ := hd.rd m
  exact hsem_getN ht hat hr hi hl hj k
/-- The store of all the cells. -/
theorem Hold.store (hd : Hold c val b off) {t n j : Nat} {ag : Bool} {x es : List Dt} {u : Value} (ht : tyS P t = some (ag, n)) (m : My h0 h (es.zip u.cells.toList ++ ((c x, val) :: bag))) (hx : x.length = n) (he : es.length = n) (hu : u.cells.toList.length = n) (hj : j = off)
    (k : ∀ h', My h0 h' ((c es, val) :: bag) → K undef h') : HSem P (stI t (.pointer (some ⟨b, j, none⟩)) u) h K := by
  subst hj
  obtain ⟨B1, B2, l1, l2, k2, k3, k4⟩ := My.cons_iff.1 (m.perm List.perm_middle)
  have z1 : (es.zip u.cells.toList).map (·.1) = es := List.map_fst_zip (by omega)
  have z2 : (es.zip u.cells.toList).map (·.2) = u.cells.toList := List.map_snd_zip (by omega)
  rw [List.map_append, List.map_append, z1, z2] at l2
  obtain ⟨F1, F2, rfl, q1, q2⟩ := l2.split' (by omega)
  obtain ⟨e, xp, xs, xq, Bp, Bx, Bq, hb, hp, ox, rfl, put⟩ := hd h x B1 l1
  have hxs := ox.len
  refine hsem_store ht hb hu q1.rd.one (by simp only [List.size_toArray, List.length_append]; omega) ?_
  have hsp : splice (xp ++ (xs ++ xq)) j u.cells.toList = xp ++ (u.cells.toList ++ xq) := by rw [← hp, splice_mid (by omega)]
  show K undef (hset h b (.cells (splice (xp ++ (xs ++ xq)) j u.cells.toList).toArray e (0, 0)))
  rw [hsp]
  refine k _ ?_
  have hnb : ∀ b' ∈ (Bp ++ (Bx ++ Bq)) ++ (F1 ++ F2), b' ≠ b := by
    intro b' hb' he'
    subst he'
    exact (List.nodup_cons.1 (show (b' :: ((Bp ++ (Bx ++ Bq)) ++ (F1 ++ F2))).Nodup by simpa using k2)).1 hb'
  have fr : ∀ {ds : List Dt} {ys : List Value} {B : List Nat}, OwL h ds ys B → (∀ b' ∈ B, b' ∈ (Bp ++ (Bx ++ Bq)) ++ (F1 ++ F2)) → OwL (hset h b (.cells (xp ++ (u.cells.toList ++ xq)).toArray e (0, 0))) ds ys B :=
    fun k hB => k.frame fun b' hb' => hset_other (hnb b' (hB b' hb'))
  rw [My.cons_iff]
  refine ⟨b :: (Bp ++ (F1 ++ Bq)), F2, put _ es u.cells.toList F1 (hset_same _ _ _) (fr q1 (by simp +contextual)) (by omega) (fun b' hb' => hset_other (hnb b' ?_)), fr q2 (by simp +contextual), ?_, ?_, ?_⟩
  · rcases List.mem_append.1 hb' with h | h <;> simp [h]
  · have hp2 : (b :: (Bp ++ (Bx ++ Bq)) ++ (F1 ++ F2)).Perm ((b :: (Bp ++ (F1 ++ Bq)) ++ F2) ++ Bx) := by
      simp only [List.cons_append, List.append_assoc]
      refine List.Perm.cons b (List.Perm.append_left Bp ?_)
      have e1 : (Bx ++ (Bq ++ (F1 ++ F2))).Perm ((Bq ++ (F1 ++ F2)) ++ Bx) := List.perm_append_comm
      refine e1.trans ?_
      have e2 : (Bq ++ (F1 ++ F2)).Perm (F1 ++ (Bq ++ F2)) := by
        rw [← List.append_assoc, ← List.append_assoc]
        exact List.perm_append_comm.append_right F2
      simpa using e2.append_right Bx
    exact (List.nodup_append.1 (hp2.nodup_iff.1 (by simpa using k2))).1
  · intro b' hb'
    refine k3 b' ?_
    simp only [List.cons_append, List.mem_cons, List.mem_append] at hb' ⊢
    rcases hb' with h | (h | h | h) | h <;> simp [h]
  · intro i o hi
    have hne : i ≠ b := by
      rintro rfl
      rw [k3 i (by simp)] at hi
      cases hi
    rw [hset_other hne]
    exact k4 i o hi
/-- A cell is taken out. -/
theorem Hold.open_ (hd : Hold c val b off) {X Y : List Dt} {d : Dt} (m : My h0 h ((c (X ++ d :: Y), val) :: bag)) : ∃ u, My h0 h ((d, u) :: (c (X ++ .raw u :: Y), val) :: bag) := by
  obtain ⟨B1, B2, l1, l2, k2, k3, k4⟩ := My.cons_iff.1 m
  obtain ⟨e, xp, xs, xq, Bp, Bx, Bq, hb, hp, ox, rfl, put⟩ := hd h _ B1 l1
  obtain ⟨ys, zs, D1, D2, rfl, rfl, o3, o4⟩ := ox.split
  simp only [OwL] at o4
  obtain ⟨u, ws, E1, E2, rfl, o5, o6, rfl⟩ := o4
  refine ⟨u, My.perm (List.Perm.swap _ _ _) ?_⟩
  rw [My.cons_iff]
  refine ⟨b :: (Bp ++ ((D1 ++ E2) ++ Bq)), E1 ++ B2, put h _ (ys ++ u :: ws) (D1 ++ E2) hb (o3.append (by simp only [OwL, Ow]; exact ⟨u, ws, [], E2, rfl, ⟨rfl, o5.rd.one, rfl⟩, o6, rfl⟩)) rfl (fun _ _ => rfl), ?_, ?_, ?_, k4⟩
  · simp only [List.map_cons, OwL_cc]
    exact ⟨E1, B2, o5, l2, rfl⟩
  · have : (b :: (Bp ++ ((D1 ++ (E1 ++ E2)) ++ Bq)) ++ B2).Perm (b :: (Bp ++ ((D1 ++ E2) ++ Bq)) ++ (E1 ++ B2)) := by
      simp only [List.cons_append, List.append_assoc]
      refine List.Perm.cons b (List.Perm.append_left Bp (List.Perm.append_left D1 ?_))
      have e1 : (E1 ++ (E2 ++ (Bq ++ B2))).Perm ((E2 ++ Bq) ++ (E1 ++ B2)) := by
        have := (List.perm_append_comm (l₁ := E1) (l₂ := E2 ++ Bq)).append_right B2
        simpa using this
      simpa using e1
    exact this.nodup_iff.1 k2
  · intro b' hb'
    refine k3 b' ?_
    simp only [List.cons_append, List.mem_cons, List.mem_append] at hb' ⊢
    rcases hb' with h | (h | (h | h) | h) | h | h <;> simp [h]
theorem Hold.close (hd : Hold c val b off) {X Y : List Dt} {d : Dt} {u : Value} (m : My h0 h ((d, u) :: (c (X ++ .raw u :: Y), val) :: bag)) : My h0 h ((c (X ++ d :: Y), val) :: bag) := by
  obtain ⟨B1, B2, l1, l2, k2, k3, k4⟩ := My.cons_iff.1 m.swap
  simp only [List.map_cons, OwL_cc] at l2
  obtain ⟨E1, B2, o5, l2, rfl⟩ := l2
  obtain ⟨e, xp, xs, xq, Bp, Bx, Bq, hb, hp, ox, rfl, put⟩ := hd h _ B1 l1
  obtain ⟨ys, zs, D1, D2, rfl, rfl, o3, o4⟩ := ox.split
  simp only [OwL, Ow] at o4
  obtain ⟨_, ws, b0, E2, rfl, ⟨rfl, _, hb0⟩, o6, hD⟩ := o4
  subst hb0
  rw [List.nil_append] at hD
  subst hD
  rw [My.cons_iff]
  refine ⟨b :: (Bp ++ ((D1 ++ (E1 ++ D2)) ++ Bq)), B2, put h _ (ys ++ _ :: ws) (D1 ++ (E1 ++ D2)) hb (o3.append (by simp only [OwL]; exact ⟨_, ws, E1, D2, rfl, o5, o6, rfl⟩)) rfl (fun _ _ => rfl), l2, ?_, ?_, k4⟩
  · have : (b :: (Bp ++ ((D1 ++ (E1 ++ D2)) ++ Bq)) ++ B2).Perm (b :: (Bp ++ ((D1 ++ D2) ++ Bq)) ++ (E1 ++ B2)) := by
      simp only [List.cons_append, List.append_assoc]
      refine List.Perm.cons b (List.Perm.append_left Bp (List.Perm.append_left D1 ?_))
      have e1 : (E1 ++ (D2 ++ (Bq ++ B2))).Perm ((D2 ++ Bq) ++ (E1 ++ B2)) := by
        have := (List.perm_append_comm (l₁ := E1) (l₂ := D2 ++ Bq)).append_right B2
        simpa using this
      simpa using e1
    exact this.nodup_iff.2 k2
  · intro b' hb'
    refine k3 b' ?_
    simp only [List.cons_append, List.mem_cons, List.mem_append] at hb' ⊢
    rcases hb' with h | (h | (h | h | h) | h) | h <;> simp [h]
/-- A new variable in the heap that holds things of the bag. -/
theorem my_var {es : List Dt} {us : List Value} {e : Nat} (my : My h0 h (es.zip us ++ bag)) (hb : h b = none) (hl : es.length = us.length) : My h0 (hset h b (.cells us.toArray e (0, 0))) ((.ptr [] es [], .pointer (some ⟨b, 0, none⟩)) :: bag) := by
  obtain ⟨⟨B, k1, k2, k3⟩, k4⟩ := my
  rw [List.map_append, List.map_append, List.map_fst_zip (by omega), List.map_snd_zip (by omega)] at k1
  obtain ⟨C, D, rfl, k5, k6⟩ := k1.split' hl.symm
  have e1 := ext_set hb (.cells us.toArray e (0, 0))
  rw [My.cons_iff]
  refine ⟨b :: C, D, ?_, k6.ext e1, ?_, ?_, k4.trans e1⟩
  · simp only [Ow, OwL]
    exact ⟨b, _, e, [], us, [], [], C, [], rfl, hset_same _ _ _, by simp, ⟨rfl, rfl⟩, k5.ext e1, ⟨rfl, rfl⟩, by simp⟩
  · refine List.nodup_cons.2 ⟨fun hb' => ?_, k2⟩
    have hb' : b ∈ C ++ D := hb'
    have : ∃ o, h b = some o := by
      rcases List.mem_append.1 hb' with h1 | h1
      · exact k5.there b h1
      · exact k6.there b h1
    obtain ⟨o, ho⟩ := this
    rw [hb] at ho
    cases ho
  · intro b' hb'
    simp only [List.cons_append, List.mem_cons] at hb'
    rcases hb' with rfl | h1
    · exact none_of_ext k4 hb
    · exact k3 b' h1
theorem raws_zip : ∀ {us : List Value}, oneCells us = true → My h0 h bag → My h0 h ((us.map Dt.raw).zip us ++ bag)
  | [], _, m => m
  | u :: us, hu, m => by
    simp only [oneCells, Bool.and_eq_true] at hu
    exact (raws_zip hu.2 m).raw hu.1
theorem hsem_my_alloc {t : Nat} {z : List Value} (hz : zeroC P t = some z) (h1 : oneCells z = true) (my : My h0 h bag) (k : ∀ b h', My h0 h' ((.ptr [] (z.map .raw) [], .pointer (some ⟨b, 0, none⟩)) :: bag) → K (.pointer (some ⟨b, 0, none⟩)) h') : HSem P (alI t) h K := by
  unfold zeroC at hz
  cases hi : P.info? t with
  | none => rw [hi] at hz; cases hz
  | some i =>
    rw [hi] at hz
    simp only [Option.bind_some, Option.map_eq_some_iff] at hz
    obtain ⟨v, hv, rfl⟩ := hz
    refine hsem_alloc (v := fun b => .pointer (some ⟨b, 0, none⟩)) (o := .cells v.cells t (0, 0)) (fun w _ => ?_) fun b hb => k b _ ?_
    · simp [alI, Instr.alloc, zeroValue, run_info hi, hv, newVar, newRow]
    · have := my_var (e := t) (raws_zip h1 my) hb (by simp)
      simpa using this
theorem hsem_my_box {t : Nat} {v : Value} {es : List Dt} (my : My h0 h (es.zip v.cells.toList ++ bag)) (hl : es.length = v.cells.toList.length) (k : ∀ b h', My h0 h' ((.ptr [] es [], .pointer (some ⟨b, 0, none⟩)) :: bag) → K (.pointer (some ⟨b, 0, none⟩)) h') : HSem P (bxI t v) h K := by
  refine hsem_alloc (v := fun b => .pointer (some ⟨b, 0, none⟩)) (o := .cells v.cells t (0, 0)) (fun w _ => ?_) fun b hb => k b _ ?_
  · simp [bxI, Instr.box, newVar, newRow]
  · have := my_var (e := t) my hb hl
    simpa using this
end
end Go.Sx
