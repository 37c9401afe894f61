/-
  A part of the abstract machine over the model's Code, or of the proof that what it shows holds of the model; no program is in sight, and nothing is assumed.
-/
import Derived.Test.YtccjkhnefiikaaaGreatDoorSxSoundF
namespace Go.Sx
open Go
section
variable {P : Program} {h0 h h' : Hp} {w0 w w' : World} {n : Nat} {β : Nat → Nat} {fr fr1 fr' : Fr} {bx bx1 : Bx} {a : Act}

/-! ### What an operation hangs on -/
theorem vals_congr {l : List Operand} (h : ∀ x ∈ l, ev fr x = ev fr' x) : vals (l.map (ev fr)) = vals (l.map (ev fr')) := by
  rw [List.map_congr_left h]

theorem lop_congr {op : Op} (hx : ∀ x ∈ op.operands, ev fr x = ev fr' x) (bx : Bx) : lop P fr bx op = lop P fr' bx op := by
  cases op <;> simp only [Op.operands] at hx <;> simp only [lop]
  case move x => exact hx x (by simp)
  case assign x => exact hx x (by simp)
  case pick c x y => rw [hx c (by simp), hx x (by simp), hx y (by simp)]
  case load t x => rw [hx x (by simp)]
  case nilCheck x => rw [hx x (by simp)]
  case binOp op xt x y yt => rw [hx x (by simp), hx y (by simp)]
  case unOp op xt x => rw [hx x (by simp)]
  case extract x i => rw [hx x (by simp)]
  case build t parts =>
    have : parts.toList.map (fun p => ev fr p.2) = parts.toList.map (fun p => ev fr' p.2) :=
      List.map_congr_left fun p hp => hx p.2 (by simp; exact ⟨p.1, by simpa using hp⟩)
    rw [this]
  case slice t x lo hi mx =>
    split
    · rfl
    · rw [hx x (by simp)]
      have hl : lo.map (ev fr) = lo.map (ev fr') := by cases lo with
        | none => rfl
        | some y => simp only [Option.map_some]; rw [hx y (by simp)]
      have hh : hi.map (ev fr) = hi.map (ev fr') := by cases hi with
        | none => rfl
        | some y => simp only [Option.map_some]; rw [hx y (by simp)]
      rw [hl, hh]
  case fieldAddr s x i => rw [hx x (by simp)]
  case field s x i => rw [hx x (by simp)]
  case indexAddr t x i => rw [hx x (by simp), hx i (by simp)]
  case index t x i => rw [hx x (by simp), hx i (by simp)]
  case call c =>
    split
    · rename_i x t hb hargs htys
      have hm : x ∈ c.args := by
        have : x ∈ c.args.toList := by rw [hargs]; simp
        simpa using this
      rw [hx x (by simp [Call.operands, hm])]
    · rfl

theorem aop_congr {m : Mo} {o : Oper} (hx : ∀ x ∈ o.op.operands, ev fr x = ev fr' x) (bx : Bx) (h : Hp) (K : AV → Bx → Hp → Prop) :
    aop P m o fr bx h K = aop P m o fr' bx h K := by
  have hl := lop_congr (P := P) hx bx
  obtain ⟨dst, op, ty, pos, aft, gd⟩ := o
  simp only at hx hl
  cases op <;> simp only [aop]
  case box t x => rw [hx x (by simp [Op.operands])]
  case store t x v => rw [hx x (by simp [Op.operands]), hx v (by simp [Op.operands])]
  case load t x => rw [hl, hx x (by simp [Op.operands])]
  case convert s d x => rw [hx x (by simp [Op.operands])]
  case makeFunc fn first captured =>
    rw [vals_congr (l := first.toList) (fun x hm => hx x (by simp [Op.operands]; exact .inl (by simpa using hm))),
      vals_congr (l := captured.toList) (fun x hm => hx x (by simp [Op.operands]; exact .inr (by simpa using hm)))]
  case buildSlice t k parts =>
    have : parts.toList.map (fun p => ev fr p.2) = parts.toList.map (fun p => ev fr' p.2) :=
      List.map_congr_left fun p hp => hx p.2 (by simp [Op.operands]; exact ⟨p.1, by simpa using hp⟩)
    rw [this]
  case makeSlice t l c => rw [hx l (by simp [Op.operands]), hx c (by simp [Op.operands])]
  case makeMap t r => cases r <;> simp only [hl]
  case lookup t x i ok => rw [hx x (by simp [Op.operands]), hx i (by simp [Op.operands])]
  case mapUpdate t x i v => rw [hx x (by simp [Op.operands]), hx i (by simp [Op.operands]), hx v (by simp [Op.operands])]
  case call c =>
    have hargs : ∀ x ∈ c.args.toList, ev fr x = ev fr' x := fun x hm => hx x (by simp [Op.operands, Call.operands]; exact .inr (by simpa using hm))
    split
    · split
      · rename_i x t ha ht
        rw [hargs x (by rw [ha]; simp)]
      · rfl
    · rw [vals_congr hargs]
    · rw [vals_congr hargs]
    · rw [vals_congr hargs]
    · rename_i f hf
      rw [vals_congr hargs, hx f (by simp [Op.operands, Call.operands, hf])]
    · rfl
  all_goals rw [hl]

theorem aval_mono {x : Option AV} {K K' : AV → Prop} (hk : ∀ v, K v → K' v) (h : aval x K) : aval x K' := by
  cases x with
  | none => exact h
  | some v => exact hk v h
theorem vval_mono {x : Option AV} {K K' : Value → Prop} (hk : ∀ v, K v → K' v) (h : vval x K) : vval x K' := by
  obtain ⟨v, rfl, k⟩ := vval_some h
  exact hk v k
theorem cval_mono {x : Option (List Value)} {K K' : List Value → Prop} (hk : ∀ v, K v → K' v) (h : cval x K) : cval x K' := by
  obtain ⟨v, rfl, k⟩ := cval_some h
  exact hk v k
theorem HSem.mono' {s : Sem Value} {K K' : Value → Hp → Prop} (h1 : HSem P s h K) (hk : ∀ v h', (∃ w, Sim h' w) → K v h' → K' v h') : HSem P s h K' :=
  fun w hw => let ⟨v, w', h', e, s1, f1, k⟩ := h1 w hw; ⟨v, w', h', e, s1, f1, hk v h' ⟨w', s1⟩ k⟩
theorem HSem.mono {s : Sem Value} {K K' : Value → Hp → Prop} (h1 : HSem P s h K) (hk : ∀ v h', K v h' → K' v h') : HSem P s h K' := h1.mono' fun v h' _ k => hk v h' k
theorem ACalls.mono' {f : Nat} {args : Array Value} {K K' : Value → Hp → Prop} (h1 : ACalls P f args h K) (hk : ∀ v h', (∃ w, Sim h' w) → K v h' → K' v h') : ACalls P f args h K' :=
  h1.imp (fun h1 => ⟨h1.1, fun w hw => (h1.2 w hw).mono fun _ w' ⟨v, h', e, s, f, k⟩ => ⟨v, h', e, s, f, hk v h' ⟨w', s⟩ k⟩⟩) fun h1 w hw => (h1 w hw).imp fun v ⟨e, k⟩ => ⟨e, hk v h ⟨w, hw⟩ k⟩
theorem ACalls.mono {f : Nat} {args : Array Value} {K K' : Value → Hp → Prop} (h1 : ACalls P f args h K) (hk : ∀ v h', K v h' → K' v h') : ACalls P f args h K' := h1.mono' fun v h' _ k => hk v h' k

/-- The heap is one of the model's, and what stands still stands. -/
def Gd (m : Mo) (h : Hp) : Prop := (∃ w, Sim h w) ∧ ExtO m.hs h
/-- A stronger end, where the heap is still one of the model's. -/
theorem aop_mono' {m : Mo} {o : Oper} {K K' : AV → Bx → Hp → Prop} (hs : Gd m h) (hk : ∀ v bx' h', Gd m h' → K v bx' h' → K' v bx' h') (hA : aop P m o fr bx h K) :
    aop P m o fr bx h K' := by
  have hh : ∀ {s : Sem Value}, hop P m.hs s bx h K → hop P m.hs s bx h K' := fun h1 => HSem.mono' h1 fun v h' hw k => ⟨k.1, hk _ _ _ ⟨hw, k.1⟩ k.2⟩
  have hl : ∀ {op : Op}, (aval (lop P fr bx op) fun v => K v bx h) → aval (lop P fr bx op) fun v => K' v bx h := fun h1 => aval_mono (fun v k => hk _ _ _ hs k) h1
  obtain ⟨dst, op, ty, pos, aft, gd⟩ := o
  cases op <;> simp only [aop] at hA ⊢
  case box t x =>
    split at hA
    · exact hA.elim
    · split at hA
      · rename_i hm; rw [if_pos hm]; exact vval_mono (fun v k => hh k) hA
      · rename_i hm; rw [if_neg hm]; exact vval_mono (fun v k => ⟨k.1, hk _ _ _ hs k.2⟩) hA
  case alloc t =>
    split at hA
    · exact hA.elim
    · split at hA
      · rename_i hm; rw [if_pos hm]; exact hh hA
      · rename_i hm; rw [if_neg hm]; exact cval_mono (fun v k => ⟨k.1, hk _ _ _ hs k.2⟩) hA
  case store t x v =>
    refine vval_mono (fun u k => ?_) hA
    split at k
    · exact cval_mono (fun cs q => ⟨q.1, q.2.1, q.2.2.1, hk _ _ _ hs q.2.2.2⟩) k
    · exact hh k
    · exact k.elim
  case load t x =>
    split at hA
    · split at hA
      · exact hA.elim
      · rename_i hm
        rw [if_neg hm]
        split at hA
        · rename_i hp
          rw [if_pos hp]
          unfold hstb at hA ⊢
          split at hA
          · obtain ⟨v, hr, k⟩ := hA
            exact ⟨v, hr, hk _ _ _ hs k⟩
          · exact hA.elim
        · rename_i hp
          rw [if_neg hp]
          obtain ⟨v, hr, k⟩ := hA
          exact ⟨v, hr, hk _ _ _ hs k⟩
    · split at hA
      · exact hA.elim
      · rename_i hb; rw [if_neg hb]; exact hl hA
  case convert s d x =>
    refine vval_mono (fun u k => ?_) hA
    split at k
    · exact vval_mono (fun u q => hk _ _ _ hs q) k
    · exact hh k
  case makeFunc fn first captured => exact cval_mono (fun f k => cval_mono (fun c q => hk _ _ _ hs q) k) hA
  case buildSlice t k parts => exact cval_mono (fun f k => hh k) hA
  case makeSlice t l c => exact vval_mono (fun l k => vval_mono (fun c q => hh q) k) hA
  case makeMap t r => cases r with
    | none => exact hh hA
    | some r => exact hl hA
  case lookup t x i ok => exact vval_mono (fun l k => vval_mono (fun c q => hh q) k) hA
  case mapUpdate t x i v => exact vval_mono (fun l k => vval_mono (fun c q => vval_mono (fun v r => hh r) q) k) hA
  case call c =>
    split at hA
    · split at hA
      · split at hA
        · rename_i hm; rw [if_pos hm]; exact vval_mono (fun x k => hh k) hA
        · rename_i hm; rw [if_neg hm]; exact aval_mono (fun v k => hk _ _ _ hs k) hA
      · exact hA.elim
    · exact cval_mono (fun f k => hh k) hA
    · exact cval_mono (fun f k => hh k) hA
    · exact cval_mono (fun f k => hh k) hA
    · refine vval_mono (fun u k => ?_) hA
      split at k
      · exact cval_mono (fun vs q => q.mono' fun v h' hw r => ⟨r.1, hk _ _ _ ⟨hw, r.1⟩ r.2⟩) k
      · exact k.elim
    · exact hA.elim
  all_goals exact hl hA

/-- An operation that looks at slots alone, or loads a box. -/
theorem aop_loc {lb pl hm : List Nat} {S : Option Hp} {o : Oper} (hc : cls P hm lb pl o ≤ 1) (K : AV → Bx → Hp → Prop) :
    aop P { hm := hm, lb := lb, pl := pl, hs := S } o fr bx h K = aval (lop P fr bx o.op) (fun v => K v bx h) := by
  obtain ⟨dst, op, ty, pos, aft, gd⟩ := o
  cases op <;> simp only [cls] at hc <;> simp only [aop] <;> try omega
  case alloc t =>
    split at hc
    · split at hc <;> omega
    · omega
  case load t x =>
    split at hc
    · rename_i d hd
      split at hc
      · rename_i hm
        split
        · rename_i p hx
          simp only [Option.map_some, Option.getD_some, hm, if_true, lop, hx]
          rfl
        · rw [if_neg (by simp only [Option.map_some, Option.getD_some, hm]; simp)]
      · split at hc <;> omega
    · omega
  case call c =>
    split at hc
    · rename_i x t hb ha ht
      split at hc
      · rename_i hk
        simp only [hb, ha, ht]
        rw [if_neg (by omega)]
        simp only [lop, hb, ha, ht]
      · omega
    · omega
theorem lop_bx {hm lb pl : List Nat} {o : Oper} (hc : cls P hm lb pl o = 0) (bx bx' : Bx) : lop P fr bx o.op = lop P fr bx' o.op := by
  obtain ⟨dst, op, ty, pos, aft, gd⟩ := o
  cases op <;> simp only [cls] at hc <;> simp only [lop] <;> try omega
  case load t x =>
    split at hc
    · split at hc
      · omega
      · split at hc <;> omega
    · omega
/-- What a load of the heap gives; 'st': does it read what stands still? -/
def LdV (P : Program) (S : Option Hp) (st : Bool) (o : Oper) (fr : Fr) (bx : Bx) (h : Hp) (v : AV) : Prop :=
  match o.op with
  | .load t x => match ev fr x, st with
    | some (.val p), true => match S with
      | some hS => ∃ u, v = .val u ∧ ∀ w, Sim hS w → (ldI t p).run P w = .ok u w
      | none => False
    | some (.val p), false => ∃ u, v = .val u ∧ ∀ w, Sim h w → (ldI t p).run P w = .ok u w
    | _, true => False
    | _, false => lop P fr bx (.load t x) = some v
  | _ => False
theorem LdV_still {S : Option Hp} {o : Oper} {bx' : Bx} {h' : Hp} {v : AV} (k : LdV P S true o fr bx h v) : LdV P S true o fr bx' h' v := by
  unfold LdV at k ⊢
  split at k
  · rename_i t x ho
    cases hx : ev fr x with
    | none => simp only [hx] at k
    | some a => cases a with
      | box k' off => simp only [hx] at k
      | val p => simp only [hx] at k ⊢; exact k
  · exact k.elim
theorem cls_le (P : Program) (hm lb pl : List Nat) (o : Oper) : cls P hm lb pl o ≤ 6 := by
  obtain ⟨dst, op, ty, pos, aft, gd⟩ := o
  cases op <;> simp only [cls] <;> try omega
  case load t x =>
    split
    · split
      · omega
      · split <;> omega
    · omega
  case alloc t =>
    split
    · split <;> omega
    · omega
  case call c =>
    split
    · split <;> omega
    · omega
theorem cls_load {hm lb pl : List Nat} {o : Oper} (hc : cls P hm lb pl o = 2 ∨ cls P hm lb pl o = 5) : ∃ t x, o.op = .load t x ∧ (o.dst.map lb.contains).getD false = false ∧ (o.dst.map pl.contains).getD false = (cls P hm lb pl o == 5) := by
  obtain ⟨dst, op, ty, pos, aft, gd⟩ := o
  cases op <;> simp only [cls] at hc ⊢ <;> try omega
  case alloc t =>
    exfalso
    split at hc
    · split at hc <;> omega
    · omega
  case load t x =>
    refine ⟨t, x, rfl, ?_⟩
    split at hc
    · rename_i d
      split at hc
      · omega
      · rename_i h1
        have h1' : lb.contains d = false := by simpa using h1
        split at hc
        · rename_i h2
          simp only [Option.map_some, Option.getD_some, h1', h2, Bool.false_eq_true, if_false, if_true]
          exact ⟨trivial, rfl⟩
        · rename_i h2
          have h2' : pl.contains d = false := by simpa using h2
          simp only [Option.map_some, Option.getD_some, h1', h2', Bool.false_eq_true, if_false]
          exact ⟨trivial, rfl⟩
    · simp
  case call c =>
    exfalso
    split at hc
    · split at hc <;> omega
    · omega
theorem aop_ld {lb pl hm : List Nat} {S : Option Hp} {o : Oper} (hc : cls P hm lb pl o = 2 ∨ cls P hm lb pl o = 5) (K : AV → Bx → Hp → Prop) :
    aop P { hm := hm, lb := lb, pl := pl, hs := S } o fr bx h K ↔ ∃ v, LdV P S (cls P hm lb pl o == 5) o fr bx h v ∧ K v bx h := by
  obtain ⟨t, x, ho, h1, h2⟩ := cls_load hc
  unfold aop LdV
  rw [ho]
  simp only
  generalize (cls P hm lb pl o == 5) = st at h2 ⊢
  have hlop : ∀ {x : Option AV} {K : AV → Prop}, aval x K ↔ ∃ v, x = some v ∧ K v := by
    intro x K
    constructor
    · exact aval_some
    · rintro ⟨v, rfl, k⟩; exact k
  have hbox : (if (!(o.dst.map lb.contains).getD false && (o.dst.map pl.contains).getD false) = true then False else aval (lop P fr bx (.load t x)) fun v => K v bx h) ↔
      ∃ v, (match st with | true => False | false => lop P fr bx (.load t x) = some v) ∧ K v bx h := by
    rw [h1, h2]
    cases st with
    | true => simp
    | false => simpa using hlop
  cases hx : ev fr x with
  | none => cases st <;> exact hbox
  | some a => cases a with
    | box k off => cases st <;> exact hbox
    | val p =>
      simp only
      rw [if_neg (by simp [h1])]
      cases st with
      | true =>
        rw [if_pos h2]
        cases S with
        | none =>
          constructor
          · intro k; exact k.elim
          · rintro ⟨_, k, _⟩; exact k.elim
        | some hS =>
          simp only [hstb, HPure]
          constructor
          · rintro ⟨u, hr, k⟩; exact ⟨_, ⟨u, rfl, hr⟩, k⟩
          · rintro ⟨_, ⟨u, rfl, hr⟩, k⟩; exact ⟨u, hr, k⟩
      | false =>
        rw [if_neg (by simp [h2])]
        simp only [HPure]
        constructor
        · rintro ⟨u, hr, k⟩; exact ⟨_, ⟨u, rfl, hr⟩, k⟩
        · rintro ⟨_, ⟨u, rfl, hr⟩, k⟩; exact ⟨u, hr, k⟩
theorem LdV_fun {S : Option Hp} {st : Bool} {o : Oper} {v v' : AV} (hs : ∃ w, Sim h w) (hE : ExtO S h) (h1 : LdV P S st o fr bx h v) (h2 : LdV P S st o fr bx h v') : v = v' := by
  obtain ⟨w, hw⟩ := hs
  unfold LdV at h1 h2
  split at h1
  · rename_i t x ho
    simp only [ho] at h2
    have hb : (match st with | true => False | false => lop P fr bx (.load t x) = some v) → (match st with | true => False | false => lop P fr bx (.load t x) = some v') → v = v' := by
      cases st with
      | true => exact fun k => k.elim
      | false => intro k1 k2; simp only at k1 k2; rw [k1] at k2; simpa using k2
    cases hx : ev fr x with
    | none => simp only [hx] at h1 h2; cases st <;> exact hb h1 h2
    | some a => cases a with
      | box k off => simp only [hx] at h1 h2; cases st <;> exact hb h1 h2
      | val p =>
        simp only [hx] at h1 h2
        cases st with
        | true => cases S with
          | none => exact h1.elim
          | some hS =>
            obtain ⟨u, rfl, r1⟩ := h1
            obtain ⟨u', rfl, r2⟩ := h2
            have hw' : Sim hS w := ⟨fun b o hb => hw.vis b o (hE b o hb)⟩
            have := (r1 w hw').symm.trans (r2 w hw')
            simp at this
            rw [this]
        | false =>
          obtain ⟨u, rfl, r1⟩ := h1
          obtain ⟨u', rfl, r2⟩ := h2
          have := (r1 w hw).symm.trans (r2 w hw)
          simp at this
          rw [this]
  · exact h1.elim
/-- An operation that writes no box. -/
theorem aop_keeps {lb pl hm : List Nat} {S : Option Hp} {o : Oper} (hc : cls P hm lb pl o ≤ 3 ∨ cls P hm lb pl o = 5) {K : AV → Bx → Hp → Prop} {bx0 : Bx} (hb : bx = bx0) (hA : aop P { hm := hm, lb := lb, pl := pl, hs := S } o fr bx h K) :
    aop P { hm := hm, lb := lb, pl := pl, hs := S } o fr bx h (fun v bx' h' => bx' = bx0 ∧ K v bx' h') := by
  by_cases hld : cls P hm lb pl o = 2 ∨ cls P hm lb pl o = 5
  · rw [aop_ld hld] at hA ⊢
    obtain ⟨v, h1, h2⟩ := hA
    exact ⟨v, h1, hb, h2⟩
  have hh : ∀ {s : Sem Value}, hop P S s bx h K → hop P S s bx h (fun v bx' h' => bx' = bx0 ∧ K v bx' h') := fun h1 => HSem.mono h1 fun v h' k => ⟨k.1, hb, k.2⟩
  have hl : ∀ {op : Op}, (aval (lop P fr bx op) fun v => K v bx h) → aval (lop P fr bx op) fun v => bx = bx0 ∧ K v bx h := fun h1 => aval_mono (fun v k => ⟨hb, k⟩) h1
  obtain ⟨dst, op, ty, pos, aft, gd⟩ := o
  cases op <;> simp only [cls] at hc hld <;> simp only [aop] at hA ⊢ <;> try omega
  case alloc t =>
    exfalso
    split at hc
    · split at hc <;> omega
    · omega
  case load t x =>
    split at hA
    · split at hA
      · exact hA.elim
      · rename_i hm
        exfalso
        split at hld
        · rename_i d
          rw [if_neg (by simpa using hm)] at hld
          split at hld <;> omega
        · omega
    · split at hA
      · exact hA.elim
      · rename_i hb; rw [if_neg hb]; exact hl hA
  case convert s d x =>
    refine vval_mono (fun u k => ?_) hA
    split at k
    · exact vval_mono (fun u q => ⟨hb, q⟩) k
    · exact hh k
  case makeFunc fn first captured => exact cval_mono (fun f k => cval_mono (fun c q => ⟨hb, q⟩) k) hA
  case buildSlice t k parts => exact cval_mono (fun f k => hh k) hA
  case makeSlice t l c => exact vval_mono (fun l k => vval_mono (fun c q => hh q) k) hA
  case makeMap t r => cases r with
    | none => exact hh hA
    | some r => exact hl hA
  case lookup t x i ok => exact vval_mono (fun l k => vval_mono (fun c q => hh q) k) hA
  case mapUpdate t x i v => exact vval_mono (fun l k => vval_mono (fun c q => vval_mono (fun v r => hh r) q) k) hA
  case call c =>
    split at hA
    · split at hA
      · split at hA
        · rename_i hm; rw [if_pos hm]; exact vval_mono (fun x k => hh k) hA
        · rename_i hm; rw [if_neg hm]; exact aval_mono (fun v k => ⟨hb, k⟩) hA
      · exact hA.elim
    · exact cval_mono (fun f k => hh k) hA
    · exact cval_mono (fun f k => hh k) hA
    · exact cval_mono (fun f k => hh k) hA
    · refine vval_mono (fun u k => ?_) hA
      split at k
      · exact cval_mono (fun vs q => q.mono fun v h' r => ⟨r.1, hb, r.2⟩) k
      · exact k.elim
    · exact hA.elim
  all_goals exact hl hA
/-- .. and looks at boxes by what they hold alone. -/
theorem aop_more {lb pl hm : List Nat} {S : Option Hp} {o : Oper} (hc : cls P hm lb pl o ≤ 3 ∨ cls P hm lb pl o = 5) {bx1 bx0 bx10 : Bx} (_ : bx = bx0) (hb1 : bx1 = bx10) (hd : ∀ k cs, lkb bx k = some cs → lkb bx1 k = some cs) {Q : AV → Hp → Prop} (hA : aop P { hm := hm, lb := lb, pl := pl, hs := S } o fr bx h (fun v bx' h' => bx' = bx0 ∧ Q v h')) :
    aop P { hm := hm, lb := lb, pl := pl, hs := S } o fr bx1 h (fun v bx' h' => bx' = bx10 ∧ Q v h') := by
  have hlop : ∀ {op : Op} {v : AV}, lop P fr bx op = some v → lop P fr bx1 op = some v := fun {op v} hv => by
    cases op <;> simp only [lop] at hv ⊢ <;> try exact hv
    case load t x =>
      cases hx : ev fr x with
      | none => simp [hx] at hv
      | some a => cases a with
        | val p => simp [hx] at hv
        | box k off =>
          simp only [hx] at hv ⊢
          cases hk : lkb bx k with
          | none => simp [hk] at hv
          | some cs => rw [hd k cs hk]; simpa [hk] using hv
  by_cases hld : cls P hm lb pl o = 2 ∨ cls P hm lb pl o = 5
  · rw [aop_ld hld] at hA ⊢
    obtain ⟨v, h1, _, h2⟩ := hA
    refine ⟨v, ?_, hb1, h2⟩
    unfold LdV at h1 ⊢
    split at h1
    · rename_i t x ho
      cases hx : ev fr x with
      | none =>
        simp only [hx] at h1 ⊢
        cases hst : (cls P hm lb pl o == 5) with
        | true => rw [hst] at h1; exact h1.elim
        | false => rw [hst] at h1; exact hlop h1
      | some a => cases a with
        | val p =>
          simp only [hx] at h1 ⊢
          cases hst : (cls P hm lb pl o == 5) with
          | true => simp only [hst] at h1 ⊢; exact h1
          | false => simp only [hst] at h1 ⊢; exact h1
        | box k off =>
          simp only [hx] at h1 ⊢
          cases hst : (cls P hm lb pl o == 5) with
          | true => rw [hst] at h1; exact h1.elim
          | false => rw [hst] at h1; exact hlop h1
    · exact h1.elim
  have hh : ∀ {s : Sem Value}, hop P S s bx h (fun v bx' h' => bx' = bx0 ∧ Q v h') → hop P S s bx1 h (fun v bx' h' => bx' = bx10 ∧ Q v h') := fun h1 => HSem.mono h1 fun v h' k => ⟨k.1, hb1, k.2.2⟩
  have hl : ∀ {op : Op}, (aval (lop P fr bx op) fun v => bx = bx0 ∧ Q v h) → aval (lop P fr bx1 op) fun v => bx1 = bx10 ∧ Q v h := fun h1 => by
    obtain ⟨v, hv, _, k⟩ := aval_some h1
    rw [hlop hv]
    exact ⟨hb1, k⟩
  obtain ⟨dst, op, ty, pos, aft, gd⟩ := o
  cases op <;> simp only [cls] at hc hld <;> simp only [aop] at hA ⊢ <;> try omega
  case alloc t =>
    exfalso
    split at hc
    · split at hc <;> omega
    · omega
  case load t x =>
    split at hA
    · split at hA
      · exact hA.elim
      · rename_i hm
        exfalso
        split at hld
        · rename_i d
          rw [if_neg (by simpa using hm)] at hld
          split at hld <;> omega
        · omega
    · split at hA
      · exact hA.elim
      · rename_i hbb; rw [if_neg hbb]; exact hl hA
  case convert s d x =>
    refine vval_mono (fun u k => ?_) hA
    split at k
    · exact vval_mono (fun u q => ⟨hb1, q.2⟩) k
    · exact hh k
  case makeFunc fn first captured => exact cval_mono (fun f k => cval_mono (fun c q => ⟨hb1, q.2⟩) k) hA
  case buildSlice t k parts => exact cval_mono (fun f k => hh k) hA
  case makeSlice t l c => exact vval_mono (fun l k => vval_mono (fun c q => hh q) k) hA
  case makeMap t r => cases r with
    | none => exact hh hA
    | some r => exact hl hA
  case lookup t x i ok => exact vval_mono (fun l k => vval_mono (fun c q => hh q) k) hA
  case mapUpdate t x i v => exact vval_mono (fun l k => vval_mono (fun c q => vval_mono (fun v r => hh r) q) k) hA
  case call c =>
    split at hA
    · split at hA
      · split at hA
        · rename_i hm; rw [if_pos hm]; exact vval_mono (fun x k => hh k) hA
        · rename_i hm; rw [if_neg hm]; exact aval_mono (fun v k => ⟨hb1, k.2⟩) hA
      · exact hA.elim
    · exact cval_mono (fun f k => hh k) hA
    · exact cval_mono (fun f k => hh k) hA
    · exact cval_mono (fun f k => hh k) hA
    · refine vval_mono (fun u k => ?_) hA
      split at k
      · exact cval_mono (fun vs q => q.mono fun v h' r => ⟨r.1, hb1, r.2.2⟩) k
      · exact k.elim
    · exact hA.elim
  all_goals exact hl hA
end
end Go.Sx
