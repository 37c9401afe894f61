/-
  A part of the abstract machine over the model's Code, or of the proof that what it shows holds of the model; no program is in sight, and nothing is assumed.
-/
import Derived.Test.YtnlkjbpbkbhpnaaSxSoundF
namespace Go.Sx
open Go
section
variable {P : Program} {h0 h h' : Hp} {w0 w w' : World} {n : Nat} {β : Nat → Nat} {fr fr1 fr' : Fr} {bx bx1 : Bx} {a : Act}

/-! ### What an operation hangs on -/
theorem vals_congr {l : List Operand} (h : ∀ x ∈ l, ev fr x = ev fr' x) : vals (l.map (ev fr)) = vals (l.map (ev fr')) := by
  rw [List.map_congr_left h]

theorem lop_congr {op : Op} (hx : ∀ x ∈ op.operands, ev fr x = ev fr' x) (bx : Bx) : lop P fr bx op = lop P fr' bx op := by
  cases op <;> simp only [Op.operands] at hx <;> simp only [lop]
  case move x => exact hx x (by simp)
  case assign x => exact hx x (by simp)
  case pick c x y => rw [hx c (by simp), hx x (by simp), hx y (by simp)]
  case load t x => rw [hx x (by simp)]
  case nilCheck x => rw [hx x (by simp)]
  case binOp op xt x y yt => rw [hx x (by simp), hx y (by simp)]
  case unOp op xt x => rw [hx x (by simp)]
  case extract x i => rw [hx x (by simp)]
  case build t parts =>
    have : parts.toList.map (fun p => ev fr p.2) = parts.toList.map (fun p => ev fr' p.2) :=
      List.map_congr_left fun p hp => hx p.2 (by simp; exact ⟨p.1, by simpa using hp⟩)
    rw [this]
  case slice t x lo hi mx =>
    split
    · rfl
    · rw [hx x (by simp)]
      have hl : lo.map (ev fr) = lo.map (ev fr') := by cases lo with
        | none => rfl
        | some y => simp only [Option.map_some]; rw [hx y (by simp)]
      have hh : hi.map (ev fr) = hi.map (ev fr') := by cases hi with
        | none => rfl
        | some y => simp only [Option.map_some]; rw [hx y (by simp)]
      rw [hl, hh]
  case fieldAddr s x i => rw [hx x (by simp)]
  case indexAddr t x i => rw [hx x (by simp), hx i (by simp)]
  case index t x i => rw [hx x (by simp), hx i (by simp)]
  case call c =>
    split
    · rename_i x t hb hargs htys
      have hm : x ∈ c.args := by
        have : x ∈ c.args.toList := by rw [hargs]; simp
        simpa using this
      rw [hx x (by simp [Call.operands, hm])]
    · rfl

theorem aop_congr {m : Mo} {o : Oper} (hx : ∀ x ∈ o.op.operands, ev fr x = ev fr' x) (bx : Bx) (h : Hp) (K : AV → Bx → Hp → Prop) :
    aop P m o fr bx h K = aop P m o fr' bx h K := by
  have hl := lop_congr (P := P) hx bx
  obtain ⟨dst, op, ty, pos, aft, gd⟩ := o
  simp only at hx hl
  cases op <;> simp only [aop]
  case box t x => rw [hx x (by simp [Op.operands])]
  case store t x v => rw [hx x (by simp [Op.operands]), hx v (by simp [Op.operands])]
  case load t x => rw [hl, hx x (by simp [Op.operands])]
  case convert s d x => rw [hx x (by simp [Op.operands])]
  case makeFunc fn first captured =>
    rw [vals_congr (l := first.toList) (fun x hm => hx x (by simp [Op.operands]; exact .inl (by simpa using hm))),
      vals_congr (l := captured.toList) (fun x hm => hx x (by simp [Op.operands]; exact .inr (by simpa using hm)))]
  case buildSlice t k parts =>
    have : parts.toList.map (fun p => ev fr p.2) = parts.toList.map (fun p => ev fr' p.2) :=
      List.map_congr_left fun p hp => hx p.2 (by simp [Op.operands]; exact ⟨p.1, by simpa using hp⟩)
    rw [this]
  case makeSlice t l c => rw [hx l (by simp [Op.operands]), hx c (by simp [Op.operands])]
  case makeMap t r => cases r <;> simp only [hl]
  case lookup t x i ok => rw [hx x (by simp [Op.operands]), hx i (by simp [Op.operands])]
  case mapUpdate t x i v => rw [hx x (by simp [Op.operands]), hx i (by simp [Op.operands]), hx v (by simp [Op.operands])]
  case call c =>
    have hargs : ∀ x ∈ c.args.toList, ev fr x = ev fr' x := fun x hm => hx x (by simp [Op.operands, Call.operands]; exact .inr (by simpa using hm))
    split
    · split
      · rename_i x t ha ht
        rw [hargs x (by rw [ha]; simp)]
      · rfl
    · rw [vals_congr hargs]
    · rw [vals_congr hargs]
    · rename_i f hf
      rw [vals_congr hargs, hx f (by simp [Op.operands, Call.operands, hf])]
    · rfl
  all_goals rw [hl]

theorem aval_mono {x : Option AV} {K K' : AV → Prop} (hk : ∀ v, K v → K' v) (h : aval x K) : aval x K' := by
  cases x with
  | none => exact h
  | some v => exact hk v h
theorem vval_mono {x : Option AV} {K K' : Value → Prop} (hk : ∀ v, K v → K' v) (h : vval x K) : vval x K' := by
  obtain ⟨v, rfl, k⟩ := vval_some h
  exact hk v k
theorem cval_mono {x : Option (List Value)} {K K' : List Value → Prop} (hk : ∀ v, K v → K' v) (h : cval x K) : cval x K' := by
  obtain ⟨v, rfl, k⟩ := cval_some h
  exact hk v k
theorem HSem.mono' {s : Sem Value} {K K' : Value → Hp → Prop} (h1 : HSem P s h K) (hk : ∀ v h', (∃ w, Sim h' w) → K v h' → K' v h') : HSem P s h K' :=
  fun w hw => let ⟨v, w', h', e, s1, f1, k⟩ := h1 w hw; ⟨v, w', h', e, s1, f1, hk v h' ⟨w', s1⟩ k⟩
theorem HSem.mono {s : Sem Value} {K K' : Value → Hp → Prop} (h1 : HSem P s h K) (hk : ∀ v h', K v h' → K' v h') : HSem P s h K' := h1.mono' fun v h' _ k => hk v h' k
theorem ACalls.mono' {f : Nat} {args : Array Value} {K K' : Value → Hp → Prop} (h1 : ACalls P f args h K) (hk : ∀ v h', (∃ w, Sim h' w) → K v h' → K' v h') : ACalls P f args h K' :=
  ⟨h1.1, fun w hw => (h1.2 w hw).mono fun _ w' ⟨v, h', e, s, f, k⟩ => ⟨v, h', e, s, f, hk v h' ⟨w', s⟩ k⟩⟩
theorem ACalls.mono {f : Nat} {args : Array Value} {K K' : Value → Hp → Prop} (h1 : ACalls P f args h K) (hk : ∀ v h', K v h' → K' v h') : ACalls P f args h K' := h1.mono' fun v h' _ k => hk v h' k

/-- A stronger end, where the heap is still one of the model's. -/
theorem aop_mono' {m : Mo} {o : Oper} {K K' : AV → Bx → Hp → Prop} (hs : ∃ w, Sim h w) (hk : ∀ v bx' h', (∃ w, Sim h' w) → K v bx' h' → K' v bx' h') (hA : aop P m o fr bx h K) :
    aop P m o fr bx h K' := by
  have hh : ∀ {s : Sem Value}, hop P s bx h K → hop P s bx h K' := fun h1 => HSem.mono' h1 fun v h' hw k => hk _ _ _ hw k
  have hl : ∀ {op : Op}, (aval (lop P fr bx op) fun v => K v bx h) → aval (lop P fr bx op) fun v => K' v bx h := fun h1 => aval_mono (fun v k => hk _ _ _ hs k) h1
  obtain ⟨dst, op, ty, pos, aft, gd⟩ := o
  cases op <;> simp only [aop] at hA ⊢
  case box t x =>
    split at hA
    · exact hA.elim
    · split at hA
      · rename_i hm; rw [if_pos hm]; exact vval_mono (fun v k => hh k) hA
      · rename_i hm; rw [if_neg hm]; exact vval_mono (fun v k => ⟨k.1, hk _ _ _ hs k.2⟩) hA
  case alloc t =>
    split at hA
    · exact hA.elim
    · split at hA
      · rename_i hm; rw [if_pos hm]; exact hh hA
      · rename_i hm; rw [if_neg hm]; exact cval_mono (fun v k => ⟨k.1, hk _ _ _ hs k.2⟩) hA
  case store t x v =>
    refine vval_mono (fun u k => ?_) hA
    split at k
    · exact cval_mono (fun cs q => ⟨q.1, q.2.1, q.2.2.1, hk _ _ _ hs q.2.2.2⟩) k
    · exact hh k
    · exact k.elim
  case load t x =>
    split at hA
    · split at hA
      · exact hA.elim
      · rename_i hm; rw [if_neg hm]; exact hh hA
    · exact hl hA
  case convert s d x =>
    refine vval_mono (fun u k => ?_) hA
    split at k
    · exact vval_mono (fun u q => hk _ _ _ hs q) k
    · exact hh k
  case makeFunc fn first captured => exact cval_mono (fun f k => cval_mono (fun c q => hk _ _ _ hs q) k) hA
  case buildSlice t k parts => exact cval_mono (fun f k => hh k) hA
  case makeSlice t l c => exact vval_mono (fun l k => vval_mono (fun c q => hh q) k) hA
  case makeMap t r => cases r with
    | none => exact hh hA
    | some r => exact hl hA
  case lookup t x i ok => exact vval_mono (fun l k => vval_mono (fun c q => hh q) k) hA
  case mapUpdate t x i v => exact vval_mono (fun l k => vval_mono (fun c q => vval_mono (fun v r => hh r) q) k) hA
  case call c =>
    split at hA
    · split at hA
      · split at hA
        · rename_i hm; rw [if_pos hm]; exact vval_mono (fun x k => hh k) hA
        · rename_i hm; rw [if_neg hm]; exact aval_mono (fun v k => hk _ _ _ hs k) hA
      · exact hA.elim
    · exact cval_mono (fun f k => hh k) hA
    · exact cval_mono (fun f k => hh k) hA
    · refine vval_mono (fun u k => ?_) hA
      split at k
      · exact cval_mono (fun vs q => q.mono' fun v h' hw r => hk _ _ _ hw r) k
      · exact k.elim
    · exact hA.elim
  all_goals exact hl hA

/-- An operation that looks at slots alone, or loads a box. -/
theorem aop_loc {lb hm : List Nat} {o : Oper} (hc : cls P lb o ≤ 1) (K : AV → Bx → Hp → Prop) :
    aop P { hm := hm, lb := lb } o fr bx h K = aval (lop P fr bx o.op) (fun v => K v bx h) := by
  obtain ⟨dst, op, ty, pos, aft, gd⟩ := o
  cases op <;> simp only [cls] at hc <;> simp only [aop] <;> try omega
  case load t x =>
    split at hc
    · rename_i d hd
      split at hc
      · rename_i hm
        split
        · rename_i p hx
          simp only [Option.map_some, Option.getD_some, hm, if_true, lop, hx]
          rfl
        · rfl
      · omega
    · omega
  case call c =>
    split at hc
    · rename_i x t hb ha ht
      split at hc
      · rename_i hk
        simp only [hb, ha, ht]
        rw [if_neg (by omega)]
        simp only [lop, hb, ha, ht]
      · omega
    · omega
theorem lop_bx {lb : List Nat} {o : Oper} (hc : cls P lb o = 0) (bx bx' : Bx) : lop P fr bx o.op = lop P fr bx' o.op := by
  obtain ⟨dst, op, ty, pos, aft, gd⟩ := o
  cases op <;> simp only [cls] at hc <;> simp only [lop] <;> try omega
  case load t x =>
    split at hc
    · split at hc <;> omega
    · omega
/-- An operation that writes no box. -/
theorem aop_keeps {lb hm : List Nat} {o : Oper} (hc : cls P lb o ≤ 2) {K : AV → Bx → Hp → Prop} {bx0 : Bx} (hb : bx = bx0) (hA : aop P { hm := hm, lb := lb } o fr bx h K) :
    aop P { hm := hm, lb := lb } o fr bx h (fun v bx' h' => bx' = bx0 ∧ K v bx' h') := by
  have hh : ∀ {s : Sem Value}, hop P s bx h K → hop P s bx h (fun v bx' h' => bx' = bx0 ∧ K v bx' h') := fun h1 => HSem.mono h1 fun v h' k => ⟨hb, k⟩
  have hl : ∀ {op : Op}, (aval (lop P fr bx op) fun v => K v bx h) → aval (lop P fr bx op) fun v => bx = bx0 ∧ K v bx h := fun h1 => aval_mono (fun v k => ⟨hb, k⟩) h1
  obtain ⟨dst, op, ty, pos, aft, gd⟩ := o
  cases op <;> simp only [cls] at hc <;> simp only [aop] at hA ⊢ <;> try omega
  case load t x =>
    split at hA
    · split at hA
      · exact hA.elim
      · rename_i hm; rw [if_neg hm]; exact hh hA
    · exact hl hA
  case convert s d x =>
    refine vval_mono (fun u k => ?_) hA
    split at k
    · exact vval_mono (fun u q => ⟨hb, q⟩) k
    · exact hh k
  case makeFunc fn first captured => exact cval_mono (fun f k => cval_mono (fun c q => ⟨hb, q⟩) k) hA
  case buildSlice t k parts => exact cval_mono (fun f k => hh k) hA
  case makeSlice t l c => exact vval_mono (fun l k => vval_mono (fun c q => hh q) k) hA
  case makeMap t r => cases r with
    | none => exact hh hA
    | some r => exact hl hA
  case lookup t x i ok => exact vval_mono (fun l k => vval_mono (fun c q => hh q) k) hA
  case mapUpdate t x i v => exact vval_mono (fun l k => vval_mono (fun c q => vval_mono (fun v r => hh r) q) k) hA
  case call c =>
    split at hA
    · split at hA
      · split at hA
        · rename_i hm; rw [if_pos hm]; exact vval_mono (fun x k => hh k) hA
        · rename_i hm; rw [if_neg hm]; exact aval_mono (fun v k => ⟨hb, k⟩) hA
      · exact hA.elim
    · exact cval_mono (fun f k => hh k) hA
    · exact cval_mono (fun f k => hh k) hA
    · refine vval_mono (fun u k => ?_) hA
      split at k
      · exact cval_mono (fun vs q => q.mono fun v h' r => ⟨hb, r⟩) k
      · exact k.elim
    · exact hA.elim
  all_goals exact hl hA
end
end Go.Sx
