/-
  A part of the abstract machine over the model's Code, or of the proof that what it shows holds of the model; no program is in sight, and nothing is assumed.
-/
import Derived.Test.YtccjkhnefiikaaaGreatDoorSxSoundG
namespace Go.Sx
open Go
section
variable {P : Program} {h0 h h' : Hp} {w0 w w' : World} {n : Nat} {β : Nat → Nat} {fr fr1 fr' : Fr} {bx bx1 : Bx} {a : Act} {ops : Array Oper} {hm lb pl : List Nat} {S : Option Hp}

def Feq (fr fr' : Fr) : Prop := ∀ i, lk fr i = lk fr' i
theorem Feq.ev_ (e : Feq fr fr') (x : Operand) : ev fr x = ev fr' x := by
  cases x <;> simp only [ev]
  exact e _
theorem Feq.put_ (e : Feq fr fr') (d : Option Nat) (v : AV) : Feq (put fr d v) (put fr' d v) := fun i => by
  rw [lk_put, lk_put, e i]
theorem Feq.symm' (e : Feq fr fr') : Feq fr' fr := fun i => (e i).symm
theorem put_comm' (fr : Fr) {x y : Option Nat} (h : ∀ d, x = some d → y ≠ some d) (v u : AV) : Feq (put (put fr x v) y u) (put (put fr y u) x v) := fun i => by
  simp only [lk_put]
  by_cases hx : x = some i
  · by_cases hy : y = some i
    · exact absurd hy (h i hx)
    · simp [hx, hy]
  · simp [hx]
theorem Rel.feq (R : Rel h0 w0 n β fr bx h a w) (e : Feq fr fr') : Rel h0 w0 n β fr' bx h a w where
  tmps := fun i v hv => R.tmps i v ((e i).trans hv)
  boxes := R.boxes
  defers := R.defers
  size := R.size
  sim := R.sim
  frm := R.frm
  priv := R.priv
  inj := R.inj
  refs := fun i k off hv => R.refs i k off ((e i).trans hv)

def Beq (bx bx' : Bx) : Prop := ∀ j, lkb bx j = lkb bx' j
theorem Beq.cons (e : Beq bx bx1) (k : Nat) (c : List Value) : Beq ((k, c) :: bx) ((k, c) :: bx1) := fun j => by
  simp only [lkb]
  rw [e j]
theorem Beq.setb_ (e : Beq bx bx1) (k : Nat) (x : List Value) : Beq (setb bx k x) (setb bx1 k x) := fun j => by
  rw [lkb_setb, lkb_setb, e j, e k]
theorem lop_beq (e : Beq bx bx1) (op : Op) : lop P fr bx op = lop P fr bx1 op := by
  cases op <;> simp only [lop]
  case load t x =>
    split
    · rw [e]
    · rfl
theorem Rel.beq (R : Rel h0 w0 n β fr bx h a w) (e : Beq bx bx1) : Rel h0 w0 n β fr bx1 h a w where
  tmps := R.tmps
  boxes := fun k cs hk => R.boxes k cs ((e k).trans hk)
  defers := R.defers
  size := R.size
  sim := R.sim
  frm := R.frm
  priv := fun k cs hk => R.priv k cs ((e k).trans hk)
  inj := fun k k' cs cs' h1 h2 => R.inj k k' cs cs' ((e k).trans h1) ((e k').trans h2)
  refs := fun i k off hv => by
    obtain ⟨cs, hc⟩ := R.refs i k off hv
    exact ⟨cs, (e k).symm.trans hc⟩
theorem aop_beq {m : Mo} {o : Oper} {K : AV → Bx → Hp → Prop} (e : Beq bx bx1) (hk : ∀ v b b1 h', Beq b b1 → K v b h' → K v b1 h') (hA : aop P m o fr bx h K) :
    aop P m o fr bx1 h K := by
  have hh : ∀ {s : Sem Value}, hop P m.hs s bx h K → hop P m.hs s bx1 h K := fun h1 => HSem.mono h1 fun v h' k => ⟨k.1, hk _ _ _ _ e k.2⟩
  have hl : ∀ {op : Op}, (aval (lop P fr bx op) fun v => K v bx h) → aval (lop P fr bx1 op) fun v => K v bx1 h := fun {op} h1 => by
    rw [← lop_beq (P := P) (fr := fr) e op]
    exact aval_mono (fun v k => hk _ _ _ _ e k) h1
  obtain ⟨dst, op, ty, pos, aft, gd⟩ := o
  cases op <;> simp only [aop] at hA ⊢
  case box t x =>
    split at hA
    · exact hA.elim
    · split at hA
      · rename_i hm; rw [if_pos hm]; exact vval_mono (fun v k => hh k) hA
      · rename_i hm; rw [if_neg hm]; exact vval_mono (fun v k => ⟨(e _).symm.trans k.1, hk _ _ _ _ (e.cons _ _) k.2⟩) hA
  case alloc t =>
    split at hA
    · exact hA.elim
    · split at hA
      · rename_i hm; rw [if_pos hm]; exact hh hA
      · rename_i hm; rw [if_neg hm]; exact cval_mono (fun v k => ⟨(e _).symm.trans k.1, hk _ _ _ _ (e.cons _ _) k.2⟩) hA
  case store t x v =>
    refine vval_mono (fun u k => ?_) hA
    split at k
    · rw [← e]; exact cval_mono (fun cs q => ⟨q.1, q.2.1, q.2.2.1, hk _ _ _ _ (e.setb_ _ _) q.2.2.2⟩) k
    · exact hh k
    · exact k.elim
  case load t x =>
    split at hA
    · split at hA
      · exact hA.elim
      · rename_i hm
        rw [if_neg hm]
        split at hA
        · rename_i hp
          rw [if_pos hp]
          unfold hstb at hA ⊢
          split at hA
          · obtain ⟨v, hr, k⟩ := hA
            exact ⟨v, hr, hk _ _ _ _ e k⟩
          · exact hA.elim
        · rename_i hp
          rw [if_neg hp]
          obtain ⟨v, hr, k⟩ := hA
          exact ⟨v, hr, hk _ _ _ _ e k⟩
    · split at hA
      · exact hA.elim
      · rename_i hb; rw [if_neg hb]; exact hl hA
  case convert s d x =>
    refine vval_mono (fun u k => ?_) hA
    split at k
    · exact vval_mono (fun u q => hk _ _ _ _ e q) k
    · exact hh k
  case makeFunc fn first captured => exact cval_mono (fun f k => cval_mono (fun c q => hk _ _ _ _ e q) k) hA
  case buildSlice t k parts => exact cval_mono (fun f k => hh k) hA
  case makeSlice t l c => exact vval_mono (fun l k => vval_mono (fun c q => hh q) k) hA
  case makeMap t r => cases r with
    | none => exact hh hA
    | some r => exact hl hA
  case lookup t x i ok => exact vval_mono (fun l k => vval_mono (fun c q => hh q) k) hA
  case mapUpdate t x i v => exact vval_mono (fun l k => vval_mono (fun c q => vval_mono (fun v r => hh r) q) k) hA
  case call c =>
    split at hA
    · split at hA
      · split at hA
        · rename_i hm; rw [if_pos hm]; exact vval_mono (fun x k => hh k) hA
        · rename_i hm; rw [if_neg hm]; exact aval_mono (fun v k => hk _ _ _ _ e k) hA
      · exact hA.elim
    · exact cval_mono (fun f k => hh k) hA
    · exact cval_mono (fun f k => hh k) hA
    · exact cval_mono (fun f k => hh k) hA
    · refine vval_mono (fun u k => ?_) hA
      split at k
      · exact cval_mono (fun vs q => q.mono fun v h' r => ⟨r.1, hk _ _ _ _ e r.2⟩) k
      · exact k.elim
    · exact hA.elim
  all_goals exact hl hA


/-- Is the operation carried out? -/
def wnt (ops : Array Oper) (o : Oper) (fr : Fr) : Option Bool :=
  match o.guard with
  | none => some true
  | some (j, want) => match (ops[j]?).bind (·.dst) with
    | none => none
    | some t => match lk fr t with
      | some (.val (.bool b)) => some (b == want)
      | some (.val (.tuple _)) => some false
      | _ => none
def sstep (P : Program) (m : Mo) (ops : Array Oper) (o : Oper) (K : Fr → Bx → Hp → Prop) (fr : Fr) (bx : Bx) (h : Hp) : Prop :=
  match wnt ops o fr with
  | some true => aop P m o fr bx h fun v bx' h' => K (put fr o.dst v) bx' h'
  | some false => K (put fr o.dst (.val undef)) bx h
  | none => False
def srun (P : Program) (m : Mo) (ops : Array Oper) : List Oper → (Fr → Bx → Hp → Prop) → Fr → Bx → Hp → Prop
  | [], K, fr, bx, h => K fr bx h
  | o :: rest, K, fr, bx, h => sstep P m ops o (srun P m ops rest K) fr bx h

def Clo (K : Fr → Bx → Hp → Prop) : Prop := (∀ fr fr' bx h, Feq fr fr' → K fr bx h → K fr' bx h) ∧ ∀ fr bx bx' h, Beq bx bx' → K fr bx h → K fr bx' h
theorem wnt_feq (e : Feq fr fr') (o : Oper) : wnt ops o fr = wnt ops o fr' := by
  unfold wnt
  split
  · rfl
  · split
    · rfl
    · rw [e]
theorem sstep_clo {m : Mo} {o : Oper} {K : Fr → Bx → Hp → Prop} (hK : Clo K) : Clo (sstep P m ops o K) := ⟨fun fr fr' bx h e hs => by
  unfold sstep at *
  rw [← wnt_feq e]
  split
  · rename_i hw
    rw [hw] at hs
    simp only at hs
    rw [aop_congr (fr' := fr) (fun x _ => (e.ev_ x).symm)]
    have : (fun v bx' h' => K (put fr o.dst v) bx' h') = fun v bx' h' => K (put fr' o.dst v) bx' h' := by
      funext v bx' h'
      exact propext ⟨hK.1 _ _ _ _ (e.put_ _ _), hK.1 _ _ _ _ (e.put_ _ _).symm'⟩
    rw [← this]
    exact hs
  · rename_i hw; rw [hw] at hs; exact hK.1 _ _ _ _ (e.put_ _ _) hs
  · rename_i hw; rw [hw] at hs; exact hs, fun fr bx bx' h e hs => by
  unfold sstep at *
  split
  · rename_i hw; rw [hw] at hs; exact aop_beq e (fun v b b1 h' e k => hK.2 _ _ _ _ e k) hs
  · rename_i hw; rw [hw] at hs; exact hK.2 _ _ _ _ e hs
  · rename_i hw; rw [hw] at hs; exact hs⟩
theorem srun_clo {m : Mo} {K : Fr → Bx → Hp → Prop} (hK : Clo K) : ∀ l, Clo (srun P m ops l K)
  | [] => hK
  | o :: l => by
    have := sstep_clo (P := P) (m := m) (ops := ops) (o := o) (srun_clo (m := m) hK l)
    exact this
theorem sstep_mono' {m : Mo} {o : Oper} {K K' : Fr → Bx → Hp → Prop} (hs : Gd m h) (hk : ∀ fr bx h, Gd m h → K fr bx h → K' fr bx h) (hA : sstep P m ops o K fr bx h) : sstep P m ops o K' fr bx h := by
  unfold sstep at *
  split
  · rename_i hw; rw [hw] at hA; exact aop_mono' hs (fun v bx' h' hw k => hk _ _ _ hw k) hA
  · rename_i hw; rw [hw] at hA; exact hk _ _ _ hs hA
  · rename_i hw; rw [hw] at hA; exact hA

/-! ### Two operations change places -/
theorem wnt_put {x y : Oper} (hap : x.apart ops y = true) (v : AV) : wnt ops y (put fr x.dst v) = wnt ops y fr := by
  obtain ⟨h1, h2, h3⟩ := Oper.apart_spec hap
  unfold wnt
  split
  · rfl
  · rename_i j want hg
    split
    · rfl
    · rename_i t ht
      rw [lk_put]
      rw [if_neg]
      intro e
      exact h1 t e (by simp [Oper.looksAt, hg, ht])
theorem wnt_put' {x y : Oper} (hap : x.apart ops y = true) (v : AV) : wnt ops x (put fr y.dst v) = wnt ops x fr := by
  obtain ⟨h1, h2, h3⟩ := Oper.apart_spec hap
  unfold wnt
  split
  · rfl
  · rename_i j want hg
    split
    · rfl
    · rename_i t ht
      rw [lk_put]
      rw [if_neg]
      intro e
      exact h3 t e (by simp [Oper.looksAt, hg, ht])
theorem ev_put {d : Option Nat} {v : AV} {x : Operand} (h : ∀ k, d = some k → x ≠ .tmp k) : ev (put fr d v) x = ev fr x := by
  cases x with
  | tmp t =>
    simp only [ev, lk_put]
    rw [if_neg]
    intro e
    exact h t e rfl
  | const c => rfl
  | global g => rfl
  | func f => rfl
theorem ops_put {x y : Oper} (hap : x.apart ops y = true) (v : AV) : ∀ z ∈ y.op.operands, ev (put fr x.dst v) z = ev fr z := by
  obtain ⟨h1, h2, h3⟩ := Oper.apart_spec hap
  intro z hz
  refine ev_put fun k hk e => h1 k hk ?_
  subst e
  exact List.mem_append_left _ (List.mem_filterMap.2 ⟨.tmp k, by simpa using hz, rfl⟩)
theorem ops_put' {x y : Oper} (hap : x.apart ops y = true) (v : AV) : ∀ z ∈ x.op.operands, ev (put fr y.dst v) z = ev fr z := by
  obtain ⟨h1, h2, h3⟩ := Oper.apart_spec hap
  intro z hz
  refine ev_put fun k hk e => h3 k hk ?_
  subst e
  exact List.mem_append_left _ (List.mem_filterMap.2 ⟨.tmp k, by simpa using hz, rfl⟩)

theorem lop_keep {o : Oper} {bx bx' : Bx} {q : Nat} (hc : cls P hm lb pl o = 0 ∨ (cls P hm lb pl o = 1 ∧ (q ≤ 3 ∨ q = 5))) (hb : (q ≤ 3 ∨ q = 5) → bx' = bx) : lop P fr bx' o.op = lop P fr bx o.op := by
  rcases hc with h | ⟨_, h⟩
  · exact lop_bx h _ _
  · rw [hb h]

theorem aop_exists {m : Mo} {o : Oper} {K : AV → Bx → Hp → Prop} (hs : Gd m h) (hA : aop P m o fr bx h K) : ∃ v bx' h', K v bx' h' ∧ Gd m h' := by
  -- an operation that always ends: read off by the strongest end that holds nowhere else
  apply Classical.byContradiction
  intro hn
  have h1 : aop P m o fr bx h (fun _ _ _ => False) := aop_mono' hs (fun v bx' h' hw k => hn ⟨v, bx', h', k, hw⟩) hA
  clear hA hn
  obtain ⟨⟨w, hw⟩, hE⟩ := hs
  have hh : ∀ {s : Sem Value}, ¬ hop P m.hs s bx h (fun _ _ _ => False) := fun h1 => by
    obtain ⟨_, _, _, _, _, _, _, k⟩ := h1 w hw
    exact k
  have hl : ∀ {x : Option AV}, ¬ aval x (fun _ => False) := fun h1 => by
    obtain ⟨_, _, k⟩ := aval_some h1
    exact k
  obtain ⟨dst, op, ty, pos, aft, gd⟩ := o
  cases op <;> simp only [aop] at h1
  case box t x =>
    split at h1
    · exact h1
    · split at h1
      · obtain ⟨_, _, k⟩ := vval_some h1; exact hh k
      · obtain ⟨_, _, k⟩ := vval_some h1; exact k.2
  case alloc t =>
    split at h1
    · exact h1
    · split at h1
      · exact hh h1
      · obtain ⟨_, _, k⟩ := cval_some h1; exact k.2
  case store t x v =>
    obtain ⟨_, _, k⟩ := vval_some h1
    split at k
    · obtain ⟨_, _, k⟩ := cval_some k; exact k.2.2.2
    · exact hh k
    · exact k
  case load t x =>
    split at h1
    · split at h1
      · exact h1
      · split at h1
        · unfold hstb at h1
          split at h1
          · obtain ⟨_, _, k⟩ := h1; exact k
          · exact h1
        · obtain ⟨_, _, k⟩ := h1; exact k
    · split at h1
      · exact h1
      · exact hl h1
  case convert s d x =>
    obtain ⟨_, _, k⟩ := vval_some h1
    split at k
    · obtain ⟨_, _, k⟩ := vval_some k; exact k
    · exact hh k
  case makeFunc fn first captured => obtain ⟨_, _, k⟩ := cval_some h1; obtain ⟨_, _, k⟩ := cval_some k; exact k
  case buildSlice t k parts => obtain ⟨_, _, k⟩ := cval_some h1; exact hh k
  case makeSlice t l c => obtain ⟨_, _, k⟩ := vval_some h1; obtain ⟨_, _, k⟩ := vval_some k; exact hh k
  case makeMap t r => cases r with
    | none => exact hh h1
    | some r => exact hl h1
  case lookup t x i ok => obtain ⟨_, _, k⟩ := vval_some h1; obtain ⟨_, _, k⟩ := vval_some k; exact hh k
  case mapUpdate t x i v => obtain ⟨_, _, k⟩ := vval_some h1; obtain ⟨_, _, k⟩ := vval_some k; obtain ⟨_, _, k⟩ := vval_some k; exact hh k
  case call c =>
    split at h1
    · split at h1
      · split at h1
        · obtain ⟨_, _, k⟩ := vval_some h1; exact hh k
        · exact hl h1
      · exact h1
    · obtain ⟨_, _, k⟩ := cval_some h1; exact hh k
    · obtain ⟨_, _, k⟩ := cval_some h1; exact hh k
    · obtain ⟨_, _, k⟩ := cval_some h1; exact hh k
    · obtain ⟨_, _, k⟩ := vval_some h1
      split at k
      · obtain ⟨_, _, k⟩ := cval_some k
        rcases k with k | k
        · obtain ⟨e, w', fr, ⟨_, _, _, _, _, _, k⟩, _⟩ := k.2 w hw []
          exact k
        · obtain ⟨_, _, _, k⟩ := k w hw
          exact k
      · exact k
    · exact h1
  all_goals exact hl h1

theorem cls_new {o : Oper} (hc : cls P hm lb pl o = 6) : ∃ d t, o.dst = some d ∧ o.op = .alloc t ∧ hm.contains d = false := by
  obtain ⟨dst, op, ty, pos, aft, gd⟩ := o
  cases op <;> simp only [cls] at hc <;> try omega
  case load t x =>
    split at hc
    · split at hc
      · omega
      · split at hc <;> omega
    · omega
  case call c =>
    split at hc
    · split at hc <;> omega
    · omega
  case alloc t =>
    split at hc
    · rename_i d
      split at hc
      · omega
      · rename_i hm'; exact ⟨d, t, rfl, rfl, by simpa using hm'⟩
    · omega
theorem aop_new {o : Oper} {d t : Nat} (hd : o.dst = some d) (ho : o.op = .alloc t) (hn : hm.contains d = false) (bx : Bx) (h : Hp) (K : AV → Bx → Hp → Prop) :
    aop P ⟨hm, lb, pl, S⟩ o fr bx h K ↔ ∃ z, zeroC P t = some z ∧ lkb bx d = none ∧ K (.box d 0) ((d, z) :: bx) h := by
  unfold aop
  rw [ho]
  simp only [hd]
  rw [if_neg (by rw [hn]; simp)]
  constructor
  · intro k
    obtain ⟨z, hz, k⟩ := cval_some k
    exact ⟨z, hz, k⟩
  · rintro ⟨z, hz, k⟩
    rw [hz]
    exact k
theorem swap {x y : Oper} (hap : x.apart ops y = true) (hc : compat (cls P hm lb pl x) (cls P hm lb pl y) = true) {K : Fr → Bx → Hp → Prop} (hK : Clo K) (hs : Gd ⟨hm, lb, pl, S⟩ h)
    (hA : sstep P ⟨hm, lb, pl, S⟩ ops x (sstep P ⟨hm, lb, pl, S⟩ ops y K) fr bx h) :
    sstep P ⟨hm, lb, pl, S⟩ ops y (sstep P ⟨hm, lb, pl, S⟩ ops x K) fr bx h := by
  have hcomm : ∀ fr v u, Feq (put (put fr x.dst v) y.dst u) (put (put fr y.dst u) x.dst v) := fun fr v u => put_comm' fr (Oper.apart_spec hap).2.1 v u
  unfold sstep at hA ⊢
  cases hwx : wnt ops x fr with
  | none => simp only [hwx] at hA
  | some bX =>
    simp only [hwx] at hA
    cases bX with
    | false =>
      simp only [wnt_put hap] at hA
      cases hwy : wnt ops y fr with
      | none => simp only [hwy] at hA
      | some bY =>
        cases bY with
        | false =>
          simp only [hwy] at hA
          simp only [wnt_put' hap, hwx]
          exact hK.1 _ _ _ _ (hcomm _ _ _) hA
        | true =>
          simp only [hwy] at hA
          simp only [wnt_put' hap, hwx]
          rw [aop_congr (ops_put hap _)] at hA
          exact aop_mono' hs (fun v bx' h' _ k => hK.1 _ _ _ _ (hcomm _ _ _) k) hA
    | true =>
      simp only [wnt_put hap] at hA
      cases hwy : wnt ops y fr with
      | none =>
        simp only [hwy] at hA
        obtain ⟨_, _, _, k, _⟩ := aop_exists hs hA
        exact k.elim
      | some bY =>
        cases bY with
        | false =>
          simp only [hwy] at hA
          simp only [wnt_put' hap, hwx]
          rw [aop_congr (ops_put' hap _)]
          exact aop_mono' hs (fun v bx' h' _ k => hK.1 _ _ _ _ (hcomm _ _ _) k) hA
        | true =>
          simp only [hwy] at hA
          simp only [wnt_put' hap, hwx]
          have hA1 : aop P ⟨hm, lb, pl, S⟩ x fr bx h fun v bx' h' => aop P ⟨hm, lb, pl, S⟩ y fr bx' h' fun u bx'' h'' => K (put (put fr x.dst v) y.dst u) bx'' h'' :=
            aop_mono' hs (fun v bx' h' _ k => by rwa [aop_congr (ops_put hap _)] at k) hA
          have goal : aop P ⟨hm, lb, pl, S⟩ y fr bx h fun u bx' h' => aop P ⟨hm, lb, pl, S⟩ x fr bx' h' fun v bx'' h'' => K (put (put fr y.dst u) x.dst v) bx'' h'' := by
            have hcc : compat (cls P hm lb pl x) (cls P hm lb pl y) = true := hc
            simp only [compat, Bool.or_eq_true, Bool.and_eq_true, beq_iff_eq, Nat.ble_eq] at hcc
            have cx5 : cls P hm lb pl x ≤ 6 := cls_le _ _ _ _ _
            have cy5 : cls P hm lb pl y ≤ 6 := cls_le _ _ _ _ _
            by_cases hx1 : cls P hm lb pl x ≤ 1 ∧ (cls P hm lb pl x = 0 ∨ cls P hm lb pl y ≤ 3 ∨ cls P hm lb pl y = 5)
            · -- x looks at slots and boxes alone
              have hx : cls P hm lb pl x = 0 ∨ (cls P hm lb pl x = 1 ∧ (cls P hm lb pl y ≤ 3 ∨ cls P hm lb pl y = 5)) := by omega
              rw [aop_loc hx1.1] at hA1
              obtain ⟨v, hv, hA2⟩ := aval_some hA1
              have hA3 : aop P ⟨hm, lb, pl, S⟩ y fr bx h fun u bx' h' => ((cls P hm lb pl y ≤ 3 ∨ cls P hm lb pl y = 5) → bx' = bx) ∧ K (put (put fr x.dst v) y.dst u) bx' h' := by
                by_cases hy : cls P hm lb pl y ≤ 3 ∨ cls P hm lb pl y = 5
                · exact aop_mono' hs (fun v bx' h' _ k => ⟨fun _ => k.1, k.2⟩) (aop_keeps hy rfl hA2)
                · exact aop_mono' hs (fun v bx' h' _ k => ⟨fun e => absurd e hy, k⟩) hA2
              refine aop_mono' hs (fun u bx' h' _ k => ?_) hA3
              rw [aop_loc hx1.1, lop_keep hx k.1, hv]
              exact hK.1 _ _ _ _ (hcomm _ _ _) k.2
            · by_cases hy1 : cls P hm lb pl y ≤ 1 ∧ (cls P hm lb pl y = 0 ∨ cls P hm lb pl x ≤ 3 ∨ cls P hm lb pl x = 5)
              · have hy : cls P hm lb pl y = 0 ∨ (cls P hm lb pl y = 1 ∧ (cls P hm lb pl x ≤ 3 ∨ cls P hm lb pl x = 5)) := by omega
                have hA3 : aop P ⟨hm, lb, pl, S⟩ x fr bx h fun v bx' h' => ((cls P hm lb pl x ≤ 3 ∨ cls P hm lb pl x = 5) → bx' = bx) ∧ aval (lop P fr bx y.op) fun u => K (put (put fr x.dst v) y.dst u) bx' h' := by
                  have step : aop P ⟨hm, lb, pl, S⟩ x fr bx h fun v bx' h' => ((cls P hm lb pl x ≤ 3 ∨ cls P hm lb pl x = 5) → bx' = bx) ∧ aop P ⟨hm, lb, pl, S⟩ y fr bx' h' fun u bx'' h'' => K (put (put fr x.dst v) y.dst u) bx'' h'' := by
                    by_cases hx : cls P hm lb pl x ≤ 3 ∨ cls P hm lb pl x = 5
                    · exact aop_mono' hs (fun v bx' h' _ k => ⟨fun _ => k.1, k.2⟩) (aop_keeps hx rfl hA1)
                    · exact aop_mono' hs (fun v bx' h' _ k => ⟨fun e => absurd e hx, k⟩) hA1
                  refine aop_mono' hs (fun v bx' h' _ k => ⟨k.1, ?_⟩) step
                  have k2 := k.2
                  rw [aop_loc hy1.1, lop_keep hy k.1] at k2
                  exact k2
                obtain ⟨_, _, _, ⟨_, k⟩, _⟩ := aop_exists hs hA3
                obtain ⟨u, hu, _⟩ := aval_some k
                rw [aop_loc hy1.1, hu]
                refine aop_mono' hs (fun v bx' h' _ k => ?_) hA3
                have k2 := k.2
                rw [hu] at k2
                exact hK.1 _ _ _ _ (hcomm _ _ _) k2
              · -- one of the two is a load of the heap, or a new box
                by_cases h66 : cls P hm lb pl x = 6 ∧ cls P hm lb pl y = 6
                · obtain ⟨d1, t1, hd1, ho1, hn1⟩ := cls_new h66.1
                  obtain ⟨d2, t2, hd2, ho2, hn2⟩ := cls_new h66.2
                  rw [aop_new hd1 ho1 hn1] at hA1
                  obtain ⟨z1, hz1, hf1, hA2⟩ := hA1
                  rw [aop_new hd2 ho2 hn2] at hA2
                  obtain ⟨z2, hz2, hf2, hA3⟩ := hA2
                  have hne : ¬ d1 = d2 := fun q => by
                    subst q
                    simp [lkb] at hf2
                  have b1 : (d1 == d2) = false := by simpa using hne
                  have b2 : (d2 == d1) = false := by simpa using fun q : d2 = d1 => hne q.symm
                  rw [aop_new hd2 ho2 hn2]
                  refine ⟨z2, hz2, ?_, ?_⟩
                  · simp only [lkb, b1, cond_false] at hf2
                    exact hf2
                  rw [aop_new hd1 ho1 hn1]
                  refine ⟨z1, hz1, ?_, hK.1 _ _ _ _ (hcomm _ _ _) (hK.2 _ _ _ _ (fun j => ?_) hA3)⟩
                  · simp only [lkb, b2, cond_false]
                    exact hf1
                  · simp only [lkb]
                    by_cases q1 : d1 = j
                    · subst q1
                      simp [b2]
                    · have c1 : (d1 == j) = false := by simpa using q1
                      simp only [c1, cond_false]
                by_cases hy6 : cls P hm lb pl y = 6 ∧ cls P hm lb pl x ≤ 3
                · have hk3 : cls P hm lb pl x ≤ 3 ∨ cls P hm lb pl x = 5 := .inl hy6.2
                  obtain ⟨d, t, hdst, hop, hnm⟩ := cls_new hy6.1
                  have ya : ∀ (bx : Bx) (h : Hp) (K : AV → Bx → Hp → Prop), aop P ⟨hm, lb, pl, S⟩ y fr bx h K ↔ ∃ z, zeroC P t = some z ∧ lkb bx d = none ∧ K (.box d 0) ((d, z) :: bx) h := aop_new hdst hop hnm
                  have hA2 : aop P ⟨hm, lb, pl, S⟩ x fr bx h fun v bx' h' => bx' = bx ∧ ∃ z, zeroC P t = some z ∧ lkb bx d = none ∧ K (put (put fr x.dst v) y.dst (.box d 0)) ((d, z) :: bx) h' := by
                    refine aop_mono' hs (fun v bx' h' _ k => ?_) (aop_keeps hk3 rfl hA1)
                    obtain ⟨rfl, k⟩ := k
                    exact ⟨rfl, (ya _ _ _).1 k⟩
                  obtain ⟨_, _, _, ⟨_, z, hz, hn, _⟩, _⟩ := aop_exists hs hA2
                  rw [ya]
                  refine ⟨z, hz, hn, ?_⟩
                  refine aop_mono' hs (fun v bx' h' _ k => ?_) (aop_more hk3 (bx1 := (d, z) :: bx) rfl rfl (fun k cs hk => ?_) hA2)
                  · obtain ⟨rfl, z', hz', _, k⟩ := k
                    rw [hz] at hz'
                    cases hz'
                    exact hK.1 _ _ _ _ (hcomm _ _ _) k
                  · simp only [lkb]
                    by_cases hdk : d = k
                    · subst hdk; rw [hn] at hk; cases hk
                    · have : (d == k) = false := by simpa using hdk
                      rw [this]; exact hk
                by_cases hxl : cls P hm lb pl x = 5 ∨ (cls P hm lb pl x = 2 ∧ cls P hm lb pl y = 2)
                · have hx2 : cls P hm lb pl x = 2 ∨ cls P hm lb pl x = 5 := by omega
                  rw [aop_ld hx2] at hA1
                  obtain ⟨v, hv, hA2⟩ := hA1
                  rcases hxl with hx5 | ⟨hx2', hy2⟩
                  · refine aop_mono' hs (fun u bx' h' _ k => ?_) hA2
                    rw [aop_ld hx2]
                    refine ⟨v, ?_, hK.1 _ _ _ _ (hcomm _ _ _) k⟩
                    rw [hx5] at hv ⊢
                    exact LdV_still hv
                  · rw [aop_ld (.inl hy2)] at hA2 ⊢
                    obtain ⟨u, hu, k⟩ := hA2
                    refine ⟨u, hu, ?_⟩
                    rw [aop_ld hx2]
                    exact ⟨v, hv, hK.1 _ _ _ _ (hcomm _ _ _) k⟩
                · have hy5 : cls P hm lb pl y = 5 := by omega
                  have hy2 : cls P hm lb pl y = 2 ∨ cls P hm lb pl y = 5 := by omega
                  have hA3 : aop P ⟨hm, lb, pl, S⟩ x fr bx h fun v bx' h' => ∃ u, LdV P S true y fr bx h u ∧ K (put (put fr x.dst v) y.dst u) bx' h' := by
                    refine aop_mono' hs (fun v bx' h' _ k => ?_) hA1
                    rw [aop_ld hy2] at k
                    obtain ⟨u, hu, k⟩ := k
                    rw [hy5] at hu
                    exact ⟨u, LdV_still hu, k⟩
                  obtain ⟨_, _, _, ⟨u, hu, _⟩, _⟩ := aop_exists hs hA3
                  rw [aop_ld hy2]
                  refine ⟨u, by rw [hy5]; exact hu, ?_⟩
                  refine aop_mono' hs (fun v bx' h' _ k => ?_) hA3
                  obtain ⟨u', hu', k⟩ := k
                  rw [LdV_fun hs.1 hs.2 hu hu']
                  exact hK.1 _ _ _ _ (hcomm _ _ _) k
          exact aop_mono' hs (fun u bx' h' _ k => by rw [aop_congr (ops_put' hap _)]; exact k) goal

theorem bubble {y : Oper} {K : Fr → Bx → Hp → Prop} (hK : Clo K) (l2 : List Oper) : ∀ (l1 : List Oper) (fr : Fr) (bx : Bx) (h : Hp), Gd ⟨hm, lb, pl, S⟩ h →
    (∀ x ∈ l1, x.apart ops y = true ∧ compat (cls P hm lb pl x) (cls P hm lb pl y) = true) → srun P ⟨hm, lb, pl, S⟩ ops (l1 ++ y :: l2) K fr bx h →
    sstep P ⟨hm, lb, pl, S⟩ ops y (srun P ⟨hm, lb, pl, S⟩ ops (l1 ++ l2) K) fr bx h
  | [], fr, bx, h, _, _, hA => hA
  | x :: l1, fr, bx, h, hs, hall, hA => by
    have h1 : sstep P ⟨hm, lb, pl, S⟩ ops x (sstep P ⟨hm, lb, pl, S⟩ ops y (srun P ⟨hm, lb, pl, S⟩ ops (l1 ++ l2) K)) fr bx h :=
      sstep_mono' hs (fun fr bx h hw k => bubble hK l2 l1 fr bx h hw (fun z hz => hall z (by simp [hz])) k) hA
    exact swap (hall x (by simp)).1 (hall x (by simp)).2 (srun_clo hK _) hs h1
end
end Go.Sx
