/-
  A part of the abstract machine over the model's Code, or of the proof that what it shows holds of the model; no program is in sight, and nothing is assumed.
-/
import Derived.Test.YtccjkhnefiikaaaGreatDoorSxSoundJ
/-! The rules by which a proof runs the abstract machine: 'simp only [go_sem]'. -/
namespace Go.Sx
open Go
section
variable {P : Program} {hm : List Nat} {m : Mo} {fr : Fr} {bx : Bx} {h : Hp} {Q : Post} {K : Fr → Bx → Hp → Prop} {k : AV → Bx → Hp → Prop} {ops : Array Oper} {o : Oper} {l : List Oper}
  {d : Option Nat} {hs : Option Hp} {ty : Nat} {pos : String} {aft : Array Edge} {g : Option (Nat × Bool)} {x y z : Operand}

/-! Continuations without a lambda, so that nothing behind the step at hand is opened. -/
def Kc (K : Fr → Bx → Hp → Prop) (fr : Fr) (d : Option Nat) (v : AV) (bx : Bx) (h : Hp) : Prop := K (put fr d v) bx h
theorem Kc_some {i : Nat} {v : AV} : Kc K fr (some i) v bx h = K ((i, v) :: fr) bx h := (rfl)
theorem Kc_none {v : AV} : Kc K fr none v bx h = K fr bx h := (rfl)
def AK (k : AV → Bx → Hp → Prop) (bx : Bx) (h : Hp) (v : AV) : Prop := k v bx h
theorem AK_ {v : AV} : AK k bx h v = k v bx h := (rfl)
def HK (k : AV → Bx → Hp → Prop) (bx : Bx) (v : Value) (h : Hp) : Prop := k (.val v) bx h
theorem HK_ {v : Value} : HK k bx v h = k (.val v) bx h := (rfl)
def HKE (hs : Option Hp) (k : AV → Bx → Hp → Prop) (bx : Bx) (v : Value) (h : Hp) : Prop := ExtO hs h ∧ k (.val v) bx h
theorem HKE_n {v : Value} : HKE none k bx v h = k (.val v) bx h := by simp [HKE, ExtO]
theorem HKE_s {v : Value} {hS : Hp} : HKE (some hS) k bx v h = (Ext hS h ∧ k (.val v) bx h) := (rfl)
def SK (k : AV → Bx → Hp → Prop) (bx : Bx) (h : Hp) (v : Value) (_ : Hp) : Prop := k (.val v) bx h
theorem SK_ {v : Value} {h' : Hp} : SK k bx h v h' = k (.val v) bx h := (rfl)
theorem hop_ {s : Sem Value} : hop P hs s bx h k = HSem P s h (HKE hs k bx) := (rfl)
def CbK (A B : Fr → Bx → Hp → Prop) (fr : Fr) (bx : Bx) (h : Hp) (b : Bool) : Prop := bif b then A fr bx h else B fr bx h
theorem CbK_t {A B : Fr → Bx → Hp → Prop} : CbK A B fr bx h true = A fr bx h := (rfl)
theorem CbK_f {A B : Fr → Bx → Hp → Prop} : CbK A B fr bx h false = B fr bx h := (rfl)
def CdK (A B : Fr → Bx → Hp → Prop) (fr : Fr) (bx : Bx) (h : Hp) (v : Value) : Prop := match v with
  | .bool t => Br t (CbK A B fr bx h)
  | _ => False
theorem CdK_ {A B : Fr → Bx → Hp → Prop} {b : Bool} : CdK A B fr bx h (.bool b) = Br b (CbK A B fr bx h) := (rfl)
def okP (P : Program) (hm : List Nat) (l : List Oper) (m : Mo) : Prop := m.hm = hm ∧ okDraw P hm m.lb m.pl l.toArray = true
def runP (P : Program) (l : List Oper) (K : Fr → Bx → Hp → Prop) (fr : Fr) (bx : Bx) (h : Hp) (m : Mo) : Prop := arun P m l.toArray l K fr bx h
def regionDD (P : Program) (hm : List Nat) (l : List Oper) (K : Fr → Bx → Hp → Prop) (fr : Fr) (bx : Bx) (h : Hp) : Prop := regionD (okP P hm l) (runP P l K fr bx h) h ∨ regionS P hm l.toArray K fr bx h ∨ regionP P l.toArray K fr bx h ∨ regionQ P l.toArray K fr bx h ∨ regionT P hm l.toArray K fr bx h
theorem regionD_intro {lb : List Nat} (hok : okDraw P hm lb [] l.toArray = true) (hr : arun P ⟨hm, lb, [], none⟩ l.toArray l K fr bx h) : regionDD P hm l K fr bx h := .inl ⟨⟨hm, lb, [], none⟩, trivial, ⟨rfl, hok⟩, hr⟩
theorem regionD_still {lb pl : List Nat} (hS : Hp) (hE : Ext hS h) (hok : okDraw P hm lb pl l.toArray = true) (hr : arun P ⟨hm, lb, pl, some hS⟩ l.toArray l K fr bx h) : regionDD P hm l K fr bx h := .inl ⟨⟨hm, lb, pl, some hS⟩, hE, ⟨rfl, hok⟩, hr⟩
/-- .. in all orders -/
theorem regionT_intro {lb : List Nat} (T : Plan) (hok : (edgesBack l.toArray && (T.ops.isPerm (List.range l.toArray.size) && okPlan P hm lb [] l.toArray T)) = true) (hr : runPlan P ⟨hm, lb, [], none⟩ l.toArray K T fr bx h) : regionDD P hm l K fr bx h :=
  .inr (.inr (.inr (.inr ⟨lb, [], none, T, trivial, hok, hr⟩)))
theorem regionT_still {lb pl : List Nat} (hS : Hp) (hE : Ext hS h) (T : Plan) (hok : (edgesBack l.toArray && (T.ops.isPerm (List.range l.toArray.size) && okPlan P hm lb pl l.toArray T)) = true) (hr : runPlan P ⟨hm, lb, pl, some hS⟩ l.toArray K T fr bx h) : regionDD P hm l K fr bx h :=
  .inr (.inr (.inr (.inr ⟨lb, pl, some hS, T, hE, hok, hr⟩)))
/-- .. where two stores stand in either order. -/
theorem regionS_intro {lb pl : List Nat} (c d p q : Nat) (A B : List Nat) (hok : okSplit P hm lb pl l.toArray ⟨c, d, p, q, A, B⟩ = true)
    (hr : arun P ⟨hm, lb, pl, some h⟩ l.toArray (pickO l.toArray (List.range c)) (arun P ⟨hm, lb, [], none⟩ l.toArray (pickO l.toArray (List.range' c (d - c))) (bothK (arun P ⟨hm, lb, [], none⟩ l.toArray (pickO l.toArray A) K) (arun P ⟨hm, lb, [], none⟩ l.toArray (pickO l.toArray B) K))) fr bx h) : regionDD P hm l K fr bx h :=
  .inr (.inl ⟨lb, pl, some h, ⟨c, d, p, q, A, B⟩, fun _ _ k => k, hok, hr⟩)

def RK1 (R : Value → Hp → Prop) (h : Hp) (vs : List Value) : Prop := R (wrapRes vs) h
theorem RK1_ {R : Value → Hp → Prop} {vs : List Value} : RK1 R h vs = R (wrapRes vs) h := (rfl)
theorem awp_skip : awp P hm .skip Q fr bx h = Q .normal fr bx h := (rfl)
theorem awp_region {i : Nat} : awp P hm (.region i l.toArray false) Q fr bx h = arun P ⟨hm, [], [], none⟩ l.toArray l (Q .normal) fr bx h := (rfl)
theorem awp_seq {a b : Code} : awp P hm (.seq a b) Q fr bx h = awp P hm a (thn (awp P hm b Q) Q) fr bx h := (rfl)
theorem awp_cond {a b : Code} : awp P hm (.cond x a b) Q fr bx h = vval (ev fr x) (CdK (awp P hm a Q) (awp P hm b Q) fr bx h) := (rfl)
theorem awp_block {i : Nat} {b : Code} : awp P hm (.block i b) Q fr bx h = awp P hm b (inBlk i Q) fr bx h := (rfl)
theorem awp_loop {b : Code} : awp P hm (.loop b) Q fr bx h = loopW (awp P hm b) Q fr bx h := (rfl)
theorem awp_draw {i : Nat} : awp P hm (.region i l.toArray true) Q fr bx h = regionDD P hm l (Q .normal) fr bx h := (rfl)
theorem awp_exit {i : Nat} : awp P hm (.exit i) Q fr bx h = Q (.exit i) fr bx h := (rfl)
theorem awp_ret : awp P hm .ret Q fr bx h = Q .ret fr bx h := (rfl)
theorem thn_normal {N : Fr → Bx → Hp → Prop} : thn N Q .normal fr bx h = N fr bx h := (rfl)
theorem thn_exit {N : Fr → Bx → Hp → Prop} {i : Nat} : thn N Q (.exit i) fr bx h = Q (.exit i) fr bx h := (rfl)
theorem thn_ret {N : Fr → Bx → Hp → Prop} : thn N Q .ret fr bx h = Q .ret fr bx h := (rfl)
theorem inBlk_normal {i : Nat} : inBlk i Q .normal fr bx h = Q .normal fr bx h := (rfl)
theorem inBlk_exit {i j : Nat} : inBlk i Q (.exit j) fr bx h = if j = i then Q .normal fr bx h else Q (.exit j) fr bx h := (rfl)
theorem inBlk_ret {i : Nat} : inBlk i Q .ret fr bx h = Q .ret fr bx h := (rfl)
theorem aend_ret {rs : List ResultVar} {R : Value → Hp → Prop} : aend P rs R .ret fr bx h = cval (aresL P fr bx rs) (RK1 R h) := (rfl)
theorem aend_normal {rs : List ResultVar} {R : Value → Hp → Prop} : aend P rs R .normal fr bx h = cval (aresL P fr bx rs) (RK1 R h) := (rfl)
theorem arun_nil : arun P m ops [] K fr bx h = K fr bx h := (rfl)
theorem arun_cons : arun P m ops (o :: l) K fr bx h = astep P m ops o (arun P m ops l K) fr bx h := (rfl)
theorem astep_none {op : Op} : astep P m ops ⟨d, op, ty, pos, aft, none⟩ K fr bx h = aop P m ⟨d, op, ty, pos, aft, none⟩ fr bx h (Kc K fr d) := (rfl)

/-- The guard: which slot, and what it holds. -/
def gsel (x : Option AV) (S : Bool → Prop) (N : Unit → Prop) : Prop :=
  match x with
  | some (.val (.bool b)) => Br b S
  | some (.val (.tuple _)) => N ()
  | _ => False
theorem gsel_bool {b : Bool} {S : Bool → Prop} {N : Unit → Prop} : gsel (some (.val (.bool b))) S N = Br b S := (rfl)
theorem gsel_undef {vs : Array Value} {S : Bool → Prop} {N : Unit → Prop} : gsel (some (.val (.tuple vs))) S N = N () := (rfl)
def gslot (ops : List Oper) (j : Nat) : Option Nat := (ops[j]?).bind (·.dst)
theorem gslot_zero {op : Op} : gslot (⟨d, op, ty, pos, aft, g⟩ :: l) 0 = d := (rfl)
theorem gslot_succ {j : Nat} : gslot (o :: l) (j + 1) = gslot l j := by simp [gslot]
def GS (P : Program) (m : Mo) (w : Bool) (o : Oper) (K : Fr → Bx → Hp → Prop) (fr : Fr) (t : Nat) (bx : Bx) (h : Hp) (b' : Bool) : Prop :=
  bif b' == w then aop P m o ((t, .val (.bool b')) :: fr) bx h (Kc K ((t, .val (.bool b')) :: fr) o.dst) else K (put ((t, .val (.bool b')) :: fr) o.dst (.val (.tuple #[]))) bx h
theorem GS_tt {t : Nat} {op : Op} : GS P m true ⟨d, op, ty, pos, aft, g⟩ K fr t bx h true = aop P m ⟨d, op, ty, pos, aft, g⟩ ((t, .val (.bool true)) :: fr) bx h (Kc K ((t, .val (.bool true)) :: fr) d) := (rfl)
theorem GS_ff {t : Nat} {op : Op} : GS P m false ⟨d, op, ty, pos, aft, g⟩ K fr t bx h false = aop P m ⟨d, op, ty, pos, aft, g⟩ ((t, .val (.bool false)) :: fr) bx h (Kc K ((t, .val (.bool false)) :: fr) d) := (rfl)
theorem GS_tf {t : Nat} {op : Op} : GS P m true ⟨d, op, ty, pos, aft, g⟩ K fr t bx h false = K (put ((t, .val (.bool false)) :: fr) d (.val (.tuple #[]))) bx h := (rfl)
theorem GS_ft {t : Nat} {op : Op} : GS P m false ⟨d, op, ty, pos, aft, g⟩ K fr t bx h true = K (put ((t, .val (.bool true)) :: fr) d (.val (.tuple #[]))) bx h := (rfl)
def GN (K : Fr → Bx → Hp → Prop) (fr : Fr) (d : Option Nat) (bx : Bx) (h : Hp) (_ : Unit) : Prop := K (put fr d (.val (.tuple #[]))) bx h
theorem GN_ : GN K fr d bx h () = K (put fr d (.val (.tuple #[]))) bx h := (rfl)
def gstep (P : Program) (m : Mo) (w : Bool) (o : Oper) (K : Fr → Bx → Hp → Prop) (fr : Fr) (bx : Bx) (h : Hp) (s : Option Nat) : Prop :=
  match s with
  | none => False
  | some t => gsel (lk fr t) (GS P m w o K fr t bx h) (GN K fr o.dst bx h)
theorem gstep_some {t : Nat} {w : Bool} {op : Op} : gstep P m w ⟨d, op, ty, pos, aft, g⟩ K fr bx h (some t) = gsel (lk fr t) (GS P m w ⟨d, op, ty, pos, aft, g⟩ K fr t bx h) (GN K fr d bx h) := (rfl)
theorem astep_some {op : Op} {j : Nat} {want : Bool} {ol : List Oper} : astep P m ol.toArray ⟨d, op, ty, pos, aft, some (j, want)⟩ K fr bx h = gstep P m want ⟨d, op, ty, pos, aft, some (j, want)⟩ K fr bx h (gslot ol j) := by
  have hc : ∀ (b b' : Bool) (A B : Prop), (if b = b' then A else B) = (bif b == b' then A else B) := by intro b b' A B; cases b <;> cases b' <;> rfl
  unfold astep gstep gslot gsel GS GN
  simp only [List.getElem?_toArray]
  cases (ol[j]?).bind (·.dst) with
  | none => rfl
  | some t =>
    simp only
    cases lk fr t with
    | none => rfl
    | some v => cases v with
      | box b off => rfl
      | val v => cases v <;> first | rfl | (simp only [hc]; rfl)

theorem aval_some_ {v : AV} {f : AV → Prop} : aval (some v) f = f v := (rfl)
theorem vval_some_ {v : Value} {f : Value → Prop} : vval (some (.val v)) f = f v := (rfl)
theorem cval_some_ {v : List Value} {f : List Value → Prop} : cval (some v) f = f v := (rfl)
theorem aval_ite {c : Prop} [Decidable c] {v : AV} {f : AV → Prop} : aval (if c then some v else none) f = (c ∧ f v) := by
  by_cases hc : c <;> simp [aval, hc]
theorem aval_ite' {c : Prop} [Decidable c] {v : AV} {f : AV → Prop} : aval (if c then none else some v) f = (¬ c ∧ f v) := by
  by_cases hc : c <;> simp [aval, hc]
theorem vval_ite {c : Prop} [Decidable c] {v : Value} {f : Value → Prop} : vval (if c then some (.val v) else none) f = (c ∧ f v) := by
  by_cases hc : c <;> simp [vval, hc]
theorem cval_ite {c : Prop} [Decidable c] {v : List Value} {f : List Value → Prop} : cval (if c then some v else none) f = (c ∧ f v) := by
  by_cases hc : c <;> simp [cval, hc]
theorem mapv_ite {c : Prop} [Decidable c] {v : Value} : mapv (if c then some v else none) = if c then some (.val v) else none := by
  by_cases hc : c <;> simp [mapv, hc]
theorem mapv_ite' {c : Prop} [Decidable c] {v : Value} : mapv (if c then none else some v) = if c then none else some (.val v) := by
  by_cases hc : c <;> simp [mapv, hc]
theorem and_cg (a b : Prop) : (a ∧ b) = (a ∧ b) := (rfl)
theorem Br_true {f : Bool → Prop} : Br true f = f true := (rfl)
theorem Br_false {f : Bool → Prop} : Br false f = f false := (rfl)
theorem Br.intro {b : Bool} {f : Bool → Prop} (ht : b = true → f true) (hf : b = false → f false) : Br b f := by
  cases b
  · exact hf rfl
  · exact ht rfl
theorem put_some {i : Nat} {v : AV} : put fr (some i) v = (i, v) :: fr := (rfl)
theorem put_none {v : AV} : put fr none v = fr := (rfl)
theorem lk_cons {i j : Nat} {v : AV} : lk ((i, v) :: fr) j = bif i == j then some v else lk fr j := (rfl)
theorem lkb_cons {i j : Nat} {v : List Value} : lkb ((i, v) :: bx) j = bif i == j then some v else lkb bx j := (rfl)
theorem lkb_nil {j : Nat} : lkb [] j = none := (rfl)
theorem setb_cons {i j : Nat} {c v : List Value} : setb ((i, c) :: bx) j v = bif i == j then (i, v) :: bx else (i, c) :: setb bx j v := (rfl)
theorem ev_tmp {t : Nat} : ev fr (.tmp t) = lk fr t := (rfl)
theorem ev_const {v : Value} : ev fr (.const v) = some (.val v) := (rfl)
theorem ev_func {f : Nat} : ev fr (.func f) = some (.val (.func (.func f) #[] #[])) := (rfl)
theorem mapv_some_ {v : Value} : mapv (some v) = some (.val v) := (rfl)
theorem un1_some_ {v : Value} {f : Value → Option Value} : un1 (some (.val v)) f = mapv (f v) := (rfl)
theorem bin2_some_ {v w : Value} {f : Value → Value → Option Value} : bin2 (some (.val v)) (some (.val w)) f = mapv (f v w) := (rfl)
theorem vals_nil : vals [] = some [] := (rfl)
def consV (v : Value) (l : Option (List Value)) : Option (List Value) := l.map (v :: ·)
theorem consV_ {v : Value} {l : List Value} : consV v (some l) = some (v :: l) := (rfl)
theorem vals_cons {v : Value} {r : List (Option AV)} : vals (some (.val v) :: r) = consV v (vals r) := (rfl)
theorem zip_c {i : Nat} {v : Value} {is : List Nat} {vs : List Value} : (i :: is).zip (v :: vs) = (i, v) :: is.zip vs := (rfl)
theorem zip_n {vs : List Value} : ([] : List Nat).zip vs = [] := (rfl)
theorem map_fst_c {q : Nat × Operand} {r : List (Nat × Operand)} : (q :: r).map (fun p => p.1) = q.1 :: r.map (fun p => p.1) := (rfl)
theorem map_fst_n : ([] : List (Nat × Operand)).map (fun p => p.1) = [] := (rfl)

/-! the operations -/
theorem aop_move : aop P m ⟨d, .move x, ty, pos, aft, g⟩ fr bx h k = aval (ev fr x) (AK k bx h) := (rfl)
theorem aop_assign : aop P m ⟨d, .assign x, ty, pos, aft, g⟩ fr bx h k = aval (ev fr x) (AK k bx h) := (rfl)
def vpick (c a b : Option AV) : Option AV := match c with
  | some (.val (.bool true)) => a
  | some (.val (.bool false)) => b
  | _ => none
theorem vpick_t {a b : Option AV} : vpick (some (.val (.bool true))) a b = a := (rfl)
theorem vpick_f {a b : Option AV} : vpick (some (.val (.bool false))) a b = b := (rfl)
theorem aop_pick : aop P m ⟨d, .pick x y z, ty, pos, aft, g⟩ fr bx h k = aval (vpick (ev fr x) (ev fr y) (ev fr z)) (AK k bx h) := (rfl)
theorem aop_bin {op : BinOp} {t u : Nat} : aop P m ⟨d, .binOp op t x y u, ty, pos, aft, g⟩ fr bx h k = aval (bin2 (ev fr x) (ev fr y) (vbin P op t (nilC y))) (AK k bx h) := (rfl)
theorem aop_un {op : UnOp} {t : Nat} : aop P m ⟨d, .unOp op t x, ty, pos, aft, g⟩ fr bx h k = aval (un1 (ev fr x) (vun op)) (AK k bx h) := (rfl)
theorem aop_extract {i : Nat} : aop P m ⟨d, .extract x i, ty, pos, aft, g⟩ fr bx h k = aval (un1 (ev fr x) (vext i)) (AK k bx h) := (rfl)
theorem aop_fieldV {s i : Nat} : aop P m ⟨d, .field s x i, ty, pos, aft, g⟩ fr bx h k = aval (un1 (ev fr x) (vfld (flO P s i))) (AK k bx h) := (rfl)
theorem vfld_ {o : Nat} {cs : List Value} : vfld (some o) (.agg cs.toArray) = cs[o]? := by simp [vfld]
theorem aop_field {s i : Nat} : aop P m ⟨d, .fieldAddr s x i, ty, pos, aft, g⟩ fr bx h k = aval (vfieldAddr (fOff (plcs P s) i) (ev fr x)) (AK k bx h) := (rfl)
theorem aop_nil : aop P m ⟨d, .nilCheck x, ty, pos, aft, g⟩ fr bx h k = aval (vnil (ev fr x)) (AK k bx h) := (rfl)
theorem aop_index {t : Nat} : aop P m ⟨d, .index t x y, ty, pos, aft, g⟩ fr bx h k = aval (bin2 (ev fr x) (ev fr y) (vindex P t)) (AK k bx h) := (rfl)
theorem aop_indexAddr {t : Nat} : aop P m ⟨d, .indexAddr t x y, ty, pos, aft, g⟩ fr bx h k = aval (bin2 (ev fr x) (ev fr y) (vindexAddr P t)) (AK k bx h) := (rfl)
theorem aop_slice {t : Nat} {lo hi : Option Operand} : aop P m ⟨d, .slice t x lo hi none, ty, pos, aft, g⟩ fr bx h k = aval (slice3 P t (ev fr x) (lo.map (ev fr)) (hi.map (ev fr))) (AK k bx h) := (rfl)
theorem aop_build {t : Nat} {ps : List (Nat × Operand)} : aop P m ⟨d, .build t ps.toArray, ty, pos, aft, g⟩ fr bx h k = aval (vbuild (plcs P t) (zeroC P t) (ps.map (·.1)) (vals (ps.map fun p => ev fr p.2))) (AK k bx h) := (rfl)
def boxK (k : AV → Bx → Hp → Prop) (bx : Bx) (i : Nat) (h : Hp) (v : List Value) : Prop := lkb bx i = none ∧ k (.box i 0) ((i, v) :: bx) h
theorem boxK_ {i : Nat} {v : List Value} : boxK k bx i h v = (lkb bx i = none ∧ k (.box i 0) ((i, v) :: bx) h) := (rfl)
def boxV (P : Program) (hs : Option Hp) (hh : Bool) (k : AV → Bx → Hp → Prop) (bx : Bx) (i t : Nat) (h : Hp) (v : Value) : Prop := bif hh then HSem P (bxI t v) h (HKE hs k bx) else boxK k bx i h v.cells.toList
theorem ct_nil {i : Nat} : ([] : List Nat).contains i = false := (rfl)
theorem ct_cons {a i : Nat} {l : List Nat} : (a :: l).contains i = (bif i == a then true else l.contains i) := by
  rw [List.contains_cons]; cases (i == a) <;> rfl
theorem nt_t : (!true) = false := (rfl)
theorem nt_f : (!false) = true := (rfl)
theorem boxV_t {t i : Nat} {v : Value} : boxV P hs true k bx i t h v = HSem P (bxI t v) h (HKE hs k bx) := (rfl)
theorem boxV_f {t i : Nat} {v : Value} : boxV P hs false k bx i t h v = boxK k bx i h v.cells.toList := (rfl)
theorem aop_box {t i : Nat} : aop P m ⟨some i, .box t x, ty, pos, aft, g⟩ fr bx h k = vval (ev fr x) (boxV P m.hs (m.hm.contains i) k bx i t h) := by
  simp only [aop]
  cases hc : m.hm.contains i with
  | true => rfl
  | false => rfl
def alloK (P : Program) (hs : Option Hp) (hh : Bool) (k : AV → Bx → Hp → Prop) (bx : Bx) (i t : Nat) (h : Hp) : Prop := bif hh then HSem P (alI t) h (HKE hs k bx) else cval (zeroC P t) (boxK k bx i h)
theorem alloK_t {t i : Nat} : alloK P hs true k bx i t h = HSem P (alI t) h (HKE hs k bx) := (rfl)
theorem alloK_f {t i : Nat} : alloK P hs false k bx i t h = cval (zeroC P t) (boxK k bx i h) := (rfl)
theorem aop_alloc {t i : Nat} : aop P m ⟨some i, .alloc t, ty, pos, aft, g⟩ fr bx h k = alloK P m.hs (m.hm.contains i) k bx i t h := by
  simp only [aop]
  cases hc : m.hm.contains i with
  | true => rfl
  | false => rfl
def stB (P : Program) (t : Nat) (u : List Value) (bx : Bx) (h : Hp) (k : AV → Bx → Hp → Prop) (b off : Nat) (cs : List Value) : Prop :=
  ((tyS P t).map (·.2) = some u.length ∧ oneCells u = true ∧ off + u.length ≤ cs.length) ∧ k (.val undef) (setb bx b (splice cs off u)) h
theorem stB_ {t b off : Nat} {u cs : List Value} : stB P t u bx h k b off cs = (((tyS P t).map (·.2) = some u.length ∧ oneCells u = true ∧ off + u.length ≤ cs.length) ∧ k (.val (.tuple #[])) (setb bx b (splice cs off u)) h) := (rfl)
def stK (P : Program) (hs : Option Hp) (t : Nat) (u : Value) (bx : Bx) (h : Hp) (k : AV → Bx → Hp → Prop) (a : Option AV) : Prop :=
  match a with
  | some (.box b off) => cval (lkb bx b) (stB P t u.cells.toList bx h k b off)
  | some (.val p) => HSem P (stI t p u) h (HKE hs k bx)
  | none => False
theorem stK_val {t : Nat} {p u : Value} : stK P hs t u bx h k (some (.val p)) = HSem P (stI t p u) h (HKE hs k bx) := (rfl)
theorem stK_box {t b off : Nat} {u : Value} : stK P hs t u bx h k (some (.box b off)) = cval (lkb bx b) (stB P t u.cells.toList bx h k b off) := (rfl)
def stV (P : Program) (hs : Option Hp) (t : Nat) (bx : Bx) (h : Hp) (k : AV → Bx → Hp → Prop) (a : Option AV) (u : Value) : Prop := stK P hs t u bx h k a
theorem stV_ {t : Nat} {a : Option AV} {u : Value} : stV P hs t bx h k a u = stK P hs t u bx h k a := (rfl)
theorem aop_store {t : Nat} : aop P m ⟨d, .store t x y, ty, pos, aft, g⟩ fr bx h k = vval (ev fr y) (stV P m.hs t bx h k (ev fr x)) := by
  simp only [aop]
  congr 1
  funext u
  cases ev fr x with
  | none => rfl
  | some v => cases v with
    | val p => rfl
    | box b off =>
      show (cval (lkb bx b) fun cs => (tyS P t).map (·.2) = some u.cells.toList.length ∧ oneCells u.cells.toList = true ∧ off + u.cells.toList.length ≤ cs.length ∧ k (.val undef) (setb bx b (splice cs off u.cells.toList)) h) = cval (lkb bx b) (stB P t u.cells.toList bx h k b off)
      have : (fun cs : List Value => (tyS P t).map (·.2) = some u.cells.toList.length ∧ oneCells u.cells.toList = true ∧ off + u.cells.toList.length ≤ cs.length ∧ k (.val undef) (setb bx b (splice cs off u.cells.toList)) h) = stB P t u.cells.toList bx h k b off := by
        funext cs
        simp only [stB, and_assoc]
      rw [this]
def ldC (P : Program) (t : Nat) (bx : Bx) (h : Hp) (k : AV → Bx → Hp → Prop) (off : Nat) (cs : List Value) : Prop := aval (rdC (tyS P t) (cs.drop off)) (AK k bx h)
theorem ldC_ {t off : Nat} {cs : List Value} : ldC P t bx h k off cs = aval (rdC (tyS P t) (cs.drop off)) (AK k bx h) := (rfl)
def ldK (P : Program) (m : Mo) (d : Option Nat) (t : Nat) (bx : Bx) (h : Hp) (k : AV → Bx → Hp → Prop) (a : Option AV) : Prop :=
  match a with
  | some (.val p) => bif (d.map m.lb.contains).getD false then False else bif (d.map m.pl.contains).getD false then hstb P m.hs (ldI t p) bx h k else HPure P (ldI t p) h (HK k bx)
  | some (.box b off) => bif !(d.map m.lb.contains).getD false && (d.map m.pl.contains).getD false then False else cval (lkb bx b) (ldC P t bx h k off)
  | none => False
theorem aop_load {t : Nat} : aop P m ⟨d, .load t x, ty, pos, aft, g⟩ fr bx h k = ldK P m d t bx h k (ev fr x) := by
  simp only [aop, lop]
  cases hx : ev fr x with
  | none =>
    simp only [ldK]
    cases (d.map m.lb.contains).getD false <;> cases (d.map m.pl.contains).getD false <;> rfl
  | some v => cases v with
    | val p =>
      simp only [ldK]
      cases (d.map m.lb.contains).getD false <;> cases (d.map m.pl.contains).getD false <;> rfl
    | box b off =>
      simp only [ldK]
      cases (d.map m.lb.contains).getD false <;> cases (d.map m.pl.contains).getD false <;> cases hb : lkb bx b <;> rfl
theorem ldK_val {t : Nat} {p : Value} {hm : List Nat} : ldK P ⟨hm, [], [], none⟩ d t bx h k (some (.val p)) = HPure P (ldI t p) h (HK k bx) := by
  cases d <;> rfl
theorem ldK_val' {t i : Nat} {hm lb : List Nat} {p : Value} : ldK P ⟨hm, lb, [], none⟩ (some i) t bx h k (some (.val p)) = bif lb.contains i then False else HPure P (ldI t p) h (HK k bx) := (rfl)
theorem ldK_vals {t i : Nat} {hm lb pl : List Nat} {hS : Hp} {p : Value} : ldK P ⟨hm, lb, pl, some hS⟩ (some i) t bx h k (some (.val p)) = bif lb.contains i then False else bif pl.contains i then HPure P (ldI t p) hS (SK k bx h) else HPure P (ldI t p) h (HK k bx) := (rfl)
theorem ldK_box {hm lb : List Nat} {t b off : Nat} : ldK P ⟨hm, lb, [], none⟩ d t bx h k (some (.box b off)) = cval (lkb bx b) (ldC P t bx h k off) := by
  cases d <;> simp [ldK]
theorem ldK_boxs {hm lb pl : List Nat} {hS : Hp} {t b off i : Nat} : ldK P ⟨hm, lb, pl, some hS⟩ (some i) t bx h k (some (.box b off)) = bif !lb.contains i && pl.contains i then False else cval (lkb bx b) (ldC P t bx h k off) := (rfl)
theorem rdC_agg {n : Nat} {cs : List Value} : rdC (some (true, n)) cs = if n ≤ cs.length then some (.val (.agg (cs.take n).toArray)) else none := by
  cases cs <;> rfl
theorem rdC_one {n : Nat} {c : Value} {cs : List Value} : rdC (some (false, n)) (c :: cs) = some (.val c) := (rfl)
def cvK (P : Program) (hs : Option Hp) (s t : Nat) (bx : Bx) (h : Hp) (k : AV → Bx → Hp → Prop) (v : Value) : Prop := match v with
    | .int _ _ => vval (mapv (vconv (intT P s) (intT P t) v)) (fun u => k (.val u) bx h)
    | _ => hop P hs (cvI s t v) bx h k
def vvK (bx : Bx) (h : Hp) (k : AV → Bx → Hp → Prop) (u : Value) : Prop := k (.val u) bx h
theorem vvK_ {u : Value} : vvK bx h k u = k (.val u) bx h := (rfl)
theorem cvK_int {s t : Nat} {kd : IntKind} {n : Int} : cvK P hs s t bx h k (.int kd n) = vval (mapv (vconv (intT P s) (intT P t) (.int kd n))) (vvK bx h k) := (rfl)
theorem cvK_str {s t : Nat} {u : ByteArray} : cvK P hs s t bx h k (.string u) = HSem P (cvI s t (.string u)) h (HKE hs k bx) := (rfl)
theorem cvK_sl {s t : Nat} {a : Option Addr} {n c : Nat} : cvK P hs s t bx h k (.slice a n c) = HSem P (cvI s t (.slice a n c)) h (HKE hs k bx) := (rfl)
theorem aop_convert {s t : Nat} : aop P m ⟨d, .convert s t x, ty, pos, aft, g⟩ fr bx h k = vval (ev fr x) (cvK P m.hs s t bx h k) := (rfl)
def bsK (P : Program) (hs : Option Hp) (t n : Nat) (is : List Nat) (bx : Bx) (h : Hp) (k : AV → Bx → Hp → Prop) (vs : List Value) : Prop := HSem P (bsI t n ((is.zip vs).toArray)) h (HKE hs k bx)
theorem bsK_ {t n : Nat} {is : List Nat} {vs : List Value} : bsK P hs t n is bx h k vs = HSem P (bsI t n ((is.zip vs).toArray)) h (HKE hs k bx) := (rfl)
theorem aop_buildSlice {t n : Nat} {ps : List (Nat × Operand)} : aop P m ⟨d, .buildSlice t n ps.toArray, ty, pos, aft, g⟩ fr bx h k = cval (vals (ps.map fun p => ev fr p.2)) (bsK P m.hs t n (ps.map (·.1)) bx h k) := (rfl)
def val2 (a b : Option AV) (f : Value → Value → Prop) : Prop := vval a fun x => vval b fun y => f x y
theorem val2_ {v w : Value} {f : Value → Value → Prop} : val2 (some (.val v)) (some (.val w)) f = f v w := (rfl)
def val3 (a b c : Option AV) (f : Value → Value → Value → Prop) : Prop := vval a fun x => vval b fun y => vval c fun z => f x y z
theorem val3_ {v w u : Value} {f : Value → Value → Value → Prop} : val3 (some (.val v)) (some (.val w)) (some (.val u)) f = f v w u := (rfl)
def msK (P : Program) (hs : Option Hp) (t : Nat) (bx : Bx) (h : Hp) (k : AV → Bx → Hp → Prop) (l c : Value) : Prop := HSem P (msI t l c) h (HKE hs k bx)
theorem msK_ {t : Nat} {l c : Value} : msK P hs t bx h k l c = HSem P (msI t l c) h (HKE hs k bx) := (rfl)
theorem aop_makeSlice {t : Nat} : aop P m ⟨d, .makeSlice t x y, ty, pos, aft, g⟩ fr bx h k = val2 (ev fr x) (ev fr y) (msK P m.hs t bx h k) := (rfl)
theorem aop_makeMap {t : Nat} : aop P m ⟨d, .makeMap t none, ty, pos, aft, g⟩ fr bx h k = HSem P (mmI t) h (HKE m.hs k bx) := (rfl)
def luK (P : Program) (hs : Option Hp) (t : Nat) (ok : Bool) (bx : Bx) (h : Hp) (k : AV → Bx → Hp → Prop) (l c : Value) : Prop := HSem P (luI t l c ok) h (HKE hs k bx)
theorem luK_ {t : Nat} {ok : Bool} {l c : Value} : luK P hs t ok bx h k l c = HSem P (luI t l c ok) h (HKE hs k bx) := (rfl)
theorem aop_lookup {t : Nat} {ok : Bool} : aop P m ⟨d, .lookup t x y ok, ty, pos, aft, g⟩ fr bx h k = val2 (ev fr x) (ev fr y) (luK P m.hs t ok bx h k) := (rfl)
def muK (P : Program) (hs : Option Hp) (t : Nat) (bx : Bx) (h : Hp) (k : AV → Bx → Hp → Prop) (l c v : Value) : Prop := HSem P (muI t l c v) h (HKE hs k bx)
theorem muK_ {t : Nat} {l c v : Value} : muK P hs t bx h k l c v = HSem P (muI t l c v) h (HKE hs k bx) := (rfl)
theorem aop_mapUpdate {t : Nat} : aop P m ⟨d, .mapUpdate t x y z, ty, pos, aft, g⟩ fr bx h k = val3 (ev fr x) (ev fr y) (ev fr z) (muK P m.hs t bx h k) := (rfl)
def mfK (fn : Fn) (f : List Value) (bx : Bx) (h : Hp) (k : AV → Bx → Hp → Prop) (c : List Value) : Prop := k (.val (.func fn f.toArray c.toArray)) bx h
theorem mfK_ {fn : Fn} {f c : List Value} : mfK fn f bx h k c = k (.val (.func fn f.toArray c.toArray)) bx h := (rfl)
theorem aop_makeFunc {fn : Fn} {cs : List Operand} : aop P m ⟨d, .makeFunc fn #[] cs.toArray, ty, pos, aft, g⟩ fr bx h k = cval (vals (cs.map (ev fr))) (mfK fn [] bx h k) := (rfl)
def lnK (P : Program) (hs : Option Hp) (t ty : Nat) (bx : Bx) (h : Hp) (k : AV → Bx → Hp → Prop) (x : Value) : Prop := HSem P (lnI t ty x) h (HKE hs k bx)
theorem lnK_ {t : Nat} {x : Value} : lnK P hs t ty bx h k x = HSem P (lnI t ty x) h (HKE hs k bx) := (rfl)
def lenK (P : Program) (hs : Option Hp) (t ty : Nat) (a : Option AV) (bx : Bx) (h : Hp) (k : AV → Bx → Hp → Prop) (kd : Nat) : Prop :=
  if kd = 2 then vval a (lnK P hs t ty bx h k) else aval (un1 a (vlen kd)) (AK k bx h)
theorem lenK_0 {t ty : Nat} {a : Option AV} : lenK P hs t ty a bx h k 0 = aval (un1 a (vlen 0)) (AK k bx h) := (rfl)
theorem lenK_1 {t ty : Nat} {a : Option AV} : lenK P hs t ty a bx h k 1 = aval (un1 a (vlen 1)) (AK k bx h) := (rfl)
theorem lenK_2 {t ty : Nat} {a : Option AV} : lenK P hs t ty a bx h k 2 = vval a (lnK P hs t ty bx h k) := (rfl)
theorem aop_len {t : Nat} : aop P m ⟨d, .call ⟨.builtin .len, #[x], #[t]⟩, ty, pos, aft, g⟩ fr bx h k = lenK P m.hs t ty (ev fr x) bx h k (lenT P t) := (rfl)
def apK (P : Program) (hs : Option Hp) (ts : Array Nat) (ty : Nat) (bx : Bx) (h : Hp) (k : AV → Bx → Hp → Prop) (vs : List Value) : Prop := HSem P (apI ts ty vs.toArray) h (HKE hs k bx)
theorem apK_ {ts : Array Nat} {vs : List Value} : apK P hs ts ty bx h k vs = HSem P (apI ts ty vs.toArray) h (HKE hs k bx) := (rfl)
theorem aop_append {xs : List Operand} {ts : Array Nat} : aop P m ⟨d, .call ⟨.builtin .append, xs.toArray, ts⟩, ty, pos, aft, g⟩ fr bx h k = cval (vals (xs.map (ev fr))) (apK P m.hs ts ty bx h k) := (rfl)
def cqK (P : Program) (hs : Option Hp) (ts : Array Nat) (ty : Nat) (bx : Bx) (h : Hp) (k : AV → Bx → Hp → Prop) (vs : List Value) : Prop := HSem P (cqI ts ty vs.toArray) h (HKE hs k bx)
theorem cqK_ {ts : Array Nat} {vs : List Value} : cqK P hs ts ty bx h k vs = HSem P (cqI ts ty vs.toArray) h (HKE hs k bx) := (rfl)
theorem aop_cap {xs : List Operand} {ts : Array Nat} : aop P m ⟨d, .call ⟨.builtin .cap, xs.toArray, ts⟩, ty, pos, aft, g⟩ fr bx h k = cval (vals (xs.map (ev fr))) (cqK P m.hs ts ty bx h k) := (rfl)
def cpK (P : Program) (hs : Option Hp) (ts : Array Nat) (ty : Nat) (bx : Bx) (h : Hp) (k : AV → Bx → Hp → Prop) (vs : List Value) : Prop := HSem P (cpI ts ty vs.toArray) h (HKE hs k bx)
theorem cpK_ {ts : Array Nat} {vs : List Value} : cpK P hs ts ty bx h k vs = HSem P (cpI ts ty vs.toArray) h (HKE hs k bx) := (rfl)
theorem aop_copy {xs : List Operand} {ts : Array Nat} : aop P m ⟨d, .call ⟨.builtin .copy, xs.toArray, ts⟩, ty, pos, aft, g⟩ fr bx h k = cval (vals (xs.map (ev fr))) (cpK P m.hs ts ty bx h k) := (rfl)
def caK (P : Program) (hs : Option Hp) (f : Nat) (bx : Bx) (h : Hp) (k : AV → Bx → Hp → Prop) (vs : List Value) : Prop := ACalls P f vs.toArray h (HKE hs k bx)
theorem caK_ {f : Nat} {vs : List Value} : caK P hs f bx h k vs = ACalls P f vs.toArray h (HKE hs k bx) := (rfl)
theorem aop_call {f : Nat} {xs : List Operand} {ts : Array Nat} : aop P m ⟨d, .call ⟨.value (.func f), xs.toArray, ts⟩, ty, pos, aft, g⟩ fr bx h k = cval (vals (xs.map (ev fr))) (caK P m.hs f bx h k) := by
  simp only [aop, ev, vval]
  congr 1
  funext vs
  simp only [caK]
  congr 1
  simp
/-- a call of a function value -/
def cfV (P : Program) (hs : Option Hp) (vs : Option (List Value)) (bx : Bx) (h : Hp) (k : AV → Bx → Hp → Prop) (fv : Value) : Prop := match fv with
  | .func (.func g) first captured => cval vs fun vs => ACalls P g (first ++ vs.toArray ++ captured) h (HKE hs k bx)
  | _ => False
def cfK (P : Program) (hs : Option Hp) (g : Nat) (c : List Value) (bx : Bx) (h : Hp) (k : AV → Bx → Hp → Prop) (vs : List Value) : Prop := ACalls P g (vs ++ c).toArray h (HKE hs k bx)
theorem cfK_ {g : Nat} {c vs : List Value} : cfK P hs g c bx h k vs = ACalls P g (vs ++ c).toArray h (HKE hs k bx) := (rfl)
theorem cfV_ {g : Nat} {c : List Value} {vs : Option (List Value)} : cfV P hs vs bx h k (.func (.func g) #[] c.toArray) = cval vs (cfK P hs g c bx h k) := by
  have : (fun vs : List Value => ACalls P g (#[] ++ vs.toArray ++ c.toArray) h (HKE hs k bx)) = cfK P hs g c bx h k := by
    funext vs
    simp [cfK]
  simp only [cfV, this]
theorem aop_callf {f : Nat} {xs : List Operand} {ts : Array Nat} : aop P m ⟨d, .call ⟨.value (.tmp f), xs.toArray, ts⟩, ty, pos, aft, g⟩ fr bx h k = vval (lk fr f) (cfV P m.hs (vals (xs.map (ev fr))) bx h k) := (rfl)

theorem vlen_0 {s : ByteArray} : vlen 0 (.string s) = some (.int .i64 s.size) := (rfl)
theorem vlen_1 {a : Option Addr} {n c : Nat} : vlen 1 (.slice a n c) = some (.int .i64 n) := (rfl)
theorem vbin_add {nc : Bool} {kd : IntKind} {t : Nat} {a b : Int} : vbin P .add t nc (.int kd a) (.int kd b) = some (.int kd (kd.wrap (a + b))) := by simp [vbin, vint]
theorem vbin_sub {nc : Bool} {kd : IntKind} {t : Nat} {a b : Int} : vbin P .sub t nc (.int kd a) (.int kd b) = some (.int kd (kd.wrap (a - b))) := by simp [vbin, vint]
theorem vbin_mul {nc : Bool} {kd : IntKind} {t : Nat} {a b : Int} : vbin P .mul t nc (.int kd a) (.int kd b) = some (.int kd (kd.wrap (a * b))) := by simp [vbin, vint]
theorem vbin_quo {nc : Bool} {kd : IntKind} {t : Nat} {a b : Int} : vbin P .quo t nc (.int kd a) (.int kd b) = if b = 0 then none else some (.int kd (kd.wrap (a.tdiv b))) := by simp [vbin, vint]
theorem vbin_rem {nc : Bool} {kd : IntKind} {t : Nat} {a b : Int} : vbin P .rem t nc (.int kd a) (.int kd b) = if b = 0 then none else some (.int kd (a.tmod b)) := by simp [vbin, vint]
theorem vbin_and {nc : Bool} {kd : IntKind} {t : Nat} {a b : Int} : vbin P .and t nc (.int kd a) (.int kd b) = some (.int kd (kd.wrap ((BitVec.ofInt kd.bits a &&& BitVec.ofInt kd.bits b).toNat : Int))) := by simp [vbin, vint]
theorem vbin_eql {nc : Bool} {kd : IntKind} {t : Nat} {a b : Int} : vbin P .eql t nc (.int kd a) (.int kd b) = some (.bool (decide (a = b))) := by simp [vbin, vint]
theorem vbin_neq {nc : Bool} {kd : IntKind} {t : Nat} {a b : Int} : vbin P .neq t nc (.int kd a) (.int kd b) = some (.bool (!decide (a = b))) := by simp [vbin, vint]
theorem vbin_lss {nc : Bool} {kd : IntKind} {t : Nat} {a b : Int} : vbin P .lss t nc (.int kd a) (.int kd b) = some (.bool (decide (a < b))) := by simp [vbin, vint]
theorem vbin_leq {nc : Bool} {kd : IntKind} {t : Nat} {a b : Int} : vbin P .leq t nc (.int kd a) (.int kd b) = some (.bool (decide (a ≤ b))) := by simp [vbin, vint]
theorem vbin_gtr {nc : Bool} {kd : IntKind} {t : Nat} {a b : Int} : vbin P .gtr t nc (.int kd a) (.int kd b) = some (.bool (decide (b < a))) := by simp [vbin, vint]
theorem vbin_geq {nc : Bool} {kd : IntKind} {t : Nat} {a b : Int} : vbin P .geq t nc (.int kd a) (.int kd b) = some (.bool (decide (b ≤ a))) := by simp [vbin, vint]
theorem vbin_sadd {nc : Bool} {t : Nat} {a b : ByteArray} : vbin P .add t nc (.string a) (.string b) = if ((a.size + b.size : Nat) : Int) ≤ IntKind.i64.max then some (.string (a ++ b)) else none := (rfl)
theorem vbin_seql {nc : Bool} {t : Nat} {a b : ByteArray} : vbin P .eql t nc (.string a) (.string b) = some (.bool (decide (a = b))) := (rfl)
theorem vbin_sneq {nc : Bool} {t : Nat} {a b : ByteArray} : vbin P .neq t nc (.string a) (.string b) = some (.bool (!decide (a = b))) := (rfl)
theorem vbin_slss {nc : Bool} {t : Nat} {a b : ByteArray} : vbin P .lss t nc (.string a) (.string b) = some (.bool (Op.bytesLess a.toList b.toList)) := (rfl)
theorem vbin_sgtr {nc : Bool} {t : Nat} {a b : ByteArray} : vbin P .gtr t nc (.string a) (.string b) = some (.bool !(Op.bytesLess a.toList b.toList || decide (a = b))) := (rfl)
theorem vbin_beql {nc : Bool} {t : Nat} {a b : Bool} : vbin P .eql t nc (.bool a) (.bool b) = if isBoolT P t then some (.bool (decide (a = b))) else none := (rfl)
theorem vbin_bneq {nc : Bool} {t : Nat} {a b : Bool} : vbin P .neq t nc (.bool a) (.bool b) = if isBoolT P t then some (.bool (!decide (a = b))) else none := (rfl)
theorem vbin_keql {nc : Bool} {t : Nat} {a b : Bool} {c e : Int} {s u : ByteArray} : vbin P .eql t nc (.agg #[.bool a, .int .i64 c, .string s]) (.agg #[.bool b, .int .i64 e, .string u]) = if keyT P t then some (.bool (decide (a = b ∧ c = e ∧ s = u))) else none := (rfl)
theorem vbin_kneq {nc : Bool} {t : Nat} {a b : Bool} {c e : Int} {s u : ByteArray} : vbin P .neq t nc (.agg #[.bool a, .int .i64 c, .string s]) (.agg #[.bool b, .int .i64 e, .string u]) = if keyT P t then some (.bool (!decide (a = b ∧ c = e ∧ s = u))) else none := (rfl)
theorem nilC_tmp {t : Nat} : nilC (.tmp t) = false := (rfl)
theorem nilC_nil : nilC (.const .nilIface) = true := (rfl)
theorem nilC_int {kd : IntKind} {n : Int} : nilC (.const (.int kd n)) = false := (rfl)
theorem nilC_bool {b : Bool} : nilC (.const (.bool b)) = false := (rfl)
theorem nilC_str {s : ByteArray} : nilC (.const (.string s)) = false := (rfl)
theorem vbin_inil {t tx : Nat} {u : Value} {op : BinOp} {nc : Bool} : vbin P op t nc (.iface tx u) .nilIface = if isIfc P t then vnilb op false else none := (rfl)
theorem vbin_nnil {t : Nat} {op : BinOp} {nc : Bool} : vbin P op t nc .nilIface .nilIface = if isIfc P t && nc then vnilb op true else none := (rfl)
theorem vnilb_eql {r : Bool} : vnilb .eql r = some (.bool r) := (rfl)
theorem vnilb_neq {r : Bool} : vnilb .neq r = some (.bool !r) := (rfl)
theorem vun_not {b : Bool} : vun .not (.bool b) = some (.bool !b) := (rfl)
theorem vun_neg {kd : IntKind} {n : Int} : vun .neg (.int kd n) = some (.int kd (kd.wrap (0 - n))) := (rfl)
theorem vext_ {vs : List Value} {i : Nat} : vext i (.tuple vs.toArray) = vs[i]? := (rfl)
theorem vconv_ {a b kd : IntKind} {n : Int} : vconv (some a) (some b) (.int kd n) = some (.int b (b.wrap n)) := (rfl)
theorem vindex_ {t : Nat} {s : ByteArray} {kd : IntKind} {n : Int} : vindex P t (.string s) (.int kd n) = if isStr P t then sidx s n else none := (rfl)
def ixA (z : Option Nat) (a : Option Addr) (len : Nat) (n : Int) : Option Value := match z, a with
  | some z, some a => if 0 ≤ n ∧ n < len then some (.pointer (some (a.add (n.toNat * z)))) else none
  | _, _ => none
theorem vindexAddr_ {t : Nat} {a : Option Addr} {len c : Nat} {kd : IntKind} {n : Int} : vindexAddr P t (.slice a len c) (.int kd n) = ixA (elS P t) a len n := by
  unfold vindexAddr ixA
  cases elS P t <;> cases a <;> rfl
theorem ixA_ {z len : Nat} {a : Addr} {n : Int} : ixA (some z) (some a) len n = if 0 ≤ n ∧ n < len then some (.pointer (some (a.add (n.toNat * z)))) else none := (rfl)
theorem vfield_box {o' b off : Nat} : vfieldAddr (some o') (some (.box b off)) = some (.box b (off + o')) := (rfl)
theorem vfield_val {o' : Nat} {a : Addr} : vfieldAddr (some o') (some (.val (.pointer (some a)))) = some (.val (.pointer (some (a.add o')))) := (rfl)
def fO (x : Option (Nat × Nat)) : Option Nat := match x with
  | some (o, _ + 1) => some o
  | _ => none
theorem fOff_ {l : List (Nat × Nat)} {i : Nat} : fOff (some l) i = fO l[i]? := (rfl)
theorem fO_ {o' z : Nat} : fO (some (o', z + 1)) = some o' := (rfl)
theorem vnil_box {b off : Nat} : vnil (some (.box b off)) = some (.box b off) := (rfl)
theorem vnil_val {a : Addr} : vnil (some (.val (.pointer (some a)))) = some (.val (.pointer (some a))) := (rfl)
def sl3K (P : Program) (t : Nat) (v : Value) (l h : Option (Option Int)) : Option AV := match l, h with
  | some l, some h => mapv (vslice P t v l h)
  | _, _ => none
theorem sl3K_ {t : Nat} {v : Value} {l h : Option Int} : sl3K P t v (some l) (some h) = mapv (vslice P t v l h) := (rfl)
theorem slice3_ {t : Nat} {v : Value} {lo hi : Option (Option AV)} : slice3 P t (some (.val v)) lo hi = sl3K P t v (vbound lo) (vbound hi) := by
  unfold slice3 sl3K
  cases vbound lo <;> cases vbound hi <;> rfl
theorem vbound_none : vbound none = some none := (rfl)
theorem vbound_some {kd : IntKind} {n : Int} : vbound (some (some (.val (.int kd n)))) = some (some n) := (rfl)
theorem vslice_str {t : Nat} {s : ByteArray} {lo hi : Option Int} : vslice P t (.string s) lo hi = if isStr P t ∧ 0 ≤ lo.getD 0 ∧ lo.getD 0 ≤ hi.getD s.size ∧ hi.getD s.size ≤ s.size then some (.string (s.extract (lo.getD 0).toNat (hi.getD s.size).toNat)) else none := (rfl)
def slA (z : Option Nat) (a : Option Addr) (len cap : Nat) (l h : Int) : Option Value := match z with
  | some z => if 0 ≤ l ∧ l ≤ h ∧ h ≤ cap ∧ len ≤ cap then some (.slice (if cap = l.toNat then a else a.map (·.add (l.toNat * z))) (h.toNat - l.toNat) (cap - l.toNat)) else none
  | none => none
theorem vslice_sl {t : Nat} {a : Option Addr} {len cap : Nat} {lo hi : Option Int} : vslice P t (.slice a len cap) lo hi = slA (elS P t) a len cap (lo.getD 0) (hi.getD len) := (rfl)
theorem slA_ {z : Nat} {a : Option Addr} {len cap : Nat} {l h : Int} : slA (some z) a len cap l h = if 0 ≤ l ∧ l ≤ h ∧ h ≤ cap ∧ len ≤ cap then some (.slice (if cap = l.toNat then a else a.map (·.add (l.toNat * z))) (h.toNat - l.toNat) (cap - l.toNat)) else none := (rfl)
theorem cells_agg {cs : List Value} : (Value.agg cs.toArray).cells.toList = cs := (rfl)
theorem cells_int {kd : IntKind} {n : Int} : (Value.int kd n).cells.toList = [.int kd n] := (rfl)
theorem cells_bool {b : Bool} : (Value.bool b).cells.toList = [.bool b] := (rfl)
theorem cells_str {s : ByteArray} : (Value.string s).cells.toList = [.string s] := (rfl)
theorem cells_sl {a : Option Addr} {n c : Nat} : (Value.slice a n c).cells.toList = [.slice a n c] := (rfl)
theorem cells_ptr {a : Option Addr} : (Value.pointer a).cells.toList = [.pointer a] := (rfl)
theorem cells_map {a : Option Nat} : (Value.map a).cells.toList = [.map a] := (rfl)
theorem one_cons {v : Value} {r : List Value} : oneCells (v :: r) = (oneCell v && oneCells r) := (rfl)
theorem one_nil : oneCells [] = true := (rfl)
theorem one_int {kd : IntKind} {n : Int} : oneCell (.int kd n) = true := (rfl)
theorem one_bool {b : Bool} : oneCell (.bool b) = true := (rfl)
theorem one_str {s : ByteArray} : oneCell (.string s) = true := (rfl)
theorem one_sl {a : Option Addr} {n c : Nat} : oneCell (.slice a n c) = true := (rfl)
theorem one_ptr {a : Option Addr} : oneCell (.pointer a) = true := (rfl)
theorem one_map {a : Option Nat} : oneCell (.map a) = true := (rfl)
theorem vbuild_ {pl : List (Nat × Nat)} {zc : List Value} {is : List Nat} {vs : List Value} : vbuild (some pl) (some zc) is (some vs) = (vparts pl (is.zip vs) zc).map fun cs => .val (.agg cs.toArray) := (rfl)
theorem vparts_nil {pl : List (Nat × Nat)} {cs : List Value} : vparts pl [] cs = some cs := (rfl)
def vpart (pl : List (Nat × Nat)) (q : Option (Nat × Nat)) (u : List Value) (r : List (Nat × Value)) (cs : List Value) : Option (List Value) := match q with
  | some (o, z) => if u.length = z ∧ o + z ≤ cs.length then vparts pl r (splice cs o u) else none
  | none => none
theorem vparts_cons {pl : List (Nat × Nat)} {i : Nat} {v : Value} {r : List (Nat × Value)} {cs : List Value} : vparts pl ((i, v) :: r) cs = vpart pl pl[i]? v.cells.toList r cs := (rfl)
theorem vpart_ {pl : List (Nat × Nat)} {o' z' : Nat} {u : List Value} {r : List (Nat × Value)} {cs : List Value} : vpart pl (some (o', z')) u r cs = if u.length = z' ∧ o' + z' ≤ cs.length then vparts pl r (splice cs o' u) else none := (rfl)
theorem aresL_nil : aresL P fr bx [] = some [] := (rfl)
def consO (a : Option Value) (b : Option (List Value)) : Option (List Value) := match a with
  | some v => b.map (v :: ·)
  | none => none
theorem consO_ {v : Value} {l : List Value} : consO (some v) (some l) = some (v :: l) := (rfl)
theorem aresL_cons {r : ResultVar} {rs : List ResultVar} : aresL P fr bx (r :: rs) = consO (ares1 P fr bx r) (aresL P fr bx rs) := (rfl)
def avO (a : Option AV) : Option Value := match a with
  | some (.val v) => some v
  | _ => none
theorem avO_ {v : Value} : avO (some (.val v)) = some v := (rfl)
theorem ares1_tmp {t : Nat} : ares1 P fr bx (.tmp t) = avO (lk fr t) := (rfl)
def cellO (P : Program) (ty : Nat) (bx : Bx) (a : Option AV) : Option Value := match a with
  | some (.box b off) => match lkb bx b with
    | some cs => avO (rdC (tyS P ty) (cs.drop off))
    | none => none
  | _ => none
theorem ares1_cell {t ty : Nat} : ares1 P fr bx (.cell t ty) = cellO P ty bx (lk fr t) := by
  simp only [ares1, cellO]
  cases lk fr t with
  | none => rfl
  | some v => cases v with
    | val v => rfl
    | box b off =>
      simp only
      cases lkb bx b with
      | none => rfl
      | some cs =>
        simp only [avO]
        cases rdC (tyS P ty) (cs.drop off) with
        | none => rfl
        | some v => cases v <;> rfl
def cellC (P : Program) (ty off : Nat) (c : Option (List Value)) : Option Value := match c with
  | some cs => avO (rdC (tyS P ty) (cs.drop off))
  | none => none
theorem cellO_ {ty b off : Nat} : cellO P ty bx (some (.box b off)) = cellC P ty off (lkb bx b) := (rfl)
theorem cellC_ {ty off : Nat} {cs : List Value} : cellC P ty off (some cs) = avO (rdC (tyS P ty) (cs.drop off)) := (rfl)
theorem avO_ite {c : Prop} [Decidable c] {v : Value} : avO (if c then some (.val v) else none) = if c then some v else none := by
  by_cases hc : c <;> simp [avO, hc]
theorem wrap1 {v : Value} : wrapRes [v] = v := (rfl)
theorem wrap0 : wrapRes [] = .tuple #[] := (rfl)
theorem wrap2 {v w : Value} {r : List Value} : wrapRes (v :: w :: r) = .tuple (v :: w :: r).toArray := (rfl)
theorem argFr0 : argFr 0 [] = [] := (rfl)
theorem argFr1 {a : Value} : argFr 0 [a] = [(0, .val a)] := (rfl)
theorem argFr2 {a b : Value} : argFr 0 [a, b] = [(0, .val a), (1, .val b)] := (rfl)
theorem argFr3 {a b c : Value} : argFr 0 [a, b, c] = [(0, .val a), (1, .val b), (2, .val c)] := (rfl)
theorem argFr4 {a b c e : Value} : argFr 0 [a, b, c, e] = [(0, .val a), (1, .val b), (2, .val c), (3, .val e)] := (rfl)
theorem argFr5 {a b c e f : Value} : argFr 0 [a, b, c, e, f] = [(0, .val a), (1, .val b), (2, .val c), (3, .val e), (4, .val f)] := (rfl)
theorem argFr6 {a b c e f u : Value} : argFr 0 [a, b, c, e, f, u] = [(0, .val a), (1, .val b), (2, .val c), (3, .val e), (4, .val f), (5, .val u)] := (rfl)
end
attribute [go_sem ↓] awp_skip awp_region awp_seq awp_cond awp_block awp_loop awp_draw awp_exit awp_ret thn_normal thn_exit thn_ret inBlk_normal inBlk_exit inBlk_ret aend_ret aend_normal
  arun_nil arun_cons astep_none astep_some aop_move aop_assign aop_pick aop_bin aop_un aop_extract aop_field aop_nil aop_index aop_indexAddr aop_slice aop_build aop_box aop_alloc aop_store aop_load
  aop_convert aop_buildSlice aop_makeSlice aop_makeMap aop_lookup aop_mapUpdate aop_makeFunc aop_len aop_append aop_cap aop_copy aop_call aop_callf
attribute [go_sem] aop_fieldV vfld_
attribute [go_sem] decide_true decide_false Bool.not_true Bool.not_false Option.map_some eq_self List.getElem?_cons_zero List.getElem?_cons_succ List.drop_zero List.drop_succ_cons List.take_zero List.take_succ_cons List.cons_append List.nil_append List.length_cons List.length_nil Nat.zero_add List.map_cons List.map_nil Kc_some Kc_none AK_ HK_ HKE_n HKE_s SK_ hop_ CbK_t CbK_f CdK_ RK1_ gstep_some gsel_bool gsel_undef gslot_zero gslot_succ GS_tt GS_ff GS_tf GS_ft GN_ aval_some_ vval_some_ cval_some_ aval_ite aval_ite' vval_ite cval_ite mapv_ite mapv_ite' Br_true Br_false
  put_some put_none lk_cons lkb_cons lkb_nil setb_cons ev_tmp ev_const ev_func mapv_some_ un1_some_ bin2_some_
  vals_nil vals_cons consV_ zip_c zip_n map_fst_c map_fst_n vpick_t vpick_f boxK_ ct_nil ct_cons nt_t nt_f Bool.true_and Bool.false_and boxV_t boxV_f alloK_t alloK_f stB_ stK_val stK_box stV_ ldC_ ldK_val ldK_val' ldK_vals ldK_box ldK_boxs rdC_agg rdC_one lenK_0 lenK_1 lenK_2 lnK_ vlen_0 vlen_1 vbin_add vbin_sub vbin_mul vbin_quo vbin_rem vbin_eql vbin_neq vbin_lss vbin_leq vbin_gtr vbin_geq vbin_sadd vbin_seql vbin_sneq
  vbin_slss vbin_sgtr vbin_beql vbin_bneq vbin_keql vbin_kneq nilC_tmp nilC_nil nilC_int nilC_bool nilC_str vbin_inil vbin_nnil vnilb_eql vnilb_neq vun_not vun_neg vext_ vconv_ cvK_int cvK_str cvK_sl vvK_ bsK_ val2_ val3_ msK_ luK_ muK_ mfK_ apK_ cqK_ cpK_ caK_ cfV_ cfK_ vindex_ vindexAddr_ vfield_box vfield_val fOff_ fO_ vnil_box vnil_val slice3_ sl3K_ Option.map_none Option.getD_some Option.getD_none Int.toNat_natCast vbound_none vbound_some vslice_str vslice_sl slA_
  cells_agg cells_int cells_bool cells_str cells_sl cells_ptr cells_map one_cons one_nil one_int one_bool one_str one_sl one_ptr one_map vbuild_ vparts_nil vparts_cons vpart_ aresL_nil consO_ aresL_cons avO_ ares1_tmp ares1_cell cellO_ cellC_ avO_ite wrap1 wrap0 wrap2 argFr0 argFr1 argFr2 argFr3 argFr4 argFr5 argFr6
  splice cond_true cond_false
end Go.Sx
