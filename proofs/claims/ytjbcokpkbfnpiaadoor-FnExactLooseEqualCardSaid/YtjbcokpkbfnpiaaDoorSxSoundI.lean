/-
  A part of the abstract machine over the model's Code, or of the proof that what it shows holds of the model; no program is in sight, and nothing is assumed.
-/
import Derived.Test.YtjbcokpkbfnpiaaDoorSxSoundH
namespace Go.Sx
open Go
section
variable {P : Program} {h0 h h' : Hp} {w0 w w' : World} {n : Nat} {β : Nat → Nat} {fr fr1 fr' : Fr} {bx bx1 : Bx} {a : Act} {ops : Array Oper} {hm lb pl : List Nat} {S : Option Hp}

/-- The model's states behind a set of abstract states. -/
def RK (h0 : Hp) (w0 : World) (n : Nat) (K : Fr → Bx → Hp → Prop) : Act → World → Prop :=
  fun a w => ∃ β fr bx h, Rel h0 w0 n β fr bx h a w ∧ K fr bx h

def KE (m : Mo) (K : Fr → Bx → Hp → Prop) (fr : Fr) (bx : Bx) (h : Hp) : Prop := ExtO m.hs h ∧ K fr bx h
theorem yielded_of {j t : Nat} (R : Rel h0 w0 n β fr bx h a w) (hj : (ops[j]?).bind (·.dst) = some t) {v : Value} (hv : lk fr t = some (.val v)) (ht : t < n) :
    yielded ops a.tmps j = match v with | .bool b => some b | _ => none := by
  have := R.tmps t _ hv
  simp only [conc] at this
  unfold yielded
  rw [hj]
  simp only [Option.bind_some]
  have hs : a.tmps[t]? = some v := by
    rw [Array.getElem?_eq_getElem (by rw [R.size]; exact ht)]
    rw [Array.getD_eq_getD_getElem?, Array.getElem?_eq_getElem (by rw [R.size]; exact ht)] at this
    simpa using this
  rw [hs]
  cases v <;> rfl

theorem wnt_sound (R : Rel h0 w0 n β fr bx h a w) (hops : ∀ o ∈ ops.toList, ∀ k, o.dst = some k → k < n) {o : Oper} {b : Bool} (hw : wnt ops o fr = some b) :
    Region.wanted o (yielded ops a.tmps) = b := by
  unfold wnt at hw
  unfold Region.wanted
  split at hw
  · rename_i hg; simp at hw; subst hw; rw [hg]
  · rename_i j want hg
    rw [hg]
    simp only
    split at hw
    · simp at hw
    · rename_i t ht
      have htn : t < n := by
        cases hoj : ops[j]? with
        | none => simp [hoj] at ht
        | some oj =>
          simp [hoj] at ht
          exact hops oj (by simpa using Array.mem_of_getElem? hoj) t ht
      split at hw
      · rename_i b' hb
        rw [yielded_of R ht hb htn]
        simp at hw
        simp [← hw]
      · rename_i vs hb
        rw [yielded_of R ht hb htn]
        simp at hw
        subst hw
        simp
      · simp at hw

theorem sstep_sound {m : Mo} {o : Oper} {Q : Exit → Act → World → Prop} {K : Fr → Bx → Hp → Prop} (R : Rel h0 w0 n β fr bx h a w) (hops : ∀ o ∈ ops.toList, ∀ k, o.dst = some k → k < n)
    (hd : ∀ k, o.dst = some k → k < n) (hE : ExtO m.hs h) (hA : sstep P m ops o K fr bx h) :
    if Region.wanted o (yielded ops a.tmps) then o.wp P a w (RK h0 w0 n (KE m K)) Q else RK h0 w0 n (KE m K) (a.put o.dst undef) w := by
  unfold sstep at hA
  split at hA
  · rename_i hw
    rw [wnt_sound R hops hw, if_pos rfl]
    exact Oper.wp_mono (fun a' w' ⟨v, bx', h', β', R', k⟩ => ⟨β', _, bx', h', R', k⟩) (aop_sound R hd hE hA)
  · rename_i hw
    rw [wnt_sound R hops hw, if_neg (by simp)]
    exact ⟨β, _, bx, h, R.put o.dst hd (.val undef) (by intro k off e; cases e), hE, hA⟩
  · exact hA.elim

/-- The step as it is laid open to a proof gives the step itself. -/
theorem astep_sstep {m : Mo} {o : Oper} {K : Fr → Bx → Hp → Prop} (hs : Gd m h) (hA : astep P m ops o K fr bx h) :
    sstep P m ops o (fun fr bx h => ∃ fr', Feq fr fr' ∧ K fr' bx h) fr bx h := by
  unfold astep at hA
  unfold sstep wnt
  split at hA
  · rename_i hg
    rw [hg]
    exact aop_mono' hs (fun v bx' h' _ k => ⟨_, fun _ => rfl, k⟩) hA
  · rename_i j want hg
    rw [hg]
    simp only
    split at hA
    · exact hA.elim
    · rename_i t ht
      rw [ht]
      simp only
      split at hA
      · rename_i b hb
        rw [hb]
        have hf : Feq fr ((t, .val (.bool b)) :: fr) := fun i => by
          simp only [lk]
          by_cases hti : t = i
          · subst hti; simp [hb]
          · have : (t == i) = false := by simp [hti]
            simp [this]
        simp only [Br] at hA
        split at hA
        · rename_i hbw
          subst hbw
          simp only [beq_self_eq_true]
          rw [aop_congr (fr' := (t, .val (.bool b)) :: fr) (fun x _ => hf.ev_ x)]
          exact aop_mono' hs (fun v bx' h' _ k => ⟨_, hf.put_ _ _, k⟩) hA
        · rename_i hbw
          have : (b == want) = false := by simp [hbw]
          simp only [this]
          exact ⟨_, hf.put_ _ _, hA⟩
      · rename_i vs hb
        rw [hb]
        exact ⟨_, fun _ => rfl, hA⟩
      · exact hA.elim

def clK (K : Fr → Bx → Hp → Prop) : Fr → Bx → Hp → Prop := fun fr bx h => ∃ fr', Feq fr fr' ∧ K fr' bx h
theorem clK_clo (K : Fr → Bx → Hp → Prop) : Clo (clK K) := fun _ _ _ _ e ⟨f, e', k⟩ => ⟨f, fun i => (e.symm' i).trans (e' i), k⟩
theorem arun_srun {m : Mo} {K : Fr → Bx → Hp → Prop} : ∀ (l : List Oper) (fr : Fr) (bx : Bx) (h : Hp), Gd m h → arun P m ops l K fr bx h → srun P m ops l (clK K) fr bx h
  | [], fr, bx, h, _, hA => ⟨fr, fun _ => rfl, hA⟩
  | o :: l, fr, bx, h, hs, hA => by
    refine sstep_mono' hs (fun fr bx h hw ⟨f, e, k⟩ => ?_) (astep_sstep hs hA)
    exact srun_clo (clK_clo K) l _ _ _ _ e.symm' (arun_srun l f bx h hw k)
theorem RK_clK {K : Fr → Bx → Hp → Prop} (h : RK h0 w0 n (clK K) a w) : RK h0 w0 n K a w := by
  obtain ⟨β, fr, bx, h, R, f, e, k⟩ := h
  exact ⟨β, f, bx, h, R.feq e, k⟩

/-! ### A region in the order of the text -/
theorem srun_list {m : Mo} {Q : Exit → Act → World → Prop} {K : Fr → Bx → Hp → Prop} (hops : ∀ o ∈ ops.toList, ∀ k, o.dst = some k → k < n) (hQ : ∀ a w, RK h0 w0 n K a w → Q .normal a w) :
    ∀ (l : List Oper), (∀ o ∈ l, ∀ k, o.dst = some k → k < n) → ∀ (β : Nat → Nat) (fr : Fr) (bx : Bx) (h : Hp) (a : Act) (w : World), Rel h0 w0 n β fr bx h a w → ExtO m.hs h → srun P m ops l K fr bx h → wpList P ops Q l a w
  | [], _, β, fr, bx, h, a, w, R, _, hA => hQ a w ⟨β, fr, bx, h, R, hA⟩
  | o :: l, hl, β, fr, bx, h, a, w, R, hE, hA => by
    have hst := sstep_sound (Q := Q) R hops (hl o (by simp)) hE hA
    have rest : ∀ a w, RK h0 w0 n (KE m (srun P m ops l K)) a w → wpList P ops Q l a w := fun a w ⟨β', fr', bx', h', R', k⟩ => srun_list hops hQ l (fun o ho => hl o (by simp [ho])) β' fr' bx' h' a w R' k.1 k.2
    unfold wpList
    split
    · rename_i hw
      rw [if_pos hw] at hst
      exact .inl (Oper.wp_mono rest hst)
    · rename_i hw
      rw [if_neg hw] at hst
      exact rest _ _ hst

/-! ### A region that draws its order -/
theorem anc_step {j i f : Nat} {o : Oper} (ho : ops[i]? = some o) (h : anc ops (f + 1) j i = true) : ∃ e ∈ o.after.toList, Region.binds .any e = true ∧ (e.on = j ∨ anc ops f j e.on = true) := by
  simp only [anc, ho, List.any_eq_true, Bool.and_eq_true, Bool.or_eq_true, beq_iff_eq] at h
  obtain ⟨e, he, hb, hc⟩ := h
  exact ⟨e, he, hb, hc⟩
theorem anc_listed {listed : Array Bool} (hdown : ∀ i o, ops[i]? = some o → listed.getD i false = true → ∀ e ∈ o.after, Region.binds .any e = true → listed.getD e.on false = true) :
    ∀ (f j i : Nat), listed.getD i false = true → anc ops f j i = true → listed.getD j false = true
  | 0, j, i, _, h => by simp [anc] at h
  | f + 1, j, i, hi, h => by
    cases ho : ops[i]? with
    | none => simp [anc, ho] at h
    | some o =>
      obtain ⟨e, he, hb, hc⟩ := anc_step ho h
      have hl := hdown i o ho hi e (by simpa using he) hb
      rcases hc with rfl | hc
      · exact hl
      · exact anc_listed hdown f j e.on hl hc

structure Left (ops : Array Oper) (listed : Array Bool) (idx : List Nat) : Prop where
  size : listed.size = ops.size
  mem : ∀ j, j < ops.size → (listed.getD j true = false ↔ j ∈ idx)
  lt : ∀ j ∈ idx, j < ops.size
  sorted : idx.Pairwise (· < ·)
  down : ∀ i o, ops[i]? = some o → listed.getD i false = true → ∀ e ∈ o.after, Region.binds .any e = true → listed.getD e.on false = true

theorem getD_tf {listed : Array Bool} {j : Nat} (hj : j < listed.size) : listed.getD j true = listed.getD j false := by
  simp [hj]

theorem sdraw {m : Mo} {Q : Exit → Act → World → Prop} {K : Fr → Bx → Hp → Prop} (hops : ∀ o ∈ ops.toList, ∀ k, o.dst = some k → k < n) (hok : okDraw P m.hm m.lb m.pl ops = true) (hK : Clo K) (hQ : ∀ a w, RK h0 w0 n K a w → Q .normal a w) :
    ∀ (idx : List Nat) (fuel : Nat) (listed : Array Bool) (l : List Oper), fuel = idx.length → Left ops listed idx → idx.map (ops[·]?) = l.map some →
      ∀ (β : Nat → Nat) (fr : Fr) (bx : Bx) (h : Hp) (a : Act) (w : World), Rel h0 w0 n β fr bx h a w → ExtO m.hs h → srun P m ops l K fr bx h → wpAny P .any ops Q fuel listed a w := by
  intro idx fuel
  induction fuel generalizing idx with
  | zero =>
    intro listed l hf L hl β fr bx h a w R hE hA
    have hidx : idx = [] := List.eq_nil_of_length_eq_zero hf.symm
    subst hidx
    have hl0 : l = [] := by cases l <;> simp at hl ⊢
    subst hl0
    refine ⟨?_, hQ a w ⟨β, fr, bx, h, R, hA⟩⟩
    apply List.eq_nil_iff_forall_not_mem.2
    intro i hi
    obtain ⟨h1, o, ho, _⟩ := mem_ready.1 hi
    have := (L.mem i (Array.getElem?_eq_some_iff.1 ho).1).1 h1
    simp at this
  | succ fuel ih =>
    intro listed l hf L hl β fr bx h a w R hE hA
    have hok' := hok
    simp only [okDraw, List.all_eq_true, List.mem_range] at hok'
    constructor
    · -- the first that is left is ready
      intro hr
      exfalso
      cases idx with
      | nil => simp at hf
      | cons i r =>
        have hi := L.lt i (by simp)
        have hrdy : i ∈ Region.ready .any ops listed := by
          refine mem_ready.2 ⟨(L.mem i hi).2 (by simp), ops[i], by simp [hi], fun e he hb => ?_⟩
          have h1 := hok' i hi
          simp only [hi, getElem?_pos, Option.map_some, Option.getD_some, Bool.and_eq_true, List.all_eq_true, Bool.or_eq_true, Bool.not_eq_true', decide_eq_true_eq] at h1
          have hlt := (h1.1 e (by simpa using he)).resolve_left (by rw [hb]; simp)
          have hne : ¬ e.on ∈ (i :: r) := by
            intro hm
            rcases List.mem_cons.1 hm with rfl | hm
            · exact Nat.lt_irrefl _ hlt
            · have := (List.pairwise_cons.1 L.sorted).1 _ hm
              omega
          have hlt' : e.on < ops.size := by omega
          cases hv : listed.getD e.on true with
          | false => exact absurd ((L.mem e.on hlt').1 hv) hne
          | true => rw [← getD_tf (by rw [L.size]; exact hlt'), hv]
        rw [hr] at hrdy
        cases hrdy
    · intro i hi
      obtain ⟨hun, o, ho, haft⟩ := mem_ready.1 hi
      have hilt := (Array.getElem?_eq_some_iff.1 ho).1
      have him := (L.mem i hilt).1 hun
      obtain ⟨A, B, rfl⟩ := List.append_of_mem him
      -- the list in two pieces
      rw [List.map_append, List.map_cons] at hl
      obtain ⟨lA, lB', rfl, hA1, hB1⟩ := List.map_eq_append_iff.1 hl.symm
      obtain ⟨o', lB, rfl, ho', hB2⟩ := List.map_eq_cons_iff.1 hB1
      have hoo : o' = o := by rw [ho] at ho'; simpa using ho'
      subst hoo
      have hsort := L.sorted
      rw [List.pairwise_append] at hsort
      have hb := bubble (P := P) (ops := ops) (hm := m.hm) (lb := m.lb) (pl := m.pl) (S := m.hs) hK lB lA fr bx h ⟨⟨w, R.sim⟩, hE⟩ (fun x hx => by
        have : some x ∈ lA.map some := List.mem_map.2 ⟨x, hx, rfl⟩
        rw [hA1] at this
        obtain ⟨j, hj, hjx⟩ := List.mem_map.1 this
        have hji : j < i := hsort.2.2 j hj i (by simp)
        have hj2 := hok' i hilt
        simp only [Bool.and_eq_true, List.all_eq_true, List.mem_range, Bool.or_eq_true] at hj2
        rcases hj2.2 j hji with hanc | hc
        · exfalso
          have hsz : ops.size = (ops.size - 1) + 1 := by omega
          rw [hsz] at hanc
          obtain ⟨e, he, hb, hcc⟩ := anc_step ho hanc
          have hl1 := haft e (by simpa using he) hb
          have hjl : listed.getD j false = true := by
            rcases hcc with rfl | hcc
            · exact hl1
            · exact anc_listed L.down _ _ _ hl1 hcc
          have hjs := L.lt j (by simp [hj])
          have hjm := (L.mem j hjs).2 (by simp [hj])
          rw [getD_tf (by rw [L.size]; exact hjs), hjl] at hjm
          cases hjm
        · rw [hjx, ho] at hc
          simpa using hc) hA
      have hst := sstep_sound (Q := Q) R hops (hops o' (by simpa using Array.mem_of_getElem? ho)) hE hb
      have L' : Left ops (listed.setIfInBounds i true) (A ++ B) := by
        have hnd : i ∉ A ++ B := by
          intro hm
          rcases List.mem_append.1 hm with hm | hm
          · exact Nat.lt_irrefl _ (hsort.2.2 i hm i (by simp))
          · exact Nat.lt_irrefl _ ((List.pairwise_cons.1 hsort.2.1).1 i hm)
        refine ⟨by simp [L.size], fun j hj => ?_, fun j hj => L.lt j ?_, ?_, fun k ok hk hkl e he hb => ?_⟩
        · by_cases hji : j = i
          · subst hji
            have hs2 : j < listed.size := by rw [L.size]; exact hj
            simp only [Array.getD_eq_getD_getElem?, Array.getElem?_setIfInBounds_self_of_lt hs2, Option.getD_some]
            exact ⟨fun h => (by cases h), fun h => absurd h hnd⟩
          · rw [getD_set_ne true (fun e => hji e.symm), L.mem j hj]
            simp only [List.mem_append, List.mem_cons]
            constructor
            · rintro (h | h | h)
              · exact .inl h
              · exact absurd h hji
              · exact .inr h
            · rintro (h | h)
              · exact .inl h
              · exact .inr (.inr h)
        · rcases List.mem_append.1 hj with hj | hj
          · simp [hj]
          · simp [hj]
        · rw [List.pairwise_append]
          exact ⟨hsort.1, (List.pairwise_cons.1 hsort.2.1).2, fun x hx y hy => hsort.2.2 x hx y (by simp [hy])⟩
        · by_cases hki : k = i
          · subst hki
            rw [ho] at hk
            simp at hk
            subst hk
            exact getD_set_true (haft e he hb)
          · rw [getD_set_ne false (fun e => hki e.symm)] at hkl
            exact getD_set_true (L.down k ok hk hkl e he hb)
      have rest : ∀ a w, RK h0 w0 n (KE m (srun P m ops (lA ++ lB) K)) a w → wpAny P .any ops Q fuel (listed.setIfInBounds i true) a w :=
        fun a w ⟨β', fr', bx', h', R', k⟩ => ih (A ++ B) _ (lA ++ lB) (by simp at hf ⊢; omega) L' (by rw [List.map_append, List.map_append, hA1, hB2]) β' fr' bx' h' a w R' k.1 k.2
      unfold wpOp
      rw [ho]
      simp only
      split
      · rename_i hw
        rw [if_pos hw] at hst
        exact .inl (Oper.wp_mono rest hst)
      · rename_i hw
        rw [if_neg hw] at hst
        exact rest _ _ hst

theorem region_draw {id : Nat} {Q : Exit → Act → World → Prop} {K : Fr → Bx → Hp → Prop} (hmix : P.follows .mixedOrders = true) (hops : ∀ o ∈ ops.toList, ∀ k, o.dst = some k → k < n)
    (hQ : ∀ a w, RK h0 w0 n K a w → Q .normal a w) (R : Rel h0 w0 n β fr bx h a w) (hA : regionD (fun m => m.hm = hm ∧ okDraw P hm m.lb m.pl ops = true) (fun m => arun P m ops ops.toList K fr bx h) h) :
    (Code.region id ops true).wp P Q a w := by
  obtain ⟨m, hE, ⟨hmm, hok⟩, hr⟩ := hA
  rw [← hmm] at hok
  refine wp_region_any hmix ?_
  have R' : Rel h0 w0 n β fr bx h a { w with drawn := w.drawn + 1 } := ⟨⟨R.tmps, R.boxes⟩, R.defers, R.size, ⟨R.sim.vis⟩, ⟨R.frm.os, R.frm.tape, R.frm.output, R.frm.size, R.frm.priv⟩, R.priv, R.inj, R.refs⟩
  have hs := arun_srun ops.toList fr bx h ⟨⟨w, R.sim⟩, hE⟩ hr
  refine sdraw (m := m) hops hok (clK_clo K) (fun a w k => hQ a w (RK_clK k)) (List.range ops.size) ops.size (Array.replicate ops.size false) ops.toList (by simp) ?_ ?_ β fr bx h a _ R' hE hs
  · refine ⟨by simp, fun j hj => by simp [hj], fun j hj => by simpa using hj, List.pairwise_lt_range, fun i o ho hi => ?_⟩
    exfalso
    have hlt := (Array.getElem?_eq_some_iff.1 ho).1
    simp [hlt] at hi
  · apply List.ext_getElem?
    intro i
    simp only [List.getElem?_map]
    by_cases hi : i < ops.size
    · simp [hi]
    · simp [hi]

/-! ### Code -/
def RQ (h0 : Hp) (w0 : World) (n : Nat) (Q : Post) : Exit → Act → World → Prop := fun e => RK h0 w0 n (Q e)

theorem awp_sound (hmix : P.follows .mixedOrders = true) : ∀ (c : Code), okCode n c = true → ∀ (Q : Post) (β : Nat → Nat) (fr : Fr) (bx : Bx) (h : Hp) (a : Act) (w : World), Rel h0 w0 n β fr bx h a w →
    awp P hm c Q fr bx h → c.wp P (RQ h0 w0 n Q) a w
  | .skip, _, Q, β, fr, bx, h, a, w, R, hA => wp_skip ⟨β, fr, bx, h, R, hA⟩
  | .region id ops dr, hk, Q, β, fr, bx, h, a, w, R, hA => by
    have hops : ∀ o ∈ ops.toList, ∀ k, o.dst = some k → k < n := by
      intro o ho k hd
      simp only [okCode, List.all_eq_true] at hk
      have := hk o ho
      simp [okOper, hd] at this
      exact this.1
    cases dr with
    | false =>
      refine wp_region_list ?_
      exact srun_list (m := { hm := hm }) hops (fun a w k => RK_clK k) ops.toList hops β fr bx h a w R trivial (arun_srun ops.toList fr bx h ⟨⟨w, R.sim⟩, trivial⟩ hA)
    | true => exact region_draw (hm := hm) hmix hops (fun a w k => k) R hA
  | .seq x y, hk, Q, β, fr, bx, h, a, w, R, hA => by
    simp only [okCode, Bool.and_eq_true] at hk
    refine wp_seq (Code.wp_mono (fun e a w k => ?_) (awp_sound hmix x hk.1 (thn (awp P hm y Q) Q) β fr bx h a w R hA))
    cases e with
    | normal =>
      obtain ⟨β', fr', bx', h', R', k'⟩ := k
      exact awp_sound hmix y hk.2 Q β' fr' bx' h' a w R' k'
    | exit id => exact k
    | goto l => exact k
    | ret => exact k
    | panic ch => exact k
    | outgrown => exact k
  | .cond c x y, hk, Q, β, fr, bx, h, a, w, R, hA => by
    simp only [okCode, Bool.and_eq_true] at hk
    simp only [awp] at hA
    obtain ⟨v, hv, hA⟩ := vval_some hA
    split at hA
    · rename_i b
      have hc := R.toLoc.ev_ hv
      simp only [conc] at hc
      refine wp_cond hc ?_
      simp only [Br] at hA
      cases b with
      | true => exact awp_sound hmix x hk.1 Q β fr bx h a w R hA
      | false => exact awp_sound hmix y hk.2 Q β fr bx h a w R hA
    · exact hA.elim
  | .block id x, hk, Q, β, fr, bx, h, a, w, R, hA => by
    refine wp_block (Code.wp_mono (fun e a w k => ?_) (awp_sound hmix x (by simpa [okCode] using hk) (inBlk id Q) β fr bx h a w R hA))
    cases e with
    | exit i =>
      simp only [Exit.inBlock]
      obtain ⟨β', fr', bx', h', R', k'⟩ := k
      simp only [inBlk] at k'
      split
      · rename_i hi; rw [if_pos hi] at k'; exact ⟨β', fr', bx', h', R', k'⟩
      · rename_i hi; rw [if_neg hi] at k'; exact ⟨β', fr', bx', h', R', k'⟩
    | normal => exact k
    | goto l => exact k
    | ret => exact k
    | panic ch => exact k
    | outgrown => exact k
  | .loop x, hk, Q, β, fr, bx, h, a, w, R, hA => by
    obtain ⟨I, ⟨k0, fr1, bx1, hw1, hI⟩, round⟩ := hA
    have R1 := R.weak hw1
    -- the measure: the least number at which the relation holds
    refine wp_loop (fun a w => ∃ k, RK h0 w0 n (I k) a w) (fun a w => Classical.epsilon fun k => RK h0 w0 n (I k) a w ∧ ∀ j, RK h0 w0 n (I j) a w → k ≤ j) ⟨k0, β, fr1, bx1, h, R1, hI⟩ ?_
    intro a w hI
    have least : ∀ (a : Act) (w : World), (∃ k, RK h0 w0 n (I k) a w) → ∃ k, RK h0 w0 n (I k) a w ∧ ∀ j, RK h0 w0 n (I j) a w → k ≤ j := by
      intro a w ⟨k, hk⟩
      induction k using Nat.strongRecOn with
      | _ k ih =>
        by_cases hj : ∃ j, j < k ∧ RK h0 w0 n (I j) a w
        · obtain ⟨j, hlt, hj⟩ := hj
          exact ih j hlt hj
        · exact ⟨k, hk, fun j hj' => Nat.le_of_not_lt fun hlt => hj ⟨j, hlt, hj'⟩⟩
    obtain ⟨hIk, _⟩ := Classical.epsilon_spec (least a w hI)
    generalize Classical.epsilon (fun k => RK h0 w0 n (I k) a w ∧ ∀ j, RK h0 w0 n (I j) a w → k ≤ j) = k at hIk
    obtain ⟨β', fr', bx', h', R', hIk⟩ := hIk
    refine Code.wp_mono (fun e a' w' q => ?_) (awp_sound hmix x (by simpa [okCode] using hk) _ β' fr' bx' h' a w R' (round k fr' bx' h' hIk))
    cases e with
    | normal =>
      obtain ⟨β2, fr2, bx2, h2, R2, j, fr3, bx3, hlt, hw3, hI3⟩ := q
      have hj : RK h0 w0 n (I j) a' w' := ⟨β2, fr3, bx3, h2, R2.weak hw3, hI3⟩
      refine ⟨⟨j, hj⟩, ?_⟩
      have hsp := Classical.epsilon_spec (least a' w' ⟨j, hj⟩)
      exact Nat.lt_of_le_of_lt (hsp.2 j hj) hlt
    | exit id => exact q
    | goto l => exact q
    | ret => exact q
    | panic ch => exact q
    | outgrown => exact q
  | .exit id, _, Q, β, fr, bx, h, a, w, R, hA => wp_exit ⟨β, fr, bx, h, R, hA⟩
  | .ret, _, Q, β, fr, bx, h, a, w, R, hA => wp_ret ⟨β, fr, bx, h, R, hA⟩
  | .scope _, hk, _, _, _, _, _, _, _, _, _ => by simp [okCode] at hk
  | .label _, hk, _, _, _, _, _, _, _, _, _ => by simp [okCode] at hk
  | .goto _, hk, _, _, _, _, _, _, _, _, _ => by simp [okCode] at hk
  | .rangeFunc _ _ _ _, hk, _, _, _, _, _, _, _, _, _ => by simp [okCode] at hk
  | .refuse _, hk, _, _, _, _, _, _, _, _, _ => by simp [okCode] at hk

/-! ### A function -/
theorem argFr_lk : ∀ (vs : List Value) (i j : Nat) (v : AV), lk (argFr i vs) j = some v → ∃ u, v = .val u ∧ i ≤ j ∧ vs[j - i]? = some u
  | [], i, j, v, h => by simp [argFr, lk] at h
  | u :: vs, i, j, v, h => by
    simp only [argFr, lk] at h
    by_cases hij : i = j
    · subst hij
      simp at h
      exact ⟨u, h.symm, Nat.le_refl _, by simp⟩
    · have : (i == j) = false := by simp [hij]
      simp only [this, cond_false] at h
      obtain ⟨u', h1, h2, h3⟩ := argFr_lk vs (i + 1) j v h
      refine ⟨u', h1, by omega, ?_⟩
      rw [show j - i = (j - (i + 1)) + 1 by omega]
      simpa using h3

theorem ares1_run (R : Rel h0 w0 n β fr bx h a w) {r : ResultVar} {v : Value} (hr : ares1 P fr bx r = some v) :
    ((match r with | .tmp t => pure (a.tmps.getD t undef) | .cell t ty => (Instr.loadAt ty (a.tmps.getD t undef)) : Sem Value)).run P w = .ok v w := by
  cases r with
  | tmp t =>
    simp only [ares1] at hr
    split at hr
    · rename_i u hu
      simp at hr
      subst hr
      simp only [Sem.run_pure]
      rw [R.tmps t _ hu]
      rfl
    · simp at hr
  | cell t ty =>
    simp only [ares1] at hr
    split at hr
    · rename_i k off hk
      split at hr
      · rename_i cs hcs
        split at hr
        · rename_i u hu
          simp at hr
          subst hr
          obtain ⟨u', e, hrun⟩ := rdC_run (P := P) (t := ty) R.toLoc hcs hu
          cases e
          simp only
          rw [R.tmps t _ hk]
          exact hrun
        · simp at hr
      · simp at hr
    · simp at hr
end
end Go.Sx
