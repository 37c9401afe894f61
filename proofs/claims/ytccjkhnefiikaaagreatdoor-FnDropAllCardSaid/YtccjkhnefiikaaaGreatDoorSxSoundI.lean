/-
  A part of the abstract machine over the model's Code, or of the proof that what it shows holds of the model; no program is in sight, and nothing is assumed.
-/
import Derived.Test.YtccjkhnefiikaaaGreatDoorSxSoundH
namespace Go.Sx
open Go
section
variable {P : Program} {h0 h h' : Hp} {w0 w w' : World} {n : Nat} {β : Nat → Nat} {fr fr1 fr' : Fr} {bx bx1 : Bx} {a : Act} {ops : Array Oper} {hm lb pl : List Nat} {S : Option Hp}

/-- The model's states behind a set of abstract states. -/
def RK (h0 : Hp) (w0 : World) (n : Nat) (K : Fr → Bx → Hp → Prop) : Act → World → Prop :=
  fun a w => ∃ β fr bx h, Rel h0 w0 n β fr bx h a w ∧ K fr bx h

def KE (m : Mo) (K : Fr → Bx → Hp → Prop) (fr : Fr) (bx : Bx) (h : Hp) : Prop := ExtO m.hs h ∧ K fr bx h
theorem yielded_of {j t : Nat} (R : Rel h0 w0 n β fr bx h a w) (hj : (ops[j]?).bind (·.dst) = some t) {v : Value} (hv : lk fr t = some (.val v)) (ht : t < n) :
    yielded ops a.tmps j = match v with | .bool b => some b | _ => none := by
  have := R.tmps t _ hv
  simp only [conc] at this
  unfold yielded
  rw [hj]
  simp only [Option.bind_some]
  have hs : a.tmps[t]? = some v := by
    rw [Array.getElem?_eq_getElem (by rw [R.size]; exact ht)]
    rw [Array.getD_eq_getD_getElem?, Array.getElem?_eq_getElem (by rw [R.size]; exact ht)] at this
    simpa using this
  rw [hs]
  cases v <;> rfl

theorem wnt_sound (R : Rel h0 w0 n β fr bx h a w) (hops : ∀ o ∈ ops.toList, ∀ k, o.dst = some k → k < n) {o : Oper} {b : Bool} (hw : wnt ops o fr = some b) :
    Region.wanted o (yielded ops a.tmps) = b := by
  unfold wnt at hw
  unfold Region.wanted
  split at hw
  · rename_i hg; simp at hw; subst hw; rw [hg]
  · rename_i j want hg
    rw [hg]
    simp only
    split at hw
    · simp at hw
    · rename_i t ht
      have htn : t < n := by
        cases hoj : ops[j]? with
        | none => simp [hoj] at ht
        | some oj =>
          simp [hoj] at ht
          exact hops oj (by simpa using Array.mem_of_getElem? hoj) t ht
      split at hw
      · rename_i b' hb
        rw [yielded_of R ht hb htn]
        simp at hw
        simp [← hw]
      · rename_i vs hb
        rw [yielded_of R ht hb htn]
        simp at hw
        subst hw
        simp
      · simp at hw

theorem sstep_sound {m : Mo} {o : Oper} {Q : Exit → Act → World → Prop} {K : Fr → Bx → Hp → Prop} (R : Rel h0 w0 n β fr bx h a w) (hops : ∀ o ∈ ops.toList, ∀ k, o.dst = some k → k < n)
    (hd : ∀ k, o.dst = some k → k < n) (hE : ExtO m.hs h) (hA : sstep P m ops o K fr bx h) :
    if Region.wanted o (yielded ops a.tmps) then o.wp P a w (RK h0 w0 n (KE m K)) Q else RK h0 w0 n (KE m K) (a.put o.dst undef) w := by
  unfold sstep at hA
  split at hA
  · rename_i hw
    rw [wnt_sound R hops hw, if_pos rfl]
    exact Oper.wp_mono (fun a' w' ⟨v, bx', h', β', R', k⟩ => ⟨β', _, bx', h', R', k⟩) (aop_sound R hd hE hA)
  · rename_i hw
    rw [wnt_sound R hops hw, if_neg (by simp)]
    exact ⟨β, _, bx, h, R.put o.dst hd (.val undef) (by intro k off e; cases e), hE, hA⟩
  · exact hA.elim

/-- The step as it is laid open to a proof gives the step itself. -/
theorem astep_sstep {m : Mo} {o : Oper} {K : Fr → Bx → Hp → Prop} (hs : Gd m h) (hA : astep P m ops o K fr bx h) :
    sstep P m ops o (fun fr bx h => ∃ fr', Feq fr fr' ∧ K fr' bx h) fr bx h := by
  unfold astep at hA
  unfold sstep wnt
  split at hA
  · rename_i hg
    rw [hg]
    exact aop_mono' hs (fun v bx' h' _ k => ⟨_, fun _ => rfl, k⟩) hA
  · rename_i j want hg
    rw [hg]
    simp only
    split at hA
    · exact hA.elim
    · rename_i t ht
      rw [ht]
      simp only
      split at hA
      · rename_i b hb
        rw [hb]
        have hf : Feq fr ((t, .val (.bool b)) :: fr) := fun i => by
          simp only [lk]
          by_cases hti : t = i
          · subst hti; simp [hb]
          · have : (t == i) = false := by simp [hti]
            simp [this]
        simp only [Br] at hA
        split at hA
        · rename_i hbw
          subst hbw
          simp only [beq_self_eq_true]
          rw [aop_congr (fr' := (t, .val (.bool b)) :: fr) (fun x _ => hf.ev_ x)]
          exact aop_mono' hs (fun v bx' h' _ k => ⟨_, hf.put_ _ _, k⟩) hA
        · rename_i hbw
          have : (b == want) = false := by simp [hbw]
          simp only [this]
          exact ⟨_, hf.put_ _ _, hA⟩
      · rename_i vs hb
        rw [hb]
        exact ⟨_, fun _ => rfl, hA⟩
      · exact hA.elim

def clK (K : Fr → Bx → Hp → Prop) : Fr → Bx → Hp → Prop := fun fr bx h => ∃ fr' bx', Feq fr fr' ∧ Beq bx bx' ∧ K fr' bx' h
theorem clK_clo (K : Fr → Bx → Hp → Prop) : Clo (clK K) := ⟨fun _ _ _ _ e ⟨f, b, e', eb, k⟩ => ⟨f, b, fun i => (e.symm' i).trans (e' i), eb, k⟩, fun _ _ _ _ e ⟨f, b, e', eb, k⟩ => ⟨f, b, e', fun i => (e i).symm.trans (eb i), k⟩⟩
theorem arun_srun {m : Mo} {K : Fr → Bx → Hp → Prop} : ∀ (l : List Oper) (fr : Fr) (bx : Bx) (h : Hp), Gd m h → arun P m ops l K fr bx h → srun P m ops l (clK K) fr bx h
  | [], fr, bx, h, _, hA => ⟨fr, bx, fun _ => rfl, fun _ => rfl, hA⟩
  | o :: l, fr, bx, h, hs, hA => by
    refine sstep_mono' hs (fun fr bx h hw ⟨f, e, k⟩ => ?_) (astep_sstep hs hA)
    exact (srun_clo (clK_clo K) l).1 _ _ _ _ e.symm' (arun_srun l f bx h hw k)
theorem RK_clK {K : Fr → Bx → Hp → Prop} (h : RK h0 w0 n (clK K) a w) : RK h0 w0 n K a w := by
  obtain ⟨β, fr, bx, h, R, f, b, e, eb, k⟩ := h
  exact ⟨β, f, b, h, (R.feq e).beq eb, k⟩

/-! ### A region in the order of the text -/
theorem srun_list {m : Mo} {Q : Exit → Act → World → Prop} {K : Fr → Bx → Hp → Prop} (hops : ∀ o ∈ ops.toList, ∀ k, o.dst = some k → k < n) (hQ : ∀ a w, RK h0 w0 n K a w → Q .normal a w) :
    ∀ (l : List Oper), (∀ o ∈ l, ∀ k, o.dst = some k → k < n) → ∀ (β : Nat → Nat) (fr : Fr) (bx : Bx) (h : Hp) (a : Act) (w : World), Rel h0 w0 n β fr bx h a w → ExtO m.hs h → srun P m ops l K fr bx h → wpList P ops Q l a w
  | [], _, β, fr, bx, h, a, w, R, _, hA => hQ a w ⟨β, fr, bx, h, R, hA⟩
  | o :: l, hl, β, fr, bx, h, a, w, R, hE, hA => by
    have hst := sstep_sound (Q := Q) R hops (hl o (by simp)) hE hA
    have rest : ∀ a w, RK h0 w0 n (KE m (srun P m ops l K)) a w → wpList P ops Q l a w := fun a w ⟨β', fr', bx', h', R', k⟩ => srun_list hops hQ l (fun o ho => hl o (by simp [ho])) β' fr' bx' h' a w R' k.1 k.2
    unfold wpList
    split
    · rename_i hw
      rw [if_pos hw] at hst
      exact .inl (Oper.wp_mono rest hst)
    · rename_i hw
      rw [if_neg hw] at hst
      exact rest _ _ hst

/-! ### A region that draws its order -/
theorem anc_step {j i f : Nat} {o : Oper} (ho : ops[i]? = some o) (h : anc ops (f + 1) j i = true) : ∃ e ∈ o.after.toList, Region.binds .any e = true ∧ (e.on = j ∨ anc ops f j e.on = true) := by
  simp only [anc, ho, List.any_eq_true, Bool.and_eq_true, Bool.or_eq_true, beq_iff_eq] at h
  obtain ⟨e, he, hb, hc⟩ := h
  exact ⟨e, he, hb, hc⟩
theorem anc_listed {listed : Array Bool} (hdown : ∀ i o, ops[i]? = some o → listed.getD i false = true → ∀ e ∈ o.after, Region.binds .any e = true → listed.getD e.on false = true) :
    ∀ (f j i : Nat), listed.getD i false = true → anc ops f j i = true → listed.getD j false = true
  | 0, j, i, _, h => by simp [anc] at h
  | f + 1, j, i, hi, h => by
    cases ho : ops[i]? with
    | none => simp [anc, ho] at h
    | some o =>
      obtain ⟨e, he, hb, hc⟩ := anc_step ho h
      have hl := hdown i o ho hi e (by simpa using he) hb
      rcases hc with rfl | hc
      · exact hl
      · exact anc_listed hdown f j e.on hl hc

structure Left (ops : Array Oper) (listed : Array Bool) (idx : List Nat) : Prop where
  size : listed.size = ops.size
  mem : ∀ j, j < ops.size → (listed.getD j true = false ↔ j ∈ idx)
  lt : ∀ j ∈ idx, j < ops.size
  sorted : idx.Pairwise (· < ·)
  down : ∀ i o, ops[i]? = some o → listed.getD i false = true → ∀ e ∈ o.after, Region.binds .any e = true → listed.getD e.on false = true

theorem getD_tf {listed : Array Bool} {j : Nat} (hj : j < listed.size) : listed.getD j true = listed.getD j false := by
  simp [hj]

theorem sdraw {m : Mo} {Q : Exit → Act → World → Prop} {K : Fr → Bx → Hp → Prop} (hops : ∀ o ∈ ops.toList, ∀ k, o.dst = some k → k < n) (hok : okDraw P m.hm m.lb m.pl ops = true) (hK : Clo K) (hQ : ∀ a w, RK h0 w0 n K a w → Q .normal a w) :
    ∀ (idx : List Nat) (fuel : Nat) (listed : Array Bool) (l : List Oper), fuel = idx.length → Left ops listed idx → idx.map (ops[·]?) = l.map some →
      ∀ (β : Nat → Nat) (fr : Fr) (bx : Bx) (h : Hp) (a : Act) (w : World), Rel h0 w0 n β fr bx h a w → ExtO m.hs h → srun P m ops l K fr bx h → wpAny P .any ops Q fuel listed a w := by
  intro idx fuel
  induction fuel generalizing idx with
  | zero =>
    intro listed l hf L hl β fr bx h a w R hE hA
    have hidx : idx = [] := List.eq_nil_of_length_eq_zero hf.symm
    subst hidx
    have hl0 : l = [] := by cases l <;> simp at hl ⊢
    subst hl0
    refine ⟨?_, hQ a w ⟨β, fr, bx, h, R, hA⟩⟩
    apply List.eq_nil_iff_forall_not_mem.2
    intro i hi
    obtain ⟨h1, o, ho, _⟩ := mem_ready.1 hi
    have := (L.mem i (Array.getElem?_eq_some_iff.1 ho).1).1 h1
    simp at this
  | succ fuel ih =>
    intro listed l hf L hl β fr bx h a w R hE hA
    have hok' := hok
    simp only [okDraw, List.all_eq_true, List.mem_range] at hok'
    constructor
    · -- the first that is left is ready
      intro hr
      exfalso
      cases idx with
      | nil => simp at hf
      | cons i r =>
        have hi := L.lt i (by simp)
        have hrdy : i ∈ Region.ready .any ops listed := by
          refine mem_ready.2 ⟨(L.mem i hi).2 (by simp), ops[i], by simp [hi], fun e he hb => ?_⟩
          have h1 := hok' i hi
          simp only [hi, getElem?_pos, Option.map_some, Option.getD_some, Bool.and_eq_true, List.all_eq_true, Bool.or_eq_true, Bool.not_eq_true', decide_eq_true_eq] at h1
          have hlt := (h1.1 e (by simpa using he)).resolve_left (by rw [hb]; simp)
          have hne : ¬ e.on ∈ (i :: r) := by
            intro hm
            rcases List.mem_cons.1 hm with rfl | hm
            · exact Nat.lt_irrefl _ hlt
            · have := (List.pairwise_cons.1 L.sorted).1 _ hm
              omega
          have hlt' : e.on < ops.size := by omega
          cases hv : listed.getD e.on true with
          | false => exact absurd ((L.mem e.on hlt').1 hv) hne
          | true => rw [← getD_tf (by rw [L.size]; exact hlt'), hv]
        rw [hr] at hrdy
        cases hrdy
    · intro i hi
      obtain ⟨hun, o, ho, haft⟩ := mem_ready.1 hi
      have hilt := (Array.getElem?_eq_some_iff.1 ho).1
      have him := (L.mem i hilt).1 hun
      obtain ⟨A, B, rfl⟩ := List.append_of_mem him
      -- the list in two pieces
      rw [List.map_append, List.map_cons] at hl
      obtain ⟨lA, lB', rfl, hA1, hB1⟩ := List.map_eq_append_iff.1 hl.symm
      obtain ⟨o', lB, rfl, ho', hB2⟩ := List.map_eq_cons_iff.1 hB1
      have hoo : o' = o := by rw [ho] at ho'; simpa using ho'
      subst hoo
      have hsort := L.sorted
      rw [List.pairwise_append] at hsort
      have hb := bubble (P := P) (ops := ops) (hm := m.hm) (lb := m.lb) (pl := m.pl) (S := m.hs) hK lB lA fr bx h ⟨⟨w, R.sim⟩, hE⟩ (fun x hx => by
        have : some x ∈ lA.map some := List.mem_map.2 ⟨x, hx, rfl⟩
        rw [hA1] at this
        obtain ⟨j, hj, hjx⟩ := List.mem_map.1 this
        have hji : j < i := hsort.2.2 j hj i (by simp)
        have hj2 := hok' i hilt
        simp only [Bool.and_eq_true, List.all_eq_true, List.mem_range, Bool.or_eq_true] at hj2
        rcases hj2.2 j hji with hanc | hc
        · exfalso
          have hsz : ops.size = (ops.size - 1) + 1 := by omega
          rw [hsz] at hanc
          obtain ⟨e, he, hb, hcc⟩ := anc_step ho hanc
          have hl1 := haft e (by simpa using he) hb
          have hjl : listed.getD j false = true := by
            rcases hcc with rfl | hcc
            · exact hl1
            · exact anc_listed L.down _ _ _ hl1 hcc
          have hjs := L.lt j (by simp [hj])
          have hjm := (L.mem j hjs).2 (by simp [hj])
          rw [getD_tf (by rw [L.size]; exact hjs), hjl] at hjm
          cases hjm
        · rw [hjx, ho] at hc
          simpa using hc) hA
      have hst := sstep_sound (Q := Q) R hops (hops o' (by simpa using Array.mem_of_getElem? ho)) hE hb
      have L' : Left ops (listed.setIfInBounds i true) (A ++ B) := by
        have hnd : i ∉ A ++ B := by
          intro hm
          rcases List.mem_append.1 hm with hm | hm
          · exact Nat.lt_irrefl _ (hsort.2.2 i hm i (by simp))
          · exact Nat.lt_irrefl _ ((List.pairwise_cons.1 hsort.2.1).1 i hm)
        refine ⟨by simp [L.size], fun j hj => ?_, fun j hj => L.lt j ?_, ?_, fun k ok hk hkl e he hb => ?_⟩
        · by_cases hji : j = i
          · subst hji
            have hs2 : j < listed.size := by rw [L.size]; exact hj
            simp only [Array.getD_eq_getD_getElem?, Array.getElem?_setIfInBounds_self_of_lt hs2, Option.getD_some]
            exact ⟨fun h => (by cases h), fun h => absurd h hnd⟩
          · rw [getD_set_ne true (fun e => hji e.symm), L.mem j hj]
            simp only [List.mem_append, List.mem_cons]
            constructor
            · rintro (h | h | h)
              · exact .inl h
              · exact absurd h hji
              · exact .inr h
            · rintro (h | h)
              · exact .inl h
              · exact .inr (.inr h)
        · rcases List.mem_append.1 hj with hj | hj
          · simp [hj]
          · simp [hj]
        · rw [List.pairwise_append]
          exact ⟨hsort.1, (List.pairwise_cons.1 hsort.2.1).2, fun x hx y hy => hsort.2.2 x hx y (by simp [hy])⟩
        · by_cases hki : k = i
          · subst hki
            rw [ho] at hk
            simp at hk
            subst hk
            exact getD_set_true (haft e he hb)
          · rw [getD_set_ne false (fun e => hki e.symm)] at hkl
            exact getD_set_true (L.down k ok hk hkl e he hb)
      have rest : ∀ a w, RK h0 w0 n (KE m (srun P m ops (lA ++ lB) K)) a w → wpAny P .any ops Q fuel (listed.setIfInBounds i true) a w :=
        fun a w ⟨β', fr', bx', h', R', k⟩ => ih (A ++ B) _ (lA ++ lB) (by simp at hf ⊢; omega) L' (by rw [List.map_append, List.map_append, hA1, hB2]) β' fr' bx' h' a w R' k.1 k.2
      unfold wpOp
      rw [ho]
      simp only
      split
      · rename_i hw
        rw [if_pos hw] at hst
        exact .inl (Oper.wp_mono rest hst)
      · rename_i hw
        rw [if_neg hw] at hst
        exact rest _ _ hst

theorem pickO_map (ops : Array Oper) : ∀ (L : List Nat), (∀ i ∈ L, i < ops.size) → L.map (ops[·]?) = (pickO ops L).map some
  | [], _ => rfl
  | i :: r, h => by
    have hi := h i (by simp)
    rw [List.map_cons, pickO_map ops r fun j hj => h j (by simp [hj])]
    simp only [pickO, Array.getElem?_eq_getElem hi, List.map_cons]
theorem okList_pairs {p q : Nat} : ∀ {L : List Nat}, okList P hm lb pl ops p q L = true → L.Pairwise fun x y => okPair P hm lb pl ops x y = true ∨ (x = p ∧ y = q)
  | [], _ => List.Pairwise.nil
  | x :: r, h => by
    simp only [okList, Bool.and_eq_true, List.all_eq_true, Bool.or_eq_true, beq_iff_eq] at h
    exact List.pairwise_cons.2 ⟨fun y hy => h.1 y hy, okList_pairs h.2⟩
theorem edges_lt (he : edgesBack ops = true) {i : Nat} {o : Oper} (ho : ops[i]? = some o) : ∀ e ∈ o.after, Region.binds .any e = true → e.on < i := by
  intro e hm hb
  simp only [edgesBack, List.all_eq_true, List.mem_range] at he
  have := he i (Array.getElem?_eq_some_iff.1 ho).1
  rw [ho] at this
  simp only [Option.map_some, Option.getD_some, List.all_eq_true, Bool.or_eq_true, Bool.not_eq_true', decide_eq_true_eq] at this
  exact (this e (by simpa using hm)).resolve_left (by rw [hb]; simp)
/-- What is ready is behind nothing that is left. -/
theorem ready_anc {listed : Array Bool} {idx : List Nat} (L : Left ops listed idx) {i j : Nat} (hi : i ∈ Region.ready .any ops listed) (hj : j ∈ idx) (ha : anc ops ops.size j i = true) : False := by
  obtain ⟨hun, o, ho, haft⟩ := mem_ready.1 hi
  have hsz : ops.size = (ops.size - 1) + 1 := by
    have := (Array.getElem?_eq_some_iff.1 ho).1
    omega
  rw [hsz] at ha
  obtain ⟨e, he, hb, hcc⟩ := anc_step ho ha
  have hl1 := haft e (by simpa using he) hb
  have hjl : listed.getD j false = true := by
    rcases hcc with rfl | hcc
    · exact hl1
    · exact anc_listed L.down _ _ _ hl1 hcc
  have hjs := L.lt j hj
  have hjm := (L.mem j hjs).2 hj
  rw [getD_tf (by rw [L.size]; exact hjs), hjl] at hjm
  cases hjm
/-- Something is ready as long as something is left. -/
theorem ready_ne (he : edgesBack ops = true) {listed : Array Bool} {idx : List Nat} (L : Left ops listed idx) (hne : idx ≠ []) : Region.ready .any ops listed ≠ [] := by
  intro hr
  cases idx with
  | nil => exact hne rfl
  | cons i r =>
    have hi := L.lt i (by simp)
    have hrdy : i ∈ Region.ready .any ops listed := by
      refine mem_ready.2 ⟨(L.mem i hi).2 (by simp), ops[i], by simp [hi], fun e hem hb => ?_⟩
      have hlt := edges_lt he (show ops[i]? = some ops[i] by simp [hi]) e hem hb
      have hnm : ¬ e.on ∈ (i :: r) := by
        intro hm
        rcases List.mem_cons.1 hm with hm | hm
        · omega
        · have := (List.pairwise_cons.1 L.sorted).1 _ hm
          omega
      have hlt' : e.on < ops.size := by omega
      cases hv : listed.getD e.on true with
      | false => exact absurd ((L.mem e.on hlt').1 hv) hnm
      | true => rw [← getD_tf (by rw [L.size]; exact hlt'), hv]
    rw [hr] at hrdy
    cases hrdy
theorem Left.next {listed : Array Bool} {idx : List Nat} (L : Left ops listed idx) {i : Nat} (hi : i ∈ Region.ready .any ops listed) : Left ops (listed.setIfInBounds i true) (idx.erase i) := by
  obtain ⟨hun, o, ho, haft⟩ := mem_ready.1 hi
  have hilt := (Array.getElem?_eq_some_iff.1 ho).1
  have hnd : idx.Nodup := L.sorted.imp fun h => Nat.ne_of_lt h
  refine ⟨by simp [L.size], fun j hj => ?_, fun j hj => L.lt j (List.mem_of_mem_erase hj), L.sorted.sublist List.erase_sublist, fun k ok hk hkl e he hb => ?_⟩
  · by_cases hji : j = i
    · subst hji
      have hs2 : j < listed.size := by rw [L.size]; exact hj
      simp only [Array.getD_eq_getD_getElem?, Array.getElem?_setIfInBounds_self_of_lt hs2, Option.getD_some]
      exact ⟨fun h => (by cases h), fun h => absurd h (hnd.not_mem_erase)⟩
    · rw [getD_set_ne true (fun e => hji e.symm), L.mem j hj, List.mem_erase_of_ne hji]
  · by_cases hki : k = i
    · subst hki
      rw [ho] at hk
      simp at hk
      subst hk
      exact getD_set_true (haft e he hb)
    · rw [getD_set_ne false (fun e => hki e.symm)] at hkl
      exact getD_set_true (L.down k ok hk hkl e he hb)
/-- What is drawn is pulled ahead. -/
theorem pull {m : Mo} {K : Fr → Bx → Hp → Prop} (hK : Clo K) {i : Nat} {o : Oper} (ho : ops[i]? = some o) {A B : List Nat} (hp : ∀ x ∈ A, okPair P m.hm m.lb m.pl ops x i = true ∧ anc ops ops.size x i = false) {l : List Oper} (hl : (A ++ i :: B).map (ops[·]?) = l.map some)
    (hs : Gd m h) (hA : srun P m ops l K fr bx h) : ∃ l', (A ++ B).map (ops[·]?) = l'.map some ∧ sstep P m ops o (srun P m ops l' K) fr bx h := by
  rw [List.map_append, List.map_cons] at hl
  obtain ⟨lA, lB', rfl, hA1, hB1⟩ := List.map_eq_append_iff.1 hl.symm
  obtain ⟨o', lB, rfl, ho', hB2⟩ := List.map_eq_cons_iff.1 hB1
  have hoo : o' = o := by rw [ho] at ho'; simpa using ho'
  subst hoo
  refine ⟨lA ++ lB, by rw [List.map_append, List.map_append, hA1, hB2], ?_⟩
  refine bubble (P := P) (ops := ops) (hm := m.hm) (lb := m.lb) (pl := m.pl) (S := m.hs) hK lB lA fr bx h hs (fun x hx => ?_) hA
  have : some x ∈ lA.map some := List.mem_map.2 ⟨x, hx, rfl⟩
  rw [hA1] at this
  obtain ⟨j, hj, hjx⟩ := List.mem_map.1 this
  obtain ⟨h1, h2⟩ := hp j hj
  unfold okPair at h1
  rw [h2, Bool.false_or, hjx, ho] at h1
  simpa using h1
theorem erase_perm {A B idx : List Nat} {i : Nat} (h : (A ++ i :: B).Perm idx) : (A ++ B).Perm (idx.erase i) := by
  have h1 : (i :: (A ++ B)).Perm idx := List.perm_middle.symm.trans h
  have := h1.erase i
  simpa using this
/-- A list of operations, each pair of which may change places or is bound, then others that are behind all of them. -/
theorem sdrawS {m : Mo} {Q : Exit → Act → World → Prop} {K : Fr → Bx → Hp → Prop} (hops : ∀ o ∈ ops.toList, ∀ k, o.dst = some k → k < n) (he : edgesBack ops = true) (hK : Clo K) (suf : List Nat)
    (hsuf : ∀ (idx : List Nat) (listed : Array Bool) (β : Nat → Nat) (fr : Fr) (bx : Bx) (h : Hp) (a : Act) (w : World), Left ops listed idx → suf.Perm idx → Rel h0 w0 n β fr bx h a w → ExtO m.hs h → K fr bx h → wpAny P .any ops Q suf.length listed a w) :
    ∀ (fuel : Nat) (L idx : List Nat) (listed : Array Bool) (l : List Oper), fuel = L.length → Left ops listed idx → (L ++ suf).Perm idx → (∀ i ∈ suf, ∀ j ∈ L, anc ops ops.size j i = true) → L.Pairwise (fun x y => okPair P m.hm m.lb m.pl ops x y = true) → L.map (ops[·]?) = l.map some →
      ∀ (β : Nat → Nat) (fr : Fr) (bx : Bx) (h : Hp) (a : Act) (w : World), Rel h0 w0 n β fr bx h a w → ExtO m.hs h → srun P m ops l K fr bx h → wpAny P .any ops Q (fuel + suf.length) listed a w := by
  intro fuel
  induction fuel with
  | zero =>
    intro L idx listed l hf LL hp hb hw hl β fr bx h a w R hE hA
    have hL : L = [] := List.eq_nil_of_length_eq_zero hf.symm
    subst hL
    have hl0 : l = [] := by cases l <;> simp at hl ⊢
    subst hl0
    rw [Nat.zero_add]
    exact hsuf idx listed β fr bx h a w LL (by simpa using hp) R hE hA
  | succ fuel ih =>
    intro L idx listed l hf LL hp hb hw hl β fr bx h a w R hE hA
    rw [Nat.succ_add]
    have hne : idx ≠ [] := by
      rintro rfl
      have := hp.length_eq
      rw [List.length_append, List.length_nil] at this
      omega
    refine ⟨fun hr => absurd hr (ready_ne he LL hne), fun i hi => ?_⟩
    obtain ⟨hun, o, ho, haft⟩ := mem_ready.1 hi
    have hilt := (Array.getElem?_eq_some_iff.1 ho).1
    have him := hp.mem_iff.2 ((LL.mem i hilt).1 hun)
    have hiL : i ∈ L := by
      rcases List.mem_append.1 him with h1 | h1
      · exact h1
      · exfalso
        cases L with
        | nil => simp at hf
        | cons j r => exact ready_anc LL hi (hp.mem_iff.1 (by simp)) (hb i h1 j (by simp))
    obtain ⟨A, B, rfl⟩ := List.append_of_mem hiL
    have hw' := List.pairwise_append.1 hw
    obtain ⟨l', hl', hst0⟩ := pull (P := P) hK ho (A := A) (B := B) (fun x hx => ⟨hw'.2.2 x hx i (by simp), by
      cases hc : anc ops ops.size x i with
      | false => rfl
      | true => exact (ready_anc LL hi (hp.mem_iff.1 (by simp [hx])) hc).elim⟩) hl ⟨⟨w, R.sim⟩, hE⟩ hA
    have hst := sstep_sound (Q := Q) R hops (hops o (by simpa using Array.mem_of_getElem? ho)) hE hst0
    have rest : ∀ a w, RK h0 w0 n (KE m (srun P m ops l' K)) a w → wpAny P .any ops Q (fuel + suf.length) (listed.setIfInBounds i true) a w :=
      fun a w ⟨β', fr', bx', h', R', k⟩ => ih (A ++ B) (idx.erase i) _ l' (by simp at hf ⊢; omega) (LL.next hi) (by
        rw [List.append_assoc, List.cons_append] at hp
        have := erase_perm hp
        rwa [← List.append_assoc] at this) (fun x hx j hj => hb x hx j (by
        rcases List.mem_append.1 hj with h | h <;> simp [h])) (List.pairwise_append.2 ⟨hw'.1, (List.pairwise_cons.1 hw'.2.1).2, fun x hx y hy => hw'.2.2 x hx y (by simp [hy])⟩) hl' β' fr' bx' h' a w R' k.1 k.2
    unfold wpOp
    rw [ho]
    simp only
    split
    · rename_i hw
      rw [if_pos hw] at hst
      exact .inl (Oper.wp_mono rest hst)
    · rename_i hw
      rw [if_neg hw] at hst
      exact rest _ _ hst
/-- .. with none behind. -/
theorem sdrawN {m : Mo} {Q : Exit → Act → World → Prop} {K : Fr → Bx → Hp → Prop} (hops : ∀ o ∈ ops.toList, ∀ k, o.dst = some k → k < n) (he : edgesBack ops = true) (hK : Clo K) (hQ : ∀ a w, RK h0 w0 n K a w → Q .normal a w)
    {L idx : List Nat} {listed : Array Bool} {l : List Oper} (LL : Left ops listed idx) (hp : L.Perm idx) (hw : L.Pairwise (fun x y => okPair P m.hm m.lb m.pl ops x y = true)) (hl : L.map (ops[·]?) = l.map some)
    (R : Rel h0 w0 n β fr bx h a w) (hE : ExtO m.hs h) (hA : srun P m ops l K fr bx h) : wpAny P .any ops Q L.length listed a w := by
  have := sdrawS (P := P) (Q := Q) (K := K) (m := m) hops he hK [] (fun idx listed β fr bx h a w LL hp R hE hA => by
    have hi : idx = [] := List.eq_nil_of_length_eq_zero (by simpa using hp.length_eq.symm)
    subst hi
    refine ⟨?_, hQ a w ⟨β, fr, bx, h, R, hA⟩⟩
    apply List.eq_nil_iff_forall_not_mem.2
    intro i hi
    obtain ⟨h1, o, ho, _⟩ := mem_ready.1 hi
    have := (LL.mem i (Array.getElem?_eq_some_iff.1 ho).1).1 h1
    simp at this) L.length L idx listed l rfl LL (by simpa using hp) (by simp) hw hl β fr bx h a w R hE hA
  simpa using this
theorem sstep_both {m : Mo} {o : Oper} (hc : cls P m.hm m.lb m.pl o = 0) (hg : o.guard = none) {K K' : Fr → Bx → Hp → Prop} (h1 : sstep P m ops o K fr bx h) (h2 : sstep P m ops o K' fr bx h) : sstep P m ops o (bothK K K') fr bx h := by
  obtain ⟨hm, lb, pl, S⟩ := m
  have hc1 : cls P hm lb pl o ≤ 1 := by
    have h0 : cls P hm lb pl o = 0 := hc
    omega
  unfold sstep wnt at *
  rw [hg] at *
  simp only at h1 h2 ⊢
  rw [aop_loc hc1] at h1 h2 ⊢
  revert h1 h2
  cases lop P fr bx o.op with
  | none => intro h1; exact h1.elim
  | some v => intro h1 h2; exact ⟨h1, h2⟩
/-- Two orders. -/
theorem sdraw2 {m : Mo} {Q : Exit → Act → World → Prop} {K : Fr → Bx → Hp → Prop} (hops : ∀ o ∈ ops.toList, ∀ k, o.dst = some k → k < n) (he : edgesBack ops = true) (hK : Clo K) (hQ : ∀ a w, RK h0 w0 n K a w → Q .normal a w) (p q : Nat) (hpq : p ≠ q) :
    ∀ (fuel : Nat) (L1 L2 idx : List Nat) (listed : Array Bool) (l1 l2 : List Oper), fuel = L1.length → Left ops listed idx → L1.Perm idx → L2.Perm idx → p ∈ idx → q ∈ idx →
      L1.Pairwise (fun x y => okPair P m.hm m.lb m.pl ops x y = true ∨ (x = p ∧ y = q)) → L2.Pairwise (fun x y => okPair P m.hm m.lb m.pl ops x y = true ∨ (x = q ∧ y = p)) →
      (∀ i ∈ idx, i = p ∨ i = q ∨ anc ops ops.size p i = true ∨ anc ops ops.size q i = true ∨ ∃ o, ops[i]? = some o ∧ cls P m.hm m.lb m.pl o = 0 ∧ o.guard = none) →
      L1.map (ops[·]?) = l1.map some → L2.map (ops[·]?) = l2.map some →
      ∀ (β : Nat → Nat) (fr : Fr) (bx : Bx) (h : Hp) (a : Act) (w : World), Rel h0 w0 n β fr bx h a w → ExtO m.hs h → srun P m ops l1 K fr bx h → srun P m ops l2 K fr bx h → wpAny P .any ops Q fuel listed a w := by
  intro fuel
  induction fuel with
  | zero =>
    intro L1 L2 idx listed l1 l2 hf LL hp1 hp2 hpi
    have hL : L1 = [] := List.eq_nil_of_length_eq_zero hf.symm
    subst hL
    have := hp1.mem_iff.2 hpi
    simp at this
  | succ fuel ih =>
    intro L1 L2 idx listed l1 l2 hf LL hp1 hp2 hpi hqi hw1 hw2 hcl hl1 hl2 β fr bx h a w R hE hA1 hA2
    have hne : idx ≠ [] := by rintro rfl; cases hpi
    have hnd : idx.Nodup := LL.sorted.imp fun h => Nat.ne_of_lt h
    refine ⟨fun hr => absurd hr (ready_ne he LL hne), fun i hi => ?_⟩
    obtain ⟨hun, o, ho, haft⟩ := mem_ready.1 hi
    have hilt := (Array.getElem?_eq_some_iff.1 ho).1
    have him := (LL.mem i hilt).1 hun
    have noanc : ∀ x ∈ idx, anc ops ops.size x i = false := fun x hx => by
      cases hc : anc ops ops.size x i with
      | false => rfl
      | true => exact (ready_anc LL hi hx hc).elim
    have fin : ∀ (K2 : Fr → Bx → Hp → Prop), sstep P m ops o K2 fr bx h → (∀ a w, RK h0 w0 n (KE m K2) a w → wpAny P .any ops Q fuel (listed.setIfInBounds i true) a w) → wpOp P ops Q i (wpAny P .any ops Q fuel (listed.setIfInBounds i true)) a w := by
      intro K2 hst0 rest
      have hst := sstep_sound (Q := Q) R hops (hops o (by simpa using Array.mem_of_getElem? ho)) hE hst0
      unfold wpOp
      rw [ho]
      simp only
      split
      · rename_i hw
        rw [if_pos hw] at hst
        exact .inl (Oper.wp_mono rest hst)
      · rename_i hw
        rw [if_neg hw] at hst
        exact rest _ _ hst
    obtain ⟨A1, B1, rfl⟩ := List.append_of_mem (hp1.mem_iff.2 him)
    obtain ⟨A2, B2, rfl⟩ := List.append_of_mem (hp2.mem_iff.2 him)
    have hn1 : (A1 ++ i :: B1).Nodup := hp1.nodup_iff.2 hnd
    have hn2 : (A2 ++ i :: B2).Nodup := hp2.nodup_iff.2 hnd
    have ni1 : i ∉ A1 ++ B1 := by
      have := (List.perm_middle.nodup_iff.1 hn1)
      exact (List.nodup_cons.1 this).1
    have ni2 : i ∉ A2 ++ B2 := by
      have := (List.perm_middle.nodup_iff.1 hn2)
      exact (List.nodup_cons.1 this).1
    have hw1' := List.pairwise_append.1 hw1
    have hw2' := List.pairwise_append.1 hw2
    have len1 : fuel = (A1 ++ B1).length := by simp at hf ⊢; omega
    have len2 : fuel = (A2 ++ B2).length := by
      have := hp1.length_eq
      have := hp2.length_eq
      simp at *
      omega
    have rest1 : (A1 ++ B1).Pairwise (fun x y => okPair P m.hm m.lb m.pl ops x y = true ∨ (x = p ∧ y = q)) := List.pairwise_append.2 ⟨hw1'.1, (List.pairwise_cons.1 hw1'.2.1).2, fun x hx y hy => hw1'.2.2 x hx y (by simp [hy])⟩
    have rest2 : (A2 ++ B2).Pairwise (fun x y => okPair P m.hm m.lb m.pl ops x y = true ∨ (x = q ∧ y = p)) := List.pairwise_append.2 ⟨hw2'.1, (List.pairwise_cons.1 hw2'.2.1).2, fun x hx y hy => hw2'.2.2 x hx y (by simp [hy])⟩
    have p1 : i ≠ q → ∃ l', (A1 ++ B1).map (ops[·]?) = l'.map some ∧ sstep P m ops o (srun P m ops l' K) fr bx h := fun hiq => pull (P := P) hK ho (fun x hx => ⟨(hw1'.2.2 x hx i (by simp)).resolve_right fun k => hiq k.2, noanc x (hp1.mem_iff.1 (by simp [hx]))⟩) hl1 ⟨⟨w, R.sim⟩, hE⟩ hA1
    have p2 : i ≠ p → ∃ l', (A2 ++ B2).map (ops[·]?) = l'.map some ∧ sstep P m ops o (srun P m ops l' K) fr bx h := fun hip => pull (P := P) hK ho (fun x hx => ⟨(hw2'.2.2 x hx i (by simp)).resolve_right fun k => hip k.2, noanc x (hp2.mem_iff.1 (by simp [hx]))⟩) hl2 ⟨⟨w, R.sim⟩, hE⟩ hA2
    by_cases hip : i = p
    · obtain ⟨l', hl', hst⟩ := p1 (by rw [hip]; exact hpq)
      refine fin _ hst fun a w ⟨β', fr', bx', h', R', k⟩ => ?_
      rw [len1]
      refine sdrawN hops he hK hQ (LL.next hi) (erase_perm hp1) (rest1.imp_of_mem fun {x y} hx hy k => k.resolve_right fun e => ni1 (by rw [hip, ← e.1]; exact hx)) hl' R' k.1 k.2
    by_cases hiq : i = q
    · obtain ⟨l', hl', hst⟩ := p2 hip
      refine fin _ hst fun a w ⟨β', fr', bx', h', R', k⟩ => ?_
      rw [len2]
      refine sdrawN hops he hK hQ (LL.next hi) (erase_perm hp2) (rest2.imp_of_mem fun {x y} hx hy k => k.resolve_right fun e => ni2 (by rw [hiq, ← e.1]; exact hx)) hl' R' k.1 k.2
    rcases hcl i him with h1 | h1 | h1 | h1 | ⟨o', ho', hc, hg⟩
    · exact absurd h1 hip
    · exact absurd h1 hiq
    · exact (ready_anc LL hi hpi h1).elim
    · exact (ready_anc LL hi hqi h1).elim
    · have hoo : o' = o := by rw [ho] at ho'; exact (Option.some.inj ho').symm
      subst hoo
      obtain ⟨l1', hl1', hst1⟩ := p1 hiq
      obtain ⟨l2', hl2', hst2⟩ := p2 hip
      refine fin _ (sstep_both hc hg hst1 hst2) fun a w ⟨β', fr', bx', h', R', k⟩ => ?_
      exact ih (A1 ++ B1) (A2 ++ B2) (idx.erase i) _ l1' l2' len1 (LL.next hi) (erase_perm hp1) (erase_perm hp2) ((List.mem_erase_of_ne (Ne.symm hip)).2 hpi) ((List.mem_erase_of_ne (Ne.symm hiq)).2 hqi) rest1 rest2 (fun j hj => hcl j (List.mem_of_mem_erase hj)) hl1' hl2' β' fr' bx' h' a w R' k.1 k.2.1 k.2.2
theorem left_all : Left ops (Array.replicate ops.size false) (List.range ops.size) := by
  refine ⟨by simp, fun j hj => by simp [hj], fun j hj => by simpa using hj, List.pairwise_lt_range, fun i o ho hi => ?_⟩
  exfalso
  have hlt := (Array.getElem?_eq_some_iff.1 ho).1
  simp [hlt] at hi
theorem bothK_clo {K K' : Fr → Bx → Hp → Prop} (h1 : Clo K) (h2 : Clo K') : Clo (bothK K K') := ⟨fun _ _ _ _ e k => ⟨h1.1 _ _ _ _ e k.1, h2.1 _ _ _ _ e k.2⟩, fun _ _ _ _ e k => ⟨h1.2 _ _ _ _ e k.1, h2.2 _ _ _ _ e k.2⟩⟩
theorem srun_mono {m : Mo} {K K' : Fr → Bx → Hp → Prop} (hk : ∀ fr bx h, Gd m h → K fr bx h → K' fr bx h) : ∀ (l : List Oper) (fr : Fr) (bx : Bx) (h : Hp), Gd m h → srun P m ops l K fr bx h → srun P m ops l K' fr bx h
  | [], fr, bx, h, hs, hA => hk fr bx h hs hA
  | _ :: l, _, _, _, hs, hA => sstep_mono' hs (fun fr bx h hw k => srun_mono hk l fr bx h hw k) hA
theorem arun_srunC {m : Mo} {K K' : Fr → Bx → Hp → Prop} (hK : Clo K') (hk : ∀ fr bx h, Gd m h → K fr bx h → K' fr bx h) (l : List Oper) (fr : Fr) (bx : Bx) (h : Hp) (hg : Gd m h) (hA : arun P m ops l K fr bx h) : srun P m ops l K' fr bx h :=
  srun_mono (fun _ _ h hg ⟨f, b, e, eb, k⟩ => hK.1 _ _ _ _ e.symm' (hK.2 _ _ _ _ (fun j => (eb j).symm) (hk f b h hg k))) _ fr bx h hg (arun_srun l fr bx h hg hA)
theorem behind_of {s t : List Nat} (h : behind ops s t = true) : ∀ i ∈ t, ∀ j ∈ s, anc ops ops.size j i = true := fun i hi j hj => List.all_eq_true.1 (List.all_eq_true.1 h i hi) j hj
theorem okList_pure {L : List Nat} (h : okList P hm lb pl ops ops.size ops.size L = true) (hl : ∀ i ∈ L, i < ops.size) : L.Pairwise fun x y => okPair P hm lb pl ops x y = true :=
  (okList_pairs h).imp_of_mem fun {x y} hx hy k => k.resolve_right fun e => by
    have := hl x hx
    omega
theorem range_cut {a b c : Nat} (h1 : a ≤ b) (h2 : b ≤ c) : List.range' a (b - a) ++ List.range' b (c - b) = List.range' a (c - a) := by
  have h : List.range' a (b - a) ++ List.range' (a + (b - a)) (c - b) = List.range' a ((b - a) + (c - b)) := List.range'_append_1
  rw [show a + (b - a) = b by omega, show (b - a) + (c - b) = c - a by omega] at h
  exact h
theorem region_split {id : Nat} {Q : Exit → Act → World → Prop} {K : Fr → Bx → Hp → Prop} (hmix : P.follows .mixedOrders = true) (hops : ∀ o ∈ ops.toList, ∀ k, o.dst = some k → k < n)
    (hQ : ∀ a w, RK h0 w0 n K a w → Q .normal a w) (R : Rel h0 w0 n β fr bx h a w) (hA : regionS P hm ops K fr bx h) : (Code.region id ops true).wp P Q a w := by
  obtain ⟨lb, pl, hS, s, hE, hok, hr⟩ := hA
  simp only [okSplit, Bool.and_eq_true] at hok
  obtain ⟨he, hpre, hmid, hcd, hdn, hb1, hb2, pA, pB, cA, cB, hpq, okA, okB, hcl⟩ := hok
  have hcd := Nat.le_of_ble_eq_true hcd
  have hdn := Nat.le_of_ble_eq_true hdn
  have pA := List.isPerm_iff.1 pA
  have pB := List.isPerm_iff.1 pB
  have hpq : s.p ≠ s.q := by simpa using hpq
  refine wp_region_any hmix ?_
  have R' : Rel h0 w0 n β fr bx h a { w with drawn := w.drawn + 1 } := ⟨⟨R.tmps, R.boxes⟩, R.defers, R.size, ⟨R.sim.vis⟩, ⟨R.frm.os, R.frm.tape, R.frm.output, R.frm.size, R.frm.priv⟩, R.priv, R.inj, R.refs⟩
  have clo2 : Clo (bothK (srun P ⟨hm, lb, [], none⟩ ops (pickO ops s.A) (clK K)) (srun P ⟨hm, lb, [], none⟩ ops (pickO ops s.B) (clK K))) := bothK_clo (srun_clo (clK_clo K) _) (srun_clo (clK_clo K) _)
  have hs2 := arun_srunC (P := P) (m := ⟨hm, lb, pl, hS⟩) (srun_clo (P := P) (m := ⟨hm, lb, [], none⟩) (ops := ops) clo2 (pickO ops (List.range' s.c (s.d - s.c)))) (fun fr bx h hg k => arun_srunC (P := P) (m := ⟨hm, lb, [], none⟩) clo2 (fun fr bx h hg k => ⟨arun_srun _ fr bx h hg k.1, arun_srun _ fr bx h hg k.2⟩) _ fr bx h ⟨hg.1, trivial⟩ k) _ fr bx h ⟨⟨w, R.sim⟩, hE⟩ hr
  have memS : ∀ a b i, i ∈ List.range' a (b - a) ↔ a ≤ i ∧ i < b := fun a b i => by
    rw [List.mem_range'_1]
    omega
  have ltA : ∀ i ∈ s.A, i < ops.size := fun i hi => ((memS _ _ i).1 (pA.mem_iff.1 hi)).2
  have ltB : ∀ i ∈ s.B, i < ops.size := fun i hi => ((memS _ _ i).1 (pB.mem_iff.1 hi)).2
  have lt1 : ∀ i ∈ List.range s.c, i < ops.size := fun i hi => by have := List.mem_range.1 hi; omega
  have lt2 : ∀ i ∈ List.range' s.c (s.d - s.c), i < ops.size := fun i hi => by have := (memS _ _ i).1 hi; omega
  have key := sdrawS (P := P) (Q := Q) (m := ⟨hm, lb, pl, hS⟩) (h0 := h0) (w0 := w0) (n := n) hops he (srun_clo (P := P) (m := ⟨hm, lb, [], none⟩) (ops := ops) clo2 (pickO ops (List.range' s.c (s.d - s.c)))) (List.range' s.c (ops.size - s.c)) (fun idx listed β fr bx h a w LL hp R hE k => by
      have key2 := sdrawS (P := P) (Q := Q) (m := ⟨hm, lb, [], none⟩) (h0 := h0) (w0 := w0) (n := n) hops he clo2 (List.range' s.d (ops.size - s.d)) (fun idx listed β fr bx h a w LL hp R hE k => by
          have hl : (List.range' s.d (ops.size - s.d)).length = s.A.length := pA.length_eq.symm
          rw [hl]
          refine sdraw2 (m := ⟨hm, lb, [], none⟩) hops he (clK_clo K) (fun a w k => hQ a w (RK_clK k)) s.p s.q hpq s.A.length s.A s.B idx listed _ _ rfl LL (pA.trans hp) (pB.trans hp) ((pA.trans hp).mem_iff.1 (by simpa using cA)) ((pA.trans hp).mem_iff.1 (by simpa using cB)) (okList_pairs okA) (okList_pairs okB) (fun i hi => ?_) (pickO_map ops _ ltA) (pickO_map ops _ ltB) β fr bx h a w R hE k.1 k.2
          have hiA := (pA.trans hp).mem_iff.2 hi
          have := List.all_eq_true.1 hcl i hiA
          simp only [Bool.or_eq_true, beq_iff_eq] at this
          rcases this with (((h1 | h1) | h1) | h1) | h1
          · exact .inl h1
          · exact .inr (.inl h1)
          · exact .inr (.inr (.inl h1))
          · exact .inr (.inr (.inr (.inl h1)))
          · have hlt := ltA i hiA
            rw [Array.getElem?_eq_getElem hlt] at h1
            simp only [Option.map_some, Option.getD_some, Bool.and_eq_true, beq_iff_eq, Option.isNone_iff_eq_none] at h1
            exact .inr (.inr (.inr (.inr ⟨_, Array.getElem?_eq_getElem hlt, h1.1, h1.2⟩)))) (List.range' s.c (s.d - s.c)).length (List.range' s.c (s.d - s.c)) idx listed _ rfl LL (by rw [range_cut hcd hdn]; exact hp) (behind_of hb2) (okList_pure hmid lt2) (pickO_map ops _ lt2) β fr bx h a w R trivial k
      have e : (List.range' s.c (s.d - s.c)).length + (List.range' s.d (ops.size - s.d)).length = (List.range' s.c (ops.size - s.c)).length := by simp; omega
      rw [e] at key2
      exact key2) (List.range s.c).length (List.range s.c) (List.range ops.size) (Array.replicate ops.size false) _ rfl left_all (by
      have := range_cut (a := 0) (b := s.c) (c := ops.size) (Nat.zero_le _) (by omega)
      rw [Nat.sub_zero, Nat.sub_zero, ← List.range_eq_range', ← List.range_eq_range'] at this
      rw [this]) (behind_of hb1) (okList_pure hpre lt1) (pickO_map ops _ lt1) β fr bx h a _ R' hE hs2
  have hsz : (List.range s.c).length + (List.range' s.c (ops.size - s.c)).length = ops.size := by simp; omega
  rw [hsz] at key
  exact key

/-! all orders -/
def sPlan (P : Program) (m : Mo) (ops : Array Oper) (K : Fr → Bx → Hp → Prop) : Plan → Fr → Bx → Hp → Prop
  | .one L => srun P m ops (pickO ops L) K
  | .two pre p A q B => srun P m ops (pickO ops pre) (bothK (srun P m ops (pickO ops [p]) (sPlan P m ops K A)) (srun P m ops (pickO ops [q]) (sPlan P m ops K B)))
theorem sPlan_clo {m : Mo} {K : Fr → Bx → Hp → Prop} (hK : Clo K) : ∀ T, Clo (sPlan P m ops K T)
  | .one L => srun_clo hK _
  | .two pre p A q B => srun_clo (bothK_clo (srun_clo (sPlan_clo hK A) _) (srun_clo (sPlan_clo hK B) _)) _
theorem run_sPlan {m : Mo} {K : Fr → Bx → Hp → Prop} : ∀ (T : Plan) (fr : Fr) (bx : Bx) (h : Hp), Gd m h → runPlan P m ops K T fr bx h → sPlan P m ops (clK K) T fr bx h
  | .one L, fr, bx, h, hg, hA => arun_srun _ fr bx h hg hA
  | .two pre p A q B, fr, bx, h, hg, hA => arun_srunC (bothK_clo (srun_clo (sPlan_clo (clK_clo K) A) _) (srun_clo (sPlan_clo (clK_clo K) B) _)) (fun fr bx h hg k =>
      ⟨arun_srunC (sPlan_clo (clK_clo K) A) (fun fr bx h hg k => run_sPlan A fr bx h hg k) _ fr bx h hg k.1, arun_srunC (sPlan_clo (clK_clo K) B) (fun fr bx h hg k => run_sPlan B fr bx h hg k) _ fr bx h hg k.2⟩) _ fr bx h hg hA
theorem srun_app {m : Mo} {K : Fr → Bx → Hp → Prop} (b : List Oper) : ∀ a : List Oper, srun P m ops (a ++ b) K = srun P m ops a (srun P m ops b K)
  | [] => rfl
  | o :: a => by
    show sstep P m ops o (srun P m ops (a ++ b) K) = sstep P m ops o (srun P m ops a (srun P m ops b K))
    rw [srun_app b a]
theorem sdrawT {m : Mo} {Q : Exit → Act → World → Prop} {K : Fr → Bx → Hp → Prop} (hops : ∀ o ∈ ops.toList, ∀ k, o.dst = some k → k < n) (he : edgesBack ops = true) (hK : Clo K) (hQ : ∀ a w, RK h0 w0 n K a w → Q .normal a w) :
    ∀ (f : Nat) (T : Plan) (X idx : List Nat) (listed : Array Bool) (x : List Oper), (X ++ T.ops).length = f → Left ops listed idx → (X ++ T.ops).Perm idx → okPlan P m.hm m.lb m.pl ops T = true → X.Pairwise (fun x y => okPair P m.hm m.lb m.pl ops x y = true) →
      (∀ a ∈ X, ∀ b ∈ T.ops, okPair P m.hm m.lb m.pl ops a b = true) → X.map (ops[·]?) = x.map some →
      ∀ (β : Nat → Nat) (fr : Fr) (bx : Bx) (h : Hp) (a : Act) (w : World), Rel h0 w0 n β fr bx h a w → ExtO m.hs h → srun P m ops x (sPlan P m ops K T) fr bx h → wpAny P .any ops Q f listed a w := by
  intro f
  induction f with
  | zero =>
    intro T X idx listed x hf LL hp hok hX hXT hx β fr bx h a w R hE hA
    cases T with
    | one L =>
      have e0 : X ++ L = [] := List.eq_nil_of_length_eq_zero hf
      have := sdrawN (P := P) (Q := Q) hops he hK hQ (L := X ++ L) (l := x ++ pickO ops L) LL hp (by rw [e0]; exact List.Pairwise.nil) (by
        rw [List.map_append, List.map_append, hx, pickO_map ops L fun i hi => LL.lt i (hp.mem_iff.1 (by simp [Plan.ops, hi]))]) R hE (by rw [srun_app]; exact hA)
      rw [show (X ++ L).length = 0 from hf] at this
      exact this
    | two pre p A q B => simp [Plan.ops] at hf
  | succ f ih =>
    intro T X idx listed x hf LL hp hok hX hXT hx β fr bx h a w R hE hA
    cases T with
    | one L =>
      have ltL : ∀ i ∈ L, i < ops.size := fun i hi => LL.lt i (hp.mem_iff.1 (by simp [Plan.ops, hi]))
      have := sdrawN (P := P) (Q := Q) hops he hK hQ (L := X ++ L) (l := x ++ pickO ops L) LL hp (List.pairwise_append.2 ⟨hX, okList_pure hok ltL, fun a ha b hb => hXT a ha b hb⟩) (by
        rw [List.map_append, List.map_append, hx, pickO_map ops L ltL]) R hE (by rw [srun_app]; exact hA)
      rw [show (X ++ L).length = f + 1 from hf] at this
      exact this
    | two pre p A q B =>
      simp only [okPlan, Bool.and_eq_true] at hok
      obtain ⟨okp, oka, hpq, hAB, hcl, okA, okB⟩ := hok
      have hpq : p ≠ q := by simpa using hpq
      have hAB := List.isPerm_iff.1 hAB
      have eops : (Plan.two pre p A q B).ops = pre ++ p :: A.ops := rfl
      rw [eops] at hf hp hXT
      have ltp : ∀ i ∈ pre ++ p :: A.ops, i < ops.size := fun i hi => LL.lt i (hp.mem_iff.1 (List.mem_append.2 (.inr hi)))
      have okp : pre.Pairwise (fun x y => okPair P m.hm m.lb m.pl ops x y = true) := okList_pure okp fun i hi => ltp i (by simp [hi])
      have oka : ∀ x ∈ pre, ∀ y ∈ p :: A.ops, okPair P m.hm m.lb m.pl ops x y = true := fun x hx y hy => List.all_eq_true.1 (List.all_eq_true.1 oka x hx) y hy
      have hZ : (X ++ pre).Pairwise (fun x y => okPair P m.hm m.lb m.pl ops x y = true) := List.pairwise_append.2 ⟨hX, okp, fun a ha b hb => hXT a ha b (by simp [hb])⟩
      have hZT : ∀ a ∈ X ++ pre, ∀ b ∈ p :: A.ops, okPair P m.hm m.lb m.pl ops a b = true := fun a ha b hb => by
        rcases List.mem_append.1 ha with h1 | h1
        · exact hXT a h1 b (List.mem_append.2 (.inr hb))
        · exact oka a h1 b hb
      have hz : (X ++ pre).map (ops[·]?) = (x ++ pickO ops pre).map some := by rw [List.map_append, List.map_append, hx, pickO_map ops pre fun i hi => ltp i (by simp [hi])]
      rw [← List.append_assoc] at hp hf
      have hA : srun P m ops (x ++ pickO ops pre) (bothK (srun P m ops (pickO ops [p]) (sPlan P m ops K A)) (srun P m ops (pickO ops [q]) (sPlan P m ops K B))) fr bx h := by rw [srun_app]; exact hA
      generalize X ++ pre = Z at hp hf hZ hZT hz
      generalize x ++ pickO ops pre = z at hz hA
      have hpi : p ∈ idx := hp.mem_iff.1 (by simp)
      have hqA : q ∈ p :: A.ops := hAB.mem_iff.2 (by simp)
      have hqi : q ∈ idx := hp.mem_iff.1 (List.mem_append.2 (.inr hqA))
      have hne : idx ≠ [] := by rintro rfl; cases hpi
      have hnd : idx.Nodup := LL.sorted.imp fun h => Nat.ne_of_lt h
      refine ⟨fun hr => absurd hr (ready_ne he LL hne), fun i hi => ?_⟩
      obtain ⟨hun, o, ho, haft⟩ := mem_ready.1 hi
      have hilt := (Array.getElem?_eq_some_iff.1 ho).1
      have him := (LL.mem i hilt).1 hun
      have noanc : ∀ x ∈ idx, anc ops ops.size x i = false := fun x hx => by
        cases hc : anc ops ops.size x i with
        | false => rfl
        | true => exact (ready_anc LL hi hx hc).elim
      have fin : ∀ (K2 : Fr → Bx → Hp → Prop), sstep P m ops o K2 fr bx h → (∀ a w, RK h0 w0 n (KE m K2) a w → wpAny P .any ops Q f (listed.setIfInBounds i true) a w) → wpOp P ops Q i (wpAny P .any ops Q f (listed.setIfInBounds i true)) a w := by
        intro K2 hst0 rest
        have hst := sstep_sound (Q := Q) R hops (hops o (by simpa using Array.mem_of_getElem? ho)) hE hst0
        unfold wpOp
        rw [ho]
        simp only
        split
        · rename_i hw
          rw [if_pos hw] at hst
          exact .inl (Oper.wp_mono rest hst)
        · rename_i hw
          rw [if_neg hw] at hst
          exact rest _ _ hst
      have hard : ∀ (r : Nat) (C : Plan), r = i → okPlan P m.hm m.lb m.pl ops C = true → (∀ a ∈ Z, ∀ b ∈ r :: C.ops, okPair P m.hm m.lb m.pl ops a b = true) → (Z ++ r :: C.ops).Perm idx → srun P m ops z (srun P m ops (pickO ops [r]) (sPlan P m ops K C)) fr bx h →
          wpOp P ops Q i (wpAny P .any ops Q f (listed.setIfInBounds i true)) a w := by
        intro r C hr okC hZC hpC hAC
        subst hr
        have e1 : pickO ops [r] = [o] := by simp [pickO, ho]
        rw [e1, ← srun_app] at hAC
        obtain ⟨l', hl', hst⟩ := pull (P := P) (sPlan_clo hK C) ho (A := Z) (B := []) (fun x hx => ⟨hZC x hx r (by simp), noanc x (hpC.mem_iff.1 (by simp [hx]))⟩) (l := z ++ [o]) (by rw [List.map_append, List.map_append, hz]; simp [ho]) ⟨⟨w, R.sim⟩, hE⟩ hAC
        rw [List.append_nil] at hl'
        refine fin _ hst fun a w ⟨β', fr', bx', h', R', k⟩ => ?_
        refine ih C Z (idx.erase r) _ l' ?_ (LL.next hi) (erase_perm hpC) okC hZ (fun a ha b hb => hZC a ha b (by simp [hb])) hl' β' fr' bx' h' a w R' k.1 k.2
        have l1 := hpC.length_eq
        have l2 := hp.length_eq
        simp only [List.length_append, List.length_cons] at l1 l2 hf ⊢
        omega
      rcases List.mem_append.1 (hp.mem_iff.2 him) with hiZ | hiT
      · obtain ⟨U, V, rfl⟩ := List.append_of_mem hiZ
        have hZ' := List.pairwise_append.1 hZ
        obtain ⟨l', hl', hst⟩ := pull (P := P) (bothK_clo (srun_clo (sPlan_clo hK A) _) (srun_clo (sPlan_clo hK B) _)) ho (A := U) (B := V) (fun x hx => ⟨hZ'.2.2 x hx i (by simp), noanc x (hp.mem_iff.1 (by simp [hx]))⟩) hz ⟨⟨w, R.sim⟩, hE⟩ hA
        refine fin _ hst fun a w ⟨β', fr', bx', h', R', k⟩ => ?_
        refine ih (.two [] p A q B) (U ++ V) (idx.erase i) _ l' ?_ (LL.next hi) ?_ ?_ (List.pairwise_append.2 ⟨hZ'.1, (List.pairwise_cons.1 hZ'.2.1).2, fun x hx y hy => hZ'.2.2 x hx y (by simp [hy])⟩) (fun a ha b hb => hZT a (by
          rcases List.mem_append.1 ha with h1 | h1 <;> simp [h1]) b hb) hl' β' fr' bx' h' a w R' k.1 k.2
        · simp only [Plan.ops, List.nil_append, List.length_append, List.length_cons] at hf ⊢
          omega
        · rw [List.append_assoc, List.cons_append] at hp
          have := erase_perm hp
          rwa [← List.append_assoc] at this
        · simp only [okPlan, okList, List.all_nil, Bool.true_and, Bool.and_eq_true]
          exact ⟨by simpa using hpq, List.isPerm_iff.2 hAB, hcl, okA, okB⟩
      · by_cases hip : i = p
        · exact hard p A hip.symm okA hZT hp (srun_mono (fun _ _ _ _ k => k.1) z fr bx h ⟨⟨w, R.sim⟩, hE⟩ hA)
        by_cases hiq : i = q
        · exact hard q B hiq.symm okB (fun a ha b hb => hZT a ha b (hAB.mem_iff.2 hb)) ((List.Perm.append_left Z hAB.symm).trans hp) (srun_mono (fun _ _ _ _ k => k.2) z fr bx h ⟨⟨w, R.sim⟩, hE⟩ hA)
        have hiA : i ∈ A.ops := (List.mem_cons.1 hiT).resolve_left hip
        have h1 := List.all_eq_true.1 hcl i hiA
        simp only [Bool.or_eq_true, beq_iff_eq] at h1
        rcases h1 with (h1 | h1) | h1
        · exact absurd h1 hiq
        · exact (ready_anc LL hi hpi h1).elim
        · exact (ready_anc LL hi hqi h1).elim
theorem region_all {id : Nat} {Q : Exit → Act → World → Prop} {K : Fr → Bx → Hp → Prop} (hmix : P.follows .mixedOrders = true) (hops : ∀ o ∈ ops.toList, ∀ k, o.dst = some k → k < n)
    (hQ : ∀ a w, RK h0 w0 n K a w → Q .normal a w) (R : Rel h0 w0 n β fr bx h a w) (hA : regionT P hm ops K fr bx h) : (Code.region id ops true).wp P Q a w := by
  obtain ⟨lb, pl, hS, T, hE, hok, hr⟩ := hA
  simp only [Bool.and_eq_true] at hok
  obtain ⟨he, hp, hok⟩ := hok
  have hp := List.isPerm_iff.1 hp
  refine wp_region_any hmix ?_
  have R' : Rel h0 w0 n β fr bx h a { w with drawn := w.drawn + 1 } := ⟨⟨R.tmps, R.boxes⟩, R.defers, R.size, ⟨R.sim.vis⟩, ⟨R.frm.os, R.frm.tape, R.frm.output, R.frm.size, R.frm.priv⟩, R.priv, R.inj, R.refs⟩
  have hs := run_sPlan (P := P) (m := ⟨hm, lb, pl, hS⟩) T fr bx h ⟨⟨w, R.sim⟩, hE⟩ hr
  have hl : ([] ++ T.ops).length = ops.size := by
    have := hp.length_eq
    simpa using this
  exact sdrawT (m := ⟨hm, lb, pl, hS⟩) hops he (clK_clo K) (fun a w k => hQ a w (RK_clK k)) ops.size T [] (List.range ops.size) (Array.replicate ops.size false) [] hl left_all hp hok List.Pairwise.nil (fun a ha => by cases ha) rfl β fr bx h a _ R' hE hs

theorem region_draw {id : Nat} {Q : Exit → Act → World → Prop} {K : Fr → Bx → Hp → Prop} (hmix : P.follows .mixedOrders = true) (hops : ∀ o ∈ ops.toList, ∀ k, o.dst = some k → k < n)
    (hQ : ∀ a w, RK h0 w0 n K a w → Q .normal a w) (R : Rel h0 w0 n β fr bx h a w) (hA : regionD (fun m => m.hm = hm ∧ okDraw P hm m.lb m.pl ops = true) (fun m => arun P m ops ops.toList K fr bx h) h) :
    (Code.region id ops true).wp P Q a w := by
  obtain ⟨m, hE, ⟨hmm, hok⟩, hr⟩ := hA
  rw [← hmm] at hok
  refine wp_region_any hmix ?_
  have R' : Rel h0 w0 n β fr bx h a { w with drawn := w.drawn + 1 } := ⟨⟨R.tmps, R.boxes⟩, R.defers, R.size, ⟨R.sim.vis⟩, ⟨R.frm.os, R.frm.tape, R.frm.output, R.frm.size, R.frm.priv⟩, R.priv, R.inj, R.refs⟩
  have hs := arun_srun ops.toList fr bx h ⟨⟨w, R.sim⟩, hE⟩ hr
  refine sdraw (m := m) hops hok (clK_clo K) (fun a w k => hQ a w (RK_clK k)) (List.range ops.size) ops.size (Array.replicate ops.size false) ops.toList (by simp) ?_ ?_ β fr bx h a _ R' hE hs
  · refine ⟨by simp, fun j hj => by simp [hj], fun j hj => by simpa using hj, List.pairwise_lt_range, fun i o ho hi => ?_⟩
    exfalso
    have hlt := (Array.getElem?_eq_some_iff.1 ho).1
    simp [hlt] at hi
  · apply List.ext_getElem?
    intro i
    simp only [List.getElem?_map]
    by_cases hi : i < ops.size
    · simp [hi]
    · simp [hi]

theorem lk_proF (d b : Nat) : ∀ (fr : Fr) (i : Nat), lk (proF d b fr) i = (lk fr i).map fun v => match v with
    | .val u => .val u
    | .box k off => bif k == d then .val (.pointer (some ⟨b, off, none⟩)) else .box k off
  | [], i => rfl
  | (j, .val v) :: r, i => by
    rw [proF, lk, lk, lk_proF d b r i]
    cases (j == i) <;> rfl
  | (j, .box k off) :: r, i => by
    rw [proF, lk, lk, lk_proF d b r i]
    cases (j == i) <;> rfl
theorem lkb_delb (d : Nat) : ∀ (bx : Bx) (k : Nat), lkb (delb d bx) k = if k = d then none else lkb bx k
  | [], k => by simp [delb, lkb]
  | (j, c) :: r, k => by
    rw [delb, lkb]
    by_cases hj : j = d
    · subst hj
      simp only [beq_self_eq_true, cond_true]
      rw [lkb_delb j r k]
      by_cases hk : k = j
      · rw [if_pos hk, if_pos hk]
      · rw [if_neg hk, if_neg hk]
        have : (j == k) = false := by simp; exact fun e => hk e.symm
        rw [this]
        rfl
    · have : (j == d) = false := by simp [hj]
      rw [this]
      simp only [cond_false]
      rw [lkb, lkb_delb d r k]
      by_cases hk : k = d
      · have : (j == k) = false := by subst hk; simp [hj]
        rw [this, if_pos hk, if_pos hk]
        rfl
      · rw [if_neg hk, if_neg hk]
theorem RK_prom {d : Nat} {K : Fr → Bx → Hp → Prop} (k : RK h0 w0 n (prom d K) a w) : RK h0 w0 n K a w := by
  obtain ⟨β, fr, bx, h, R, hp⟩ := k
  unfold prom at hp
  cases hc : lkb bx d with
  | none => rw [hc] at hp; exact hp.elim
  | some cs =>
    rw [hc] at hp
    obtain ⟨T, hT⟩ := R.boxes d cs hc
    obtain ⟨hb0, hbw⟩ := R.priv d cs hc
    have hp := hp (β d) T hb0
    refine ⟨β, _, _, _, ⟨⟨fun i v hv => ?_, fun k c hk => ?_⟩, R.defers, R.size, ⟨fun i o hi => ?_⟩, ⟨R.frm.os, R.frm.tape, R.frm.output, R.frm.size, fun i hi hn => ?_⟩, fun k c hk => ?_, fun k k' c c' hk hk' => ?_, fun i k off hi => ?_⟩, hp⟩
    · rw [lk_proF] at hv
      cases hl : lk fr i with
      | none => rw [hl] at hv; cases hv
      | some u =>
        rw [hl] at hv
        rw [R.tmps i u hl]
        cases u with
        | val u => simp only [Option.map_some, Option.some.injEq] at hv; subst hv; rfl
        | box k off =>
          simp only [Option.map_some, Option.some.injEq] at hv
          by_cases hk : k = d
          · subst hk
            simp only [beq_self_eq_true, cond_true] at hv
            subst hv
            rfl
          · have : (k == d) = false := by simp [hk]
            rw [this] at hv
            simp only [cond_false] at hv
            subst hv
            rfl
    · rw [lkb_delb] at hk
      split at hk
      · cases hk
      · exact R.boxes k c hk
    · unfold seen at hi
      split at hi
      · rename_i he
        cases hi
        rw [he]
        exact hT
      · exact R.sim.vis i o hi
    · obtain ⟨e1, e2⟩ := R.frm.priv i hi hn
      refine ⟨e1, ?_⟩
      unfold seen
      rw [if_neg (by omega)]
      exact e2
    · rw [lkb_delb] at hk
      split at hk
      · cases hk
      · rename_i hkd
        obtain ⟨e1, e2⟩ := R.priv k c hk
        refine ⟨?_, e2⟩
        unfold seen
        rw [if_neg (fun e => hkd (R.inj k d c cs hk hc e))]
        exact e1
    · rw [lkb_delb] at hk hk'
      split at hk
      · cases hk
      · split at hk'
        · cases hk'
        · exact R.inj k k' c c' hk hk'
    · rw [lk_proF] at hi
      cases hl : lk fr i with
      | none => rw [hl] at hi; cases hi
      | some u =>
        rw [hl] at hi
        cases u with
        | val u => simp at hi
        | box k' off' =>
          simp only [Option.map_some, Option.some.injEq] at hi
          by_cases hk : k' = d
          · subst hk
            simp at hi
          · have : (k' == d) = false := by simp [hk]
            rw [this] at hi
            simp only [cond_false, AV.box.injEq] at hi
            obtain ⟨rfl, rfl⟩ := hi
            obtain ⟨c, hcc⟩ := R.refs i _ _ hl
            exact ⟨c, by rw [lkb_delb, if_neg hk]; exact hcc⟩

/-! ### Code -/
def RQ (h0 : Hp) (w0 : World) (n : Nat) (Q : Post) : Exit → Act → World → Prop := fun e => RK h0 w0 n (Q e)

theorem awp_sound (hmix : P.follows .mixedOrders = true) : ∀ (c : Code), okCode n c = true → ∀ (Q : Post) (β : Nat → Nat) (fr : Fr) (bx : Bx) (h : Hp) (a : Act) (w : World), Rel h0 w0 n β fr bx h a w →
    awp P hm c Q fr bx h → c.wp P (RQ h0 w0 n Q) a w
  | .skip, _, Q, β, fr, bx, h, a, w, R, hA => wp_skip ⟨β, fr, bx, h, R, hA⟩
  | .region id ops dr, hk, Q, β, fr, bx, h, a, w, R, hA => by
    have hops : ∀ o ∈ ops.toList, ∀ k, o.dst = some k → k < n := by
      intro o ho k hd
      simp only [okCode, List.all_eq_true] at hk
      have := hk o ho
      simp [okOper, hd] at this
      exact this.1
    cases dr with
    | false =>
      refine wp_region_list ?_
      exact srun_list (m := { hm := hm }) hops (fun a w k => RK_clK k) ops.toList hops β fr bx h a w R trivial (arun_srun ops.toList fr bx h ⟨⟨w, R.sim⟩, trivial⟩ hA)
    | true =>
      rcases hA with hA | hA | hA | hA | hA
      · exact region_draw (hm := hm) hmix hops (fun a w k => k) R hA
      · exact region_split (hm := hm) hmix hops (fun a w k => k) R hA
      · obtain ⟨d, m, hE, hok, hr⟩ := hA
        exact region_draw (hm := m.hm) hmix hops (fun a w k => RK_prom k) R ⟨m, hE, ⟨rfl, hok⟩, hr⟩
      · obtain ⟨d, hp⟩ := hA
        obtain ⟨β', fr', bx', h', R', m, hE, hok, hr⟩ := RK_prom (d := d) ⟨β, fr, bx, h, R, hp⟩
        exact region_draw (hm := m.hm) hmix hops (fun a w k => k) R' ⟨m, hE, ⟨rfl, hok⟩, hr⟩
      · exact region_all (hm := hm) hmix hops (fun a w k => k) R hA
  | .seq x y, hk, Q, β, fr, bx, h, a, w, R, hA => by
    simp only [okCode, Bool.and_eq_true] at hk
    refine wp_seq (Code.wp_mono (fun e a w k => ?_) (awp_sound hmix x hk.1 (thn (awp P hm y Q) Q) β fr bx h a w R hA))
    cases e with
    | normal =>
      obtain ⟨β', fr', bx', h', R', k'⟩ := k
      exact awp_sound hmix y hk.2 Q β' fr' bx' h' a w R' k'
    | exit id => exact k
    | goto l => exact k
    | ret => exact k
    | panic ch => exact k
    | outgrown => exact k
  | .cond c x y, hk, Q, β, fr, bx, h, a, w, R, hA => by
    simp only [okCode, Bool.and_eq_true] at hk
    simp only [awp] at hA
    obtain ⟨v, hv, hA⟩ := vval_some hA
    split at hA
    · rename_i b
      have hc := R.toLoc.ev_ hv
      simp only [conc] at hc
      refine wp_cond hc ?_
      simp only [Br] at hA
      cases b with
      | true => exact awp_sound hmix x hk.1 Q β fr bx h a w R hA
      | false => exact awp_sound hmix y hk.2 Q β fr bx h a w R hA
    · exact hA.elim
  | .block id x, hk, Q, β, fr, bx, h, a, w, R, hA => by
    refine wp_block (Code.wp_mono (fun e a w k => ?_) (awp_sound hmix x (by simpa [okCode] using hk) (inBlk id Q) β fr bx h a w R hA))
    cases e with
    | exit i =>
      simp only [Exit.inBlock]
      obtain ⟨β', fr', bx', h', R', k'⟩ := k
      simp only [inBlk] at k'
      split
      · rename_i hi; rw [if_pos hi] at k'; exact ⟨β', fr', bx', h', R', k'⟩
      · rename_i hi; rw [if_neg hi] at k'; exact ⟨β', fr', bx', h', R', k'⟩
    | normal => exact k
    | goto l => exact k
    | ret => exact k
    | panic ch => exact k
    | outgrown => exact k
  | .loop x, hk, Q, β, fr, bx, h, a, w, R, hA => by
    obtain ⟨I, ⟨k0, fr1, bx1, hw1, hI⟩, round⟩ := hA
    have R1 := R.weak hw1
    -- the measure: the least number at which the relation holds
    refine wp_loop (fun a w => ∃ k, RK h0 w0 n (I k) a w) (fun a w => Classical.epsilon fun k => RK h0 w0 n (I k) a w ∧ ∀ j, RK h0 w0 n (I j) a w → k ≤ j) ⟨k0, β, fr1, bx1, h, R1, hI⟩ ?_
    intro a w hI
    have least : ∀ (a : Act) (w : World), (∃ k, RK h0 w0 n (I k) a w) → ∃ k, RK h0 w0 n (I k) a w ∧ ∀ j, RK h0 w0 n (I j) a w → k ≤ j := by
      intro a w ⟨k, hk⟩
      induction k using Nat.strongRecOn with
      | _ k ih =>
        by_cases hj : ∃ j, j < k ∧ RK h0 w0 n (I j) a w
        · obtain ⟨j, hlt, hj⟩ := hj
          exact ih j hlt hj
        · exact ⟨k, hk, fun j hj' => Nat.le_of_not_lt fun hlt => hj ⟨j, hlt, hj'⟩⟩
    obtain ⟨hIk, _⟩ := Classical.epsilon_spec (least a w hI)
    generalize Classical.epsilon (fun k => RK h0 w0 n (I k) a w ∧ ∀ j, RK h0 w0 n (I j) a w → k ≤ j) = k at hIk
    obtain ⟨β', fr', bx', h', R', hIk⟩ := hIk
    refine Code.wp_mono (fun e a' w' q => ?_) (awp_sound hmix x (by simpa [okCode] using hk) _ β' fr' bx' h' a w R' (round k fr' bx' h' hIk))
    cases e with
    | normal =>
      obtain ⟨β2, fr2, bx2, h2, R2, j, fr3, bx3, hlt, hw3, hI3⟩ := q
      have hj : RK h0 w0 n (I j) a' w' := ⟨β2, fr3, bx3, h2, R2.weak hw3, hI3⟩
      refine ⟨⟨j, hj⟩, ?_⟩
      have hsp := Classical.epsilon_spec (least a' w' ⟨j, hj⟩)
      exact Nat.lt_of_le_of_lt (hsp.2 j hj) hlt
    | exit id => exact q
    | goto l => exact q
    | ret => exact q
    | panic ch => exact q
    | outgrown => exact q
  | .exit id, _, Q, β, fr, bx, h, a, w, R, hA => wp_exit ⟨β, fr, bx, h, R, hA⟩
  | .ret, _, Q, β, fr, bx, h, a, w, R, hA => wp_ret ⟨β, fr, bx, h, R, hA⟩
  | .scope _, hk, _, _, _, _, _, _, _, _, _ => by simp [okCode] at hk
  | .label _, hk, _, _, _, _, _, _, _, _, _ => by simp [okCode] at hk
  | .goto _, hk, _, _, _, _, _, _, _, _, _ => by simp [okCode] at hk
  | .rangeFunc _ _ _ _, hk, _, _, _, _, _, _, _, _, _ => by simp [okCode] at hk
  | .refuse _, hk, _, _, _, _, _, _, _, _, _ => by simp [okCode] at hk

/-! ### A function -/
theorem argFr_lk : ∀ (vs : List Value) (i j : Nat) (v : AV), lk (argFr i vs) j = some v → ∃ u, v = .val u ∧ i ≤ j ∧ vs[j - i]? = some u
  | [], i, j, v, h => by simp [argFr, lk] at h
  | u :: vs, i, j, v, h => by
    simp only [argFr, lk] at h
    by_cases hij : i = j
    · subst hij
      simp at h
      exact ⟨u, h.symm, Nat.le_refl _, by simp⟩
    · have : (i == j) = false := by simp [hij]
      simp only [this, cond_false] at h
      obtain ⟨u', h1, h2, h3⟩ := argFr_lk vs (i + 1) j v h
      refine ⟨u', h1, by omega, ?_⟩
      rw [show j - i = (j - (i + 1)) + 1 by omega]
      simpa using h3

theorem ares1_run (R : Rel h0 w0 n β fr bx h a w) {r : ResultVar} {v : Value} (hr : ares1 P fr bx r = some v) :
    ((match r with | .tmp t => pure (a.tmps.getD t undef) | .cell t ty => (Instr.loadAt ty (a.tmps.getD t undef)) : Sem Value)).run P w = .ok v w := by
  cases r with
  | tmp t =>
    simp only [ares1] at hr
    split at hr
    · rename_i u hu
      simp at hr
      subst hr
      simp only [Sem.run_pure]
      rw [R.tmps t _ hu]
      rfl
    · simp at hr
  | cell t ty =>
    simp only [ares1] at hr
    split at hr
    · rename_i k off hk
      split at hr
      · rename_i cs hcs
        split at hr
        · rename_i u hu
          simp at hr
          subst hr
          obtain ⟨u', e, hrun⟩ := rdC_run (P := P) (t := ty) R.toLoc hcs hu
          cases e
          simp only
          rw [R.tmps t _ hk]
          exact hrun
        · simp at hr
      · simp at hr
    · simp at hr
end
end Go.Sx
