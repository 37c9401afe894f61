/-
  A part of the abstract machine over the model's Code, or of the proof that what it shows holds of the model; no program is in sight, and nothing is assumed.
-/
import Derived.Test.YtccjkhnefiikaaaGreatDoorSxSoundC
namespace Go.Sx
open Go

/-- The state of the model behind an abstract state; 'h0', 'w0': where the function was entered. -/
structure Rel (h0 : Hp) (w0 : World) (n : Nat) (β : Nat → Nat) (fr : Fr) (bx : Bx) (h : Hp) (a : Act) (w : World) : Prop extends Loc β fr bx a w where
  defers : a.defers = []
  size : a.tmps.size = n
  sim : Sim h w
  frm : Frm h0 w0 h w
  priv : ∀ k cs, lkb bx k = some cs → h (β k) = none ∧ w0.heap.size ≤ β k
  inj : ∀ k k' cs cs', lkb bx k = some cs → lkb bx k' = some cs' → β k = β k' → k = k'
  refs : ∀ i k off, lk fr i = some (.box k off) → ∃ cs, lkb bx k = some cs

section
variable {P : Program} {h0 h h' : Hp} {w0 w w' : World} {n : Nat} {β : Nat → Nat} {fr fr1 : Fr} {bx bx1 : Bx} {a : Act}

theorem Frm.refl (h : Hp) (w : World) : Frm h w h w := ⟨rfl, rfl, rfl, Nat.le_refl _, fun _ _ hn => ⟨rfl, hn⟩⟩
theorem Frm.trans {h1 : Hp} {w1 : World} (f : Frm h0 w0 h w) (g : Frm h w h1 w1) : Frm h0 w0 h1 w1 :=
  ⟨g.os.trans f.os, g.tape.trans f.tape, g.output.trans f.output, Nat.le_trans f.size g.size, fun b hb hn => by
    obtain ⟨e1, n1⟩ := f.priv b hb hn
    obtain ⟨e2, n2⟩ := g.priv b (Nat.lt_of_lt_of_le hb f.size) n1
    exact ⟨e2.trans e1, n2⟩⟩

theorem lk_put (fr : Fr) (d : Option Nat) (v : AV) (i : Nat) : lk (put fr d v) i = if d = some i then some v else lk fr i := by
  cases d with
  | none => simp [put]
  | some k =>
    simp only [put, lk, Option.some.injEq]
    by_cases hk : k = i
    · subst hk; simp
    · have : (k == i) = false := by simp [hk]
      simp [this, hk]

theorem put_tmps (hs : a.tmps.size = n) (d : Option Nat) (hd : ∀ k, d = some k → k < n) (v : Value) (i : Nat) :
    (a.put d v).tmps.getD i undef = if d = some i then v else a.tmps.getD i undef := by
  cases d with
  | none => simp [Act.put]
  | some k =>
    have hk := hd k rfl
    by_cases hki : k = i
    · subst hki
      simp [Act.put, hs, hk]
    · simp [Act.put, Array.getElem?_setIfInBounds_ne hki, hki]

/-- A slot is written; nothing else turns. -/
theorem Rel.put (R : Rel h0 w0 n β fr bx h a w) (d : Option Nat) (hd : ∀ k, d = some k → k < n) (v : AV) (hv : ∀ k off, v = .box k off → ∃ cs, lkb bx k = some cs) :
    Rel h0 w0 n β (Sx.put fr d v) bx h (a.put d (conc β v)) w where
  tmps := fun i u hu => by
    rw [lk_put] at hu
    rw [put_tmps R.size d hd]
    split at hu
    · rename_i e; rw [if_pos e]; simp at hu; rw [hu]
    · rename_i e; rw [if_neg e]; exact R.tmps i u hu
  boxes := R.boxes
  defers := by cases d <;> exact R.defers
  size := by cases d <;> simp [Act.put, R.size]
  sim := R.sim
  frm := R.frm
  priv := R.priv
  inj := R.inj
  refs := fun i k off hu => by
    rw [lk_put] at hu
    split at hu
    · simp at hu; exact hv k off hu
    · exact R.refs i k off hu

/-- The heap turns as a contract says; the boxes do not. -/
theorem Rel.step (R : Rel h0 w0 n β fr bx h a w) (hs : Sim h' w') (hf : Frm h w h' w') : Rel h0 w0 n β fr bx h' a w' where
  tmps := R.tmps
  boxes := fun k cs hk => by
    obtain ⟨T, hT⟩ := R.boxes k cs hk
    obtain ⟨hn, hlt⟩ := R.priv k cs hk
    have hl : β k < w.heap.size := by
      rcases Nat.lt_or_ge (β k) w.heap.size with hl | hl
      · exact hl
      · rw [Array.getElem?_eq_none hl] at hT; cases hT
    exact ⟨T, (hf.priv _ hl hn).1.trans hT⟩
  defers := R.defers
  size := R.size
  sim := hs
  frm := R.frm.trans hf
  priv := fun k cs hk => by
    obtain ⟨T, hT⟩ := R.boxes k cs hk
    obtain ⟨hn, hlt⟩ := R.priv k cs hk
    have hl : β k < w.heap.size := by
      rcases Nat.lt_or_ge (β k) w.heap.size with hl | hl
      · exact hl
      · rw [Array.getElem?_eq_none hl] at hT; cases hT
    exact ⟨(hf.priv _ hl hn).2, hlt⟩
  inj := R.inj
  refs := R.refs

theorem Rel.weak (R : Rel h0 w0 n β fr bx h a w) (k : Wk fr bx fr1 bx1) : Rel h0 w0 n β fr1 bx1 h a w where
  tmps := fun i v hv => R.tmps i v (k.fr i v hv)
  boxes := fun b cs hb => R.boxes b cs (k.bx b cs hb)
  defers := R.defers
  size := R.size
  sim := R.sim
  frm := R.frm
  priv := fun b cs hb => R.priv b cs (k.bx b cs hb)
  inj := fun b b' cs cs' hb hb' => R.inj b b' cs cs' (k.bx b cs hb) (k.bx b' cs' hb')
  refs := k.refs

/-- A new box: a block of the model's heap that is not visible. -/
theorem Rel.newBox (R : Rel h0 w0 n β fr bx h a w) {d : Nat} (hd : lkb bx d = none) (cs : List Value) (T : Nat) :
    Rel h0 w0 n (fun k => if k = d then w.heap.size else β k) fr ((d, cs) :: bx) h a { w with heap := w.heap.push (.cells cs.toArray T) } where
  tmps := fun i v hv => by
    rw [R.tmps i v hv]
    cases v with
    | val u => rfl
    | box k off =>
      obtain ⟨c, hc⟩ := R.refs i k off hv
      have : k ≠ d := by rintro rfl; rw [hd] at hc; cases hc
      simp [conc, this]
  boxes := fun k c hk => by
    simp only [lkb] at hk
    by_cases hkd : d = k
    · subst hkd
      simp at hk
      subst hk
      exact ⟨T, by simp⟩
    · have hb : (d == k) = false := by simp [hkd]
      simp only [hb, cond_false] at hk
      obtain ⟨T', hT⟩ := R.boxes k c hk
      have hl : β k < w.heap.size := by
        rcases Nat.lt_or_ge (β k) w.heap.size with hl | hl
        · exact hl
        · rw [Array.getElem?_eq_none hl] at hT; cases hT
      refine ⟨T', ?_⟩
      have : k ≠ d := fun e => hkd e.symm
      simp only [this, if_false]
      rw [Array.getElem?_push, if_neg (by omega)]
      exact hT
  defers := R.defers
  size := R.size
  sim := ⟨fun b o ho => by
    have := R.sim.vis b o ho
    have hl : b < w.heap.size := by
      rcases Nat.lt_or_ge b w.heap.size with hl | hl
      · exact hl
      · rw [Array.getElem?_eq_none hl] at this; cases this
    show (w.heap.push _)[b]? = _
    rw [Array.getElem?_push, if_neg (by omega)]
    exact this⟩
  frm := ⟨R.frm.os, R.frm.tape, R.frm.output, by have := R.frm.size; simp; omega, fun b hb hn => by
    obtain ⟨e, k⟩ := R.frm.priv b hb hn
    refine ⟨?_, k⟩
    show (w.heap.push _)[b]? = _
    have := R.frm.size
    rw [Array.getElem?_push, if_neg (by omega)]
    exact e⟩
  priv := fun k c hk => by
    simp only [lkb] at hk
    by_cases hkd : d = k
    · subst hkd
      simp only [if_true]
      refine ⟨?_, R.frm.size⟩
      cases hh : h w.heap.size with
      | none => rfl
      | some o =>
        have := R.sim.vis _ o hh
        simp at this
    · have hb : (d == k) = false := by simp [hkd]
      simp only [hb, cond_false] at hk
      have : k ≠ d := fun e => hkd e.symm
      simp only [this, if_false]
      exact R.priv k c hk
  inj := fun k k' c c' hk hk' he => by
    have old : ∀ j cj, lkb bx j = some cj → β j < w.heap.size := fun j cj hj => by
      obtain ⟨T', hT⟩ := R.boxes j cj hj
      rcases Nat.lt_or_ge (β j) w.heap.size with hl | hl
      · exact hl
      · rw [Array.getElem?_eq_none hl] at hT; cases hT
    simp only [lkb] at hk hk'
    by_cases hkd : k = d
    · by_cases hkd' : k' = d
      · rw [hkd, hkd']
      · have hb : (d == k') = false := by simp; exact fun e => hkd' e.symm
        simp only [hb, cond_false] at hk'
        simp only [hkd, if_true, hkd', if_false] at he
        have := old k' c' hk'
        omega
    · have hb : (d == k) = false := by simp; exact fun e => hkd e.symm
      simp only [hb, cond_false] at hk
      by_cases hkd' : k' = d
      · simp only [hkd', if_true, hkd, if_false] at he
        have := old k c hk
        omega
      · have hb' : (d == k') = false := by simp; exact fun e => hkd' e.symm
        simp only [hb', cond_false] at hk'
        simp only [hkd, if_false, hkd'] at he
        exact R.inj k k' c c' hk hk' he
  refs := fun i k off hv => by
    obtain ⟨c, hc⟩ := R.refs i k off hv
    by_cases hkd : d = k
    · subst hkd; exact ⟨cs, by simp [lkb]⟩
    · have hb : (d == k) = false := by simp [hkd]
      exact ⟨c, by simp [lkb, hb, hc]⟩

theorem lkb_setb (bx : Bx) (k : Nat) (x : List Value) (j : Nat) : lkb (setb bx k x) j = if k = j then (lkb bx k).map (fun _ => x) else lkb bx j := by
  induction bx with
  | nil => simp [setb, lkb]
  | cons p bx ih =>
    obtain ⟨i, c⟩ := p
    simp only [setb]
    by_cases hik : i = k
    · subst hik
      by_cases hij : i = j
      · subst hij; simp [lkb]
      · have hb : (i == j) = false := by simp [hij]
        simp [lkb, hb, hij]
    · have hb : (i == k) = false := by simp [hik]
      simp only [hb, cond_false]
      simp only [lkb, ih, hb, cond_false]
      by_cases hkj : k = j
      · subst hkj; simp [hb]
      · simp [hkj]

/-- A store into a box. -/
theorem Rel.setBox (R : Rel h0 w0 n β fr bx h a w) {k : Nat} {cs cs' : List Value} (hk : lkb bx k = some cs)
    (hw : ∃ T, w'.heap[β k]? = some (.cells cs'.toArray T (0, 0))) (ho : ∀ b, b ≠ β k → w'.heap[b]? = w.heap[b]?) (hz : w'.heap.size = w.heap.size)
    (he : w'.os = w.os ∧ w'.tape = w.tape ∧ w'.output = w.output) : Rel h0 w0 n β fr (setb bx k cs') h a w' where
  tmps := R.tmps
  boxes := fun j c hj => by
    rw [lkb_setb] at hj
    split at hj
    · rename_i e; subst e
      simp [hk] at hj
      subst hj
      exact hw
    · rename_i e
      obtain ⟨T, hT⟩ := R.boxes j c hj
      refine ⟨T, (ho _ fun e' => e (R.inj k j cs c hk hj e'.symm)).trans hT⟩
  defers := R.defers
  size := R.size
  sim := ⟨fun b o hb => by
    rw [ho b]
    · exact R.sim.vis b o hb
    · rintro rfl
      rw [(R.priv k cs hk).1] at hb
      cases hb⟩
  frm := ⟨he.1.trans R.frm.os, he.2.1.trans R.frm.tape, he.2.2.trans R.frm.output, by rw [hz]; exact R.frm.size, fun b hb hn => by
    obtain ⟨e, k1⟩ := R.frm.priv b hb hn
    refine ⟨(ho b ?_).trans e, k1⟩
    rintro rfl
    have := (R.priv k cs hk).2
    omega⟩
  priv := fun j c hj => by
    rw [lkb_setb] at hj
    split at hj
    · rename_i e; subst e; exact R.priv k cs hk
    · exact R.priv j c hj
  inj := fun j j' c c' hj hj' e => by
    have back : ∀ i ci, lkb (setb bx k cs') i = some ci → ∃ di, lkb bx i = some di := fun i ci hi => by
      rw [lkb_setb] at hi
      split at hi
      · rename_i e; subst e; exact ⟨cs, hk⟩
      · exact ⟨ci, hi⟩
    obtain ⟨d, hd⟩ := back j c hj
    obtain ⟨d', hd'⟩ := back j' c' hj'
    exact R.inj j j' d d' hd hd' e
  refs := fun i j off hv => by
    obtain ⟨c, hc⟩ := R.refs i j off hv
    rw [lkb_setb]
    split
    · rename_i e; subst e; exact ⟨cs', by simp [hk]⟩
    · exact ⟨c, hc⟩
end
end Go.Sx
