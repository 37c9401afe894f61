/-
  A part of the abstract machine over the model's Code, or of the proof that what it shows holds of the model; no program is in sight, and nothing is assumed.
-/
import Derived.Test.YtccjkhnefiikaaaGreatDoorSxSoundA
import Derived.Laws.Tables
namespace Go.Sx
open Go
section
variable {P : Program} {w : World} {β : Nat → Nat} {fr : Fr} {bx : Bx} {a : Act}

theorem add_box (b off o : Nat) : (⟨b, off, none⟩ : Addr).add o = ⟨b, off + o, none⟩ := by
  unfold Addr.add
  split
  · rename_i h; subst h; rfl
  · rfl

theorem mapv_some {x : Option Value} {v : AV} (h : mapv x = some v) : ∃ u, x = some u ∧ v = .val u := by
  cases x <;> simp [mapv] at h
  exact ⟨_, rfl, h.symm⟩
theorem un1_some {x : Option AV} {f : Value → Option Value} {v : AV} (h : un1 x f = some v) : ∃ a u, x = some (.val a) ∧ f a = some u ∧ v = .val u := by
  unfold un1 at h
  split at h
  · obtain ⟨u, h1, h2⟩ := mapv_some h
    exact ⟨_, u, rfl, h1, h2⟩
  · simp at h
theorem bin2_some {x y : Option AV} {f : Value → Value → Option Value} {v : AV} (h : bin2 x y f = some v) :
    ∃ a b u, x = some (.val a) ∧ y = some (.val b) ∧ f a b = some u ∧ v = .val u := by
  unfold bin2 at h
  split at h
  · obtain ⟨u, h1, h2⟩ := mapv_some h
    exact ⟨_, _, u, rfl, rfl, h1, h2⟩
  · simp at h

theorem run_value {s : Sem Value} {v : Value} {w' : World} (h : s.run P w = .ok v w') : (do pure (Next.value (← s)) : Sem Next).run P w = .ok (.value v) w' := by
  simp [h]

theorem elS_some {t z : Nat} (h : elS P t = some z) : ∃ e i, P.underlying t = some (.slice e) ∧ P.info? e = some i ∧ i.size = z := by
  unfold elS at h
  split at h
  · rename_i e he
    cases hi : P.info? e with
    | none => simp [hi] at h
    | some i => simp [hi] at h; exact ⟨e, i, he, hi, h⟩
  · simp at h
theorem plcs_some {t : Nat} {pl : List (Nat × Nat)} (h : plcs P t = some pl) : ∃ fs, P.underlying t = some (.struct fs) ∧ fs.toList.mapM (fun f => (P.info? f.type).map fun i => (f.offset, i.size)) = some pl := by
  unfold plcs at h
  split at h
  · rename_i fs hs; exact ⟨fs, hs, h⟩
  · simp at h
theorem mapM_get {α β : Type} {g : α → Option β} : ∀ (l : List α) (r : List β), l.mapM g = some r → ∀ (i : Nat) (x : β), r[i]? = some x → ∃ a, l[i]? = some a ∧ g a = some x
  | [], r, h, i, x, hx => by
    simp at h
    subst h
    simp at hx
  | a :: l, r, h, i, x, hx => by
    simp only [List.mapM_cons, Option.bind_eq_bind, Option.pure_def] at h
    cases ha : g a with
    | none => simp [ha] at h
    | some y =>
      cases hr : l.mapM g with
      | none => simp [ha, hr] at h
      | some ys =>
        simp [ha, hr] at h
        subst h
        cases i with
        | zero => simp at hx; subst hx; exact ⟨a, rfl, ha⟩
        | succ i => exact mapM_get l ys hr i x (by simpa using hx)
theorem fOff_some {s i o : Nat} (h : fOff (plcs P s) i = some o) : ∃ fs f j, P.underlying s = some (.struct fs) ∧ fs[i]? = some f ∧ P.info? f.type = some j ∧ j.size ≠ 0 ∧ f.offset = o := by
  unfold fOff at h
  split at h
  · rename_i l hl
    obtain ⟨fs, hs, hm⟩ := plcs_some hl
    split at h
    · rename_i o' z hz
      simp at h
      subst h
      obtain ⟨f, hf, hg⟩ := mapM_get _ _ hm _ _ hz
      cases hi : P.info? f.type with
      | none => simp [hi] at hg
      | some j =>
        simp [hi] at hg
        exact ⟨fs, f, j, hs, by simpa using hf, hi, by omega, hg.1⟩
    · simp at h
  · simp at h

theorem isIfc_ty {xt : Nat} (ht : isIfc P xt = true) : ∃ ms, P.underlying xt = some (.interface ms) := by
  unfold isIfc at ht
  split at ht
  · exact ⟨_, by assumption⟩
  · simp at ht
theorem nilC_const {y : Operand} (h : nilC y = true) : y = .const .nilIface := by
  unfold nilC at h
  split at h
  · rfl
  · simp at h
theorem vnilb_run {op : BinOp} {xt : Nat} {a v : Value} {r : Bool} (ht : isIfc P xt = true) (ha : (r = false ∧ ∃ t u, a = .iface t u) ∨ (r = true ∧ a = .nilIface)) (h : vnilb op r = some v) :
    (binOp op xt a .nilIface).run P w = .ok v w := by
  obtain ⟨ms, hu⟩ := isIfc_ty ht
  have e : ∀ d, (Op.equalIn (d + 1) xt a .nilIface).run P w = .ok r w := fun d => by
    rcases ha with ⟨rfl, t, u, rfl⟩ | ⟨rfl, rfl⟩ <;> simp [Op.equalIn, run_ty hu]
  cases op <;> simp only [vnilb] at h <;> first
    | (simp at h; done)
    | skip
  all_goals
    simp only [Option.some.injEq] at h
    subst h
    rcases ha with ⟨rfl, t, u, rfl⟩ | ⟨rfl, rfl⟩ <;> simp only [binOp] <;> simp [Op.equal, Op.maxDepth, e 9999]
theorem vbin_run {op : BinOp} {xt : Nat} {a b v : Value} (x y : Operand) (h : vbin P op xt (nilC y) a b = some v) :
    (do eqGuard op xt x y a b; binOp op xt a b : Sem Value).run P w = .ok v w := by
  have g : ∀ {a b : Value}, (∀ t v, a ≠ .iface t v) → a ≠ .nilIface → (∀ l, a ≠ .agg l) → (eqGuard op xt x y a b).run P w = .ok () w := by
    intro a b _ h2 h3
    unfold eqGuard
    cases op <;> simp <;> (cases a <;> cases b <;> first | rfl | (exact absurd rfl (h3 _)) | (exact absurd rfl h2) | simp)
  unfold vbin at h
  split at h
  · rename_i t u
    split at h
    · rename_i ht
      have hg : (eqGuard op xt x y (.iface t u) .nilIface).run P w = .ok () w := by unfold eqGuard; cases op <;> simp
      simp only [Sem.run_bind, hg, Result.andThen_ok]
      exact vnilb_run ht (.inl ⟨rfl, _, _, rfl⟩) h
    · simp at h
  · split at h
    · rename_i ht
      simp only [Bool.and_eq_true] at ht
      have hy := nilC_const ht.2
      subst hy
      have hg : (eqGuard op xt x (.const .nilIface) .nilIface .nilIface).run P w = .ok () w := by unfold eqGuard; cases op <;> simp
      simp only [Sem.run_bind, hg, Result.andThen_ok]
      exact vnilb_run ht.1 (.inr ⟨rfl, rfl⟩) h
    · simp at h
  · rename_i k x' k' y'
    have g' := @g (.int k x') (.int k' y') (by simp) (by simp) (by simp)
    simp only [Sem.run_bind, g', Result.andThen_ok]
    split at h
    · split at h <;> simp at h
      rename_i hy
      subst h
      simp [binOp, Op.shift, hy]
    · split at h <;> simp at h
      rename_i hy
      subst h
      simp [binOp, Op.shift, hy]
    · split at h
      · rename_i hk
        subst hk
        exact vint_run h xt
      · simp at h
  · rename_i x' y'
    simp only [Sem.run_bind, @g (.string x') (.string y') (by simp) (by simp) (by simp), Result.andThen_ok]
    exact vstr_run h xt
  · rename_i x' y'
    simp only [Sem.run_bind, @g (.bool x') (.bool y') (by simp) (by simp) (by simp), Result.andThen_ok]
    split at h
    · rename_i ht; exact vbool_run ht h
    · simp at h
  · split at h
    · rename_i ht
      obtain ⟨h1, h2⟩ := vkey_run (w := w) ht h x y
      simp only [Sem.run_bind, h1, Result.andThen_ok, h2]
    · simp at h
  · simp at h

theorem vun_run {op : UnOp} {x v : Value} (h : vun op x = some v) : (Op.unary op x).run P w = .ok v w := by
  unfold vun at h
  split at h <;> simp at h
  all_goals (subst h; simp [Op.unary, Op.intArith])

theorem sidx_run {t : Nat} {s : ByteArray} {k : IntKind} {n : Int} {v : Value} (ht : isStr P t = true) (h : sidx s n = some v) : (Instr.index t (.string s) (.int k n)).run P w = .ok v w := by
  unfold sidx at h
  split at h
  · rename_i h0
    cases hc : s.data.toList[n.toNat]? with
    | none => simp [hc] at h
    | some c =>
      simp [hc] at h
      subst h
      have hlt : n.toNat < s.size := by
        have := (List.getElem?_eq_some_iff.1 hc).1
        simpa using this
      have hs : s[n.toNat]? = some c := by
        rw [getElem?_pos s n.toNat hlt]
        have := (List.getElem?_eq_some_iff.1 hc).2
        simp at this
        rw [← this]
        rfl
      simp [Instr.index, asIntOf, run_ty (isStr_ty ht), h0, hs]
  · simp at h
theorem vindex_run {t : Nat} {x i v : Value} (h : vindex P t x i = some v) : (Instr.index t x i).run P w = .ok v w := by
  unfold vindex at h
  split at h
  · split at h
    · rename_i ht; exact sidx_run ht h
    · simp at h
  · simp at h
theorem vfld_run {t i : Nat} {x v : Value} (h : vfld (flO P t i) x = some v) : (Instr.field t x i).run P w = .ok v w := by
  unfold vfld at h
  split at h
  · rename_i o cs ho
    unfold flO at ho
    split at ho
    · rename_i fs hs
      split at ho
      · rename_i f hf
        split at ho
        · rename_i ht
          cases ho
          obtain ⟨h1, _⟩ := tyS_some (w := w) ht
          simp [Instr.field, run_ty hs, hf, asAgg, part, h1, h]
        · cases ho
      · cases ho
    · cases ho
  · cases h
theorem vindexAddr_run {t : Nat} {x i v : Value} (h : vindexAddr P t x i = some v) : (Instr.indexAt t x i).run P w = .ok v w := by
  unfold vindexAddr at h
  split at h
  · rename_i z a len cap k n hz
    split at h
    · rename_i hb
      simp at h
      subst h
      obtain ⟨e, j, he, hi, rfl⟩ := elS_some hz
      simp [Instr.indexAt, asIntOf, run_ty he, hb, run_size hi]
    · simp at h
  · simp at h
theorem vbound_run (k : IntKind) (n : Int) (y : Nat) (code : BoundsCode) (h : 0 ≤ n ∧ n ≤ y) : (Instr.sliceBound (.int k n) y code).run P w = .ok n.toNat w := by
  simp [Instr.sliceBound, asIntOf, h]
/-- A bound as the operation has it: an integer value. -/
def isBound (v : Option Value) (n : Option Int) : Prop :=
  match v, n with
  | none, none => True
  | some (.int _ m), some n => m = n
  | _, _ => False
theorem vslice_run {t : Nat} {x v : Value} {lo hi : Option Int} {l h : Option Value} (hl : isBound l lo) (hh : isBound h hi) (hv : vslice P t x lo hi = some v) :
    (Instr.sliceAt t x l h none).run P w = .ok v w := by
  unfold vslice at hv
  split at hv
  · rename_i s
    simp only at hv
    split at hv
    · rename_i hc
      obtain ⟨ht, h0, h1, h2⟩ := hc
      simp at hv
      subst hv
      have hu := isStr_ty ht
      cases l with
      | none => cases lo with
        | some _ => exact hl.elim
        | none => cases h with
          | none => cases hi with
            | some _ => exact hh.elim
            | none => simp [Instr.sliceAt, Instr.slice, Instr.sliceBounds, run_ty hu]
          | some hv => cases hi with
            | none => cases hv <;> exact hh.elim
            | some m => cases hv <;> first | exact hh.elim | skip
                        rename_i k n
                        simp only [isBound] at hh
                        subst hh
                        simp only [Option.getD_some, Option.getD_none] at h0 h1 h2 ⊢
                        simp [Instr.sliceAt, Instr.slice, Instr.sliceBounds, run_ty hu, vbound_run k n s.size _ ⟨h1, h2⟩]
      | some lv => cases lo with
        | none => cases lv <;> exact hl.elim
        | some m => cases lv <;> first | exact hl.elim | skip
                    rename_i k n
                    simp only [isBound] at hl
                    subst hl
                    cases h with
                    | none => cases hi with
                      | some _ => exact hh.elim
                      | none =>
                        simp only [Option.getD_some, Option.getD_none] at h0 h1 h2 ⊢
                        simp [Instr.sliceAt, Instr.slice, Instr.sliceBounds, run_ty hu, vbound_run k n s.size _ ⟨h0, h1⟩]
                    | some hv => cases hi with
                      | none => cases hv <;> exact hh.elim
                      | some m => cases hv <;> first | exact hh.elim | skip
                                  rename_i k' n'
                                  simp only [isBound] at hh
                                  subst hh
                                  simp only [Option.getD_some] at h0 h1 h2 ⊢
                                  have h3 : n ≤ (n'.toNat : Int) := by omega
                                  simp [Instr.sliceAt, Instr.slice, Instr.sliceBounds, run_ty hu, vbound_run k' n' s.size _ ⟨by omega, h2⟩, vbound_run k n n'.toNat _ ⟨h0, h3⟩]
    · simp at hv
  · rename_i ad len cap
    split at hv
    · rename_i z hz
      simp only at hv
      split at hv
      · rename_i hc
        obtain ⟨h0, h1, h2, h3⟩ := hc
        simp at hv
        subst hv
        obtain ⟨e, j, hu, hi', rfl⟩ := elS_some hz
        cases l with
        | none => cases lo with
          | some _ => exact hl.elim
          | none => cases h with
            | none => cases hi with
              | some _ => exact hh.elim
              | none => simp [Instr.sliceAt, Instr.slice, Instr.sliceBounds, run_ty hu, run_size hi']
            | some hv => cases hi with
              | none => cases hv <;> exact hh.elim
              | some m => cases hv <;> first | exact hh.elim | skip
                          rename_i k n
                          simp only [isBound] at hh
                          subst hh
                          simp only [Option.getD_some, Option.getD_none] at h0 h1 h2 ⊢
                          simp [Instr.sliceAt, Instr.slice, Instr.sliceBounds, run_ty hu, run_size hi', vbound_run k n cap _ ⟨h1, h2⟩]
        | some lv => cases lo with
          | none => cases lv <;> exact hl.elim
          | some m => cases lv <;> first | exact hl.elim | skip
                      rename_i k n
                      simp only [isBound] at hl
                      subst hl
                      cases h with
                      | none => cases hi with
                        | some _ => exact hh.elim
                        | none =>
                          simp only [Option.getD_some, Option.getD_none] at h0 h1 h2 ⊢
                          simp [Instr.sliceAt, Instr.slice, Instr.sliceBounds, run_ty hu, run_size hi', vbound_run k n len _ ⟨h0, h1⟩]
                      | some hv => cases hi with
                        | none => cases hv <;> exact hh.elim
                        | some m => cases hv <;> first | exact hh.elim | skip
                                    rename_i k' n'
                                    simp only [isBound] at hh
                                    subst hh
                                    simp only [Option.getD_some] at h0 h1 h2 ⊢
                                    have h4 : n ≤ (n'.toNat : Int) := by omega
                                    simp [Instr.sliceAt, Instr.slice, Instr.sliceBounds, run_ty hu, run_size hi', vbound_run k' n' cap _ ⟨by omega, h2⟩, vbound_run k n n'.toNat _ ⟨h0, h4⟩]
      · simp at hv
    · simp at hv
  · simp at hv

/-! ### A struct literal -/
theorem vlen_run {t : Nat} {x v : Value} (h : vlen (lenT P t) x = some v) (ty : Nat) : (Builtin.len_ #[t] ty #[x]).run P w = .ok v w := by
  unfold lenT at h
  unfold vlen at h
  split at h
  · rename_i hk
    simp only [Option.some.injEq] at h
    subst h
    split at hk <;> simp at hk
    rename_i hu
    simp [Builtin.len_, run_ty hu, goInt]
  · rename_i hk
    simp only [Option.some.injEq] at h
    subst h
    split at hk <;> simp at hk
    rename_i hu
    simp [Builtin.len_, run_ty hu, goInt]
  · simp at h

theorem splice_set {l : List Value} {k : Nat} (hl : k < l.length) {v : Value} {vs : List Value} : splice (l.set k v) (k + 1) vs = splice l k (v :: vs) := by
  unfold splice
  have h1 : (l.set k v).take (k + 1) = l.take k ++ [v] := by
    rw [List.take_succ_eq_append_getElem (by simpa using hl), List.getElem_set_self, List.take_set_of_le (Nat.le_refl _)]
  rw [h1, List.drop_set_of_lt (by omega), List.length_cons, show k + (vs.length + 1) = k + 1 + vs.length by omega]
  simp
theorem foldl_set (vs : List Value) : ∀ (off j : Nat) (cs : Array Value), off + j + vs.length ≤ cs.size →
    (vs.toArray.zipIdx j |>.foldl (fun cs (c, j) => cs.setIfInBounds (off + j) c) cs).toList = splice cs.toList (off + j) vs := by
  induction vs with
  | nil => intro off j cs h; simp [splice]; rfl
  | cons v vs ih =>
    intro off j cs h
    have e : (v :: vs).toArray.zipIdx j = #[(v, j)] ++ vs.toArray.zipIdx (j + 1) := by
      apply Array.ext'
      simp [List.zipIdx_cons]
    rw [e, Array.foldl_append]
    simp only [List.foldl_toArray', List.foldl_cons, List.foldl_nil]
    have h' : off + (j + 1) + vs.length ≤ (cs.setIfInBounds (off + j) v).size := by simp at h ⊢; omega
    have := ih off (j + 1) (cs.setIfInBounds (off + j) v) h'
    rw [this]
    clear this ih h' e
    have hl : off + j < cs.toList.length := by simp at h ⊢; omega
    rw [Array.toList_setIfInBounds]
    exact splice_set hl
theorem fill_run {place : Nat → Option (Nat × Nat)} : ∀ (parts : List (Nat × Value)) (cs : Array Value) (out : List Value),
    (∀ p ∈ parts, ∃ o, place p.1 = some (o, p.2.cells.size)) →
    (parts.foldl (fun acc p => acc.bind fun cs => (place p.1).bind fun q => if q.1 + p.2.cells.toList.length ≤ cs.length then some (splice cs q.1 p.2.cells.toList) else none) (some cs.toList) = some out) →
    Instr.fill place cs parts = some out.toArray
  | [], cs, out, _, h => by
    simp at h
    subst h
    simp [Instr.fill]
  | (i, v) :: rest, cs, out, hp, h => by
    obtain ⟨o, ho⟩ := hp (i, v) (by simp)
    simp only at ho
    simp only [List.foldl_cons, Option.bind_some, ho] at h
    split at h
    · rename_i hb
      have hl : (v.cells.zipIdx.foldl (fun cs (c, j) => cs.setIfInBounds (o + j) c) cs).toList = splice cs.toList o v.cells.toList := by
        have := foldl_set v.cells.toList o 0 cs (by simpa using hb)
        simpa using this
      simp only [Instr.fill, ho]
      rw [if_neg (by simp at hb ⊢; omega)]
      have := fill_run (place := place) rest (v.cells.zipIdx.foldl (fun cs (c, j) => cs.setIfInBounds (o + j) c) cs) out (fun p hm => hp p (by simp [hm])) (by rw [hl]; exact h)
      exact this
    · exfalso
      have : ∀ (l : List (Nat × Value)), l.foldl (fun acc p => acc.bind fun cs => (place p.1).bind fun q => if q.1 + p.2.cells.toList.length ≤ cs.length then some (splice cs q.1 p.2.cells.toList) else none) (none : Option (List Value)) = none := by
        intro l
        induction l with
        | nil => rfl
        | cons p l ih => simpa using ih
      rw [this] at h
      cases h

theorem vparts_foldl {pl : List (Nat × Nat)} : ∀ (ps : List (Nat × Value)) (cs out : List Value), vparts pl ps cs = some out →
    (∀ p ∈ ps, ∃ o, pl[p.1]? = some (o, p.2.cells.size)) ∧
    ps.foldl (fun acc p => acc.bind fun cs => (pl[p.1]?).bind fun q => if q.1 + p.2.cells.toList.length ≤ cs.length then some (splice cs q.1 p.2.cells.toList) else none) (some cs) = some out
  | [], cs, out, h => by simpa [vparts] using h
  | (i, v) :: ps, cs, out, h => by
    simp only [vparts] at h
    split at h
    · rename_i o z hz
      split at h
      · rename_i hc
        obtain ⟨h1, h2⟩ := hc
        obtain ⟨k1, k2⟩ := vparts_foldl ps _ out h
        subst h1
        refine ⟨fun p hp => ?_, ?_⟩
        · rcases List.mem_cons.1 hp with rfl | hp
          · exact ⟨o, by simpa using hz⟩
          · exact k1 p hp
        · simp only [List.foldl_cons, Option.bind_some, hz]
          rw [if_pos (by simpa using h2)]
          exact k2
      · simp at h
    · simp at h
theorem zeroC_some {t : Nat} {z : List Value} (h : zeroC P t = some z) : ∃ v, (zeroValue t).run P w = .ok v w ∧ v.cells.toList = z := by
  unfold zeroC at h
  cases hi : P.info? t with
  | none => simp [hi] at h
  | some i =>
    cases hz : i.zero with
    | none => simp [hi, hz] at h
    | some v =>
      simp [hi, hz] at h
      exact ⟨v, by simp [zeroValue, run_info hi, hz], by simpa using h⟩
theorem vbuild_run {t : Nat} {parts : List (Nat × Value)} {v : AV} (h : vbuild (plcs P t) (zeroC P t) (parts.map (·.1)) (some (parts.map (·.2))) = some v) :
    ∃ u, v = .val u ∧ (Instr.build t parts.toArray).run P w = .ok u w := by
  unfold vbuild at h
  split at h
  case h_2 => simp at h
  rename_i pl z vs hpl hz hvs
  simp only [Option.some.injEq] at hvs
  subst hvs
  have hzip : (parts.map (·.1)).zip (parts.map (·.2)) = parts := by
    rw [List.zip_map']
    simp
  rw [hzip] at h
  cases ho : vparts pl parts z with
  | none => simp [ho] at h
  | some out =>
    simp [ho] at h
    subst h
    refine ⟨_, rfl, ?_⟩
    obtain ⟨fs, hs, hm⟩ := plcs_some hpl
    obtain ⟨zv, hzr, hzc⟩ := zeroC_some (w := w) hz
    obtain ⟨k1, k2⟩ := vparts_foldl parts z out ho
    have hf := fill_run (place := fun x => pl[x]?) parts zv.cells out (fun p hp => k1 p hp) (by rw [hzc]; exact k2)
    simp [Instr.build, hzr, run_ty hs, Array.mapM_eq_mapM_toList, run_places w _ _ hm, hf]
end
end Go.Sx
