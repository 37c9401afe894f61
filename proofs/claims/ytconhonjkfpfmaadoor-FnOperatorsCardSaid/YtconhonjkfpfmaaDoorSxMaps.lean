/-
  A part of the abstract machine over the model's Code, or of the proof that what it shows holds of the model; no program is in sight, and nothing is assumed.
-/
import Derived.Test.YtconhonjkfpfmaaDoorSxHole
/-! Maps of the walk's own whose keys are structs of a bool, an int and a string: a set of keys, each new one at the end. -/
namespace Go.Sx
open Go
def Ky.val (k : Ky) : Value := .agg #[.bool k.text, .int .i64 k.num, .string k.str]
/-- a map type: from such keys to bools -/
def mapT (P : Program) (t : Nat) : Bool := match P.underlying t with
  | some (.map k e) => keyT P k && (match (P.info? e).bind (·.zero) with | some (.bool false) => true | _ => false)
  | _ => false
theorem mapT_some {P : Program} {t : Nat} (h : mapT P t = true) : ∃ k e i, P.underlying t = some (.map k e) ∧ keyT P k = true ∧ P.info? e = some i ∧ i.zero = some (.bool false) := by
  unfold mapT at h
  split at h
  · rename_i k e hu
    simp only [Bool.and_eq_true] at h
    obtain ⟨h1, h2⟩ := h
    cases hi : P.info? e with
    | none => rw [hi] at h2; simp at h2
    | some i =>
      rw [hi] at h2
      simp only [Option.bind_some] at h2
      split at h2
      · rename_i hz
        exact ⟨k, e, i, hu, h1, hi, hz⟩
      · simp at h2
  · simp at h
/-- The block is a map that holds these keys. -/
def OwM (h : Hp) (b : Nat) (ks : List Ky) : Prop := ∃ es clock, h b = some (.map es clock) ∧ es.toList.map (fun e => (e.key, e.val)) = ks.map fun k => (k.val, Value.bool true)
section
variable {P : Program} {h h' : Hp} {K : Value → Hp → Prop} {w : World} {b : Nat} {ks : List Ky}
theorem OwM.ext (m : OwM h b ks) (e : Ext h h') : OwM h' b ks := by
  obtain ⟨es, c, h1, h2⟩ := m
  exact ⟨es, c, e _ _ h1, h2⟩
theorem keyT_under {k : Nat} (ht : keyT P k = true) : ∃ f0 f1 f2 : Field, P.underlying k = some (.struct #[f0, f1, f2]) ∧ f0.offset = 0 ∧ f1.offset = 1 ∧ f2.offset = 2 ∧ P.underlying f0.type = some .bool ∧ P.underlying f1.type = some (.int .i64) ∧ P.underlying f2.type = some .string := by
  unfold keyT at ht
  split at ht
  case h_2 => simp at ht
  rename_i fs hu
  split at ht
  case h_2 => simp at ht
  rename_i f0 f1 f2 hfs
  obtain ⟨fs⟩ := fs
  simp only at hfs
  subst hfs
  simp only [Bool.and_eq_true, bne_iff_ne, ne_eq, beq_iff_eq, Bool.not_eq_true'] at ht
  obtain ⟨⟨⟨⟨⟨⟨⟨⟨⟨⟨n0, n1⟩, n2⟩, o0⟩, o1⟩, o2⟩, b0⟩, i1⟩, s2⟩, hst⟩, heq⟩ := ht
  exact ⟨f0, f1, f2, hu, o0, o1, o2, isBoolT_ty b0, intT_ty i1, isStr_ty s2⟩
theorem check_scalar {em : Bool} {d t : Nat} {v : Value} (h : P.underlying t = some .bool ∨ P.underlying t = some (.int .i64) ∨ P.underlying t = some .string) : (Instr.checkKey em (d + 1) t v).run P w = .ok () w := by
  rcases h with h | h | h <;> (cases v <;> simp [Instr.checkKey, run_ty h])
theorem check_key {em : Bool} {k : Nat} (ht : keyT P k = true) (q : Ky) : (Instr.checkKey em 10000 k q.val).run P w = .ok () w := by
  obtain ⟨f0, f1, f2, hu, o0, o1, o2, u0, u1, u2⟩ := keyT_under ht
  have e : ∀ d, (Instr.checkKey em (d + 2) k q.val).run P w = .ok () w := by
    intro d
    unfold Instr.checkKey
    simp only [Ky.val, Sem.run_bind, run_ty hu, Result.andThen_ok]
    have p0 := part_scalar (w := w) (P := P) u0 rfl (cs := #[.bool q.text, .int .i64 q.num, .string q.str]) (i := 0) (v := .bool q.text) rfl
    have p1 := part_scalar (w := w) (P := P) u1 rfl (cs := #[.bool q.text, .int .i64 q.num, .string q.str]) (i := 1) (v := .int .i64 q.num) rfl
    have p2 := part_scalar (w := w) (P := P) u2 rfl (cs := #[.bool q.text, .int .i64 q.num, .string q.str]) (i := 2) (v := .string q.str) rfl
    have c0 := check_scalar (P := P) (w := w) (em := em) (d := d) (t := f0.type) (v := .bool q.text) (.inl u0)
    have c1 := check_scalar (P := P) (w := w) (em := em) (d := d) (t := f1.type) (v := .int .i64 q.num) (.inr (.inl u1))
    have c2 := check_scalar (P := P) (w := w) (em := em) (d := d) (t := f2.type) (v := .string q.str) (.inr (.inr u2))
    by_cases n0 : f0.name = "_" <;> by_cases n1 : f1.name = "_" <;> by_cases n2 : f2.name = "_" <;> simp [n0, n1, n2, o0, o1, o2, p0, p1, p2, c0, c1, c2]
  exact e 9998
theorem find_ask {k : Nat} (ht : keyT P k = true) (q : Ky) : ∀ (es : List MapEntry) (ks : List Ky) (i : Nat), es.map (fun e => (e.key, e.val)) = ks.map (fun k => (k.val, Value.bool true)) →
    ∃ r, (Instr.findAsking k q.val es i).run P w = .ok r w ∧ (q ∈ ks → ∃ j, r = some (j, .bool true)) ∧ (q ∉ ks → r = none)
  | [], [], i, _ => ⟨none, rfl, by simp, by simp⟩
  | e :: es, [], i, h => by simp at h
  | [], x :: ks, i, h => by simp at h
  | e :: es, x :: ks, i, h => by
    simp only [List.map_cons, List.cons.injEq, Prod.mk.injEq] at h
    obtain ⟨⟨h1, h2⟩, h3⟩ := h
    obtain ⟨r, h4, h5, h6⟩ := find_ask ht q es ks (i + 1) h3
    have hq : (Op.equal k q.val e.key).run P w = .ok (decide (q = x)) w := by
      rw [h1]
      have := key_core (P := P) (w := w) ht q.text x.text q.num x.num q.str x.str
      have e : decide (q.text = x.text ∧ q.num = x.num ∧ q.str = x.str) = decide (q = x) := by
        apply decide_eq_decide.2
        cases q; cases x
        simp
      rw [← e]
      exact this
    by_cases hqx : q = x
    · refine ⟨some (i, .bool true), ?_, fun _ => ⟨i, rfl⟩, fun hn => absurd (by simp [hqx]) hn⟩
      simp only [Instr.findAsking, Sem.run_bind, hq, Result.andThen_ok, decide_eq_true hqx, if_true, h2]
      rfl
    · refine ⟨r, ?_, fun hm => h5 ?_, fun hn => h6 fun hm => hn (by simp [hm])⟩
      · simp only [Instr.findAsking, Sem.run_bind, hq, Result.andThen_ok, decide_eq_false hqx, Bool.false_eq_true, if_false]
        exact h4
      · rcases List.mem_cons.1 hm with h | h
        · exact absurd h hqx
        · exact h
theorem find_now_struct {d : TypeDesc} {q : Ky} : ∀ (es : List MapEntry) (i : Nat), es ≠ [] → Instr.findNow d q.val es i = none
  | [], _, h => absurd rfl h
  | e :: es, i, _ => by
    have : Instr.sameNow d q.val e.key = none := by
      unfold Instr.sameNow Ky.val
      cases d <;> rfl
    simp [Instr.findNow, this]
theorem find_key {k : Nat} (ht : keyT P k = true) (q : Ky) (es : List MapEntry) (ks : List Ky) (h : es.map (fun e => (e.key, e.val)) = ks.map (fun k => (k.val, Value.bool true))) :
    ∃ r, (Instr.findKey k q.val es).run P w = .ok r w ∧ (q ∈ ks → ∃ j, r = some (j, .bool true)) ∧ (q ∉ ks → r = none) := by
  obtain ⟨f0, f1, f2, hu, _⟩ := keyT_under ht
  cases es with
  | nil =>
    have : ks = [] := by
      cases ks with
      | nil => rfl
      | cons => simp at h
    subst this
    exact ⟨none, by simp [Instr.findKey, run_ty hu, Instr.findNow], by simp, by simp⟩
  | cons e es =>
    obtain ⟨r, h1, h2⟩ := find_ask (P := P) (w := w) ht q (e :: es) ks 0 h
    refine ⟨r, ?_, h2⟩
    simp only [Instr.findKey, Sem.run_bind, run_ty hu, Result.andThen_ok, find_now_struct (e :: es) 0 (by simp)]
    exact h1
theorem hsem_mk_map {t : Nat} (k : ∀ b, h b = none → OwM (hset h b (.map #[] 0)) b [] → Ext h (hset h b (.map #[] 0)) → K (.map (some b)) (hset h b (.map #[] 0))) : HSem P (mmI t) h K := by
  refine hsem_alloc (v := fun b => .map (some b)) (o := .map #[] 0) (fun w _ => ?_) fun b hb => k b hb ⟨_, _, hset_same _ _ _, rfl⟩ (ext_set hb _)
  simp [mmI, Instr.makeMap]
theorem hsem_map_has {t : Nat} (ht : mapT P t = true) (m : OwM h b ks) (q : Ky) (k : K (.bool (decide (q ∈ ks))) h) : HSem P (luI t (.map (some b)) q.val false) h K := by
  obtain ⟨kt, et, i, hu, hk, hi, hz⟩ := mapT_some ht
  obtain ⟨es, c, hb, he⟩ := m
  refine hsem_pure (fun w hw => ?_) k
  obtain ⟨r, h1, h2, h3⟩ := find_key (P := P) (w := w) hk q es.toList ks he
  have hc := check_key (P := P) (w := w) (em := es.isEmpty) hk q
  have hg : (getObj b).run P w = .ok (.map es c) w := by simp [getObj, Sem.run, hw.vis b _ hb]
  by_cases hq : q ∈ ks
  · obtain ⟨j, rfl⟩ := h2 hq
    simp [luI, Instr.lookup, run_underlying hu, hg, hc, h1, hq]
  · rw [h3 hq] at h1
    simp [luI, Instr.lookup, run_underlying hu, hg, hc, h1, hq, zeroValue, run_info hi, hz]
theorem hsem_map_add {t : Nat} (ht : mapT P t = true) (m : OwM h b ks) (q : Ky) (hq : q ∉ ks) (k : ∀ h', OwM h' b (ks ++ [q]) → But h h' [b] → K undef h') : HSem P (muI t (.map (some b)) q.val (.bool true)) h K := by
  obtain ⟨kt, et, i, hu, hk, hi, hz⟩ := mapT_some ht
  obtain ⟨es, c, hb, he⟩ := m
  refine hsem_set (o' := .map (es.push { key := q.val, val := .bool true, born := c }) (c + 1)) hb (fun w hw => ?_) (k _ ⟨_, _, hset_same _ _ _, by simp [he]⟩ (but_set _ (.inl (by simp))))
  obtain ⟨r, h1, h2, h3⟩ := find_key (P := P) (w := w) hk q es.toList ks he
  have hc := check_key (P := P) (w := w) (em := false) hk q
  have hv := hw.vis b _ hb
  have hg : (getObj b).run P w = .ok (.map es c) w := by simp [getObj, Sem.run, hv]
  rw [h3 hq] at h1
  have hlt : b < w.heap.size := sim_lt hw hb
  refine ⟨{ w with heap := w.heap.setIfInBounds b (.map (es.push { key := q.val, val := .bool true, born := c }) (c + 1)) }, ?_, ?_, ?_, ?_, rfl, rfl, rfl⟩
  · have hs : (setObj b (.map (es.push { key := q.val, val := .bool true, born := c }) (c + 1))).run P w = .ok () { w with heap := w.heap.setIfInBounds b (.map (es.push { key := q.val, val := .bool true, born := c }) (c + 1)) } := by simp [setObj, Sem.run, hv]
    simp [muI, Instr.mapUpdate, run_underlying hu, hg, hc, h1, hs]
  · simp [hlt]
  · intro i hi
    show (w.heap.setIfInBounds b _)[i]? = _
    rw [Array.getElem?_setIfInBounds]
    simp [Ne.symm hi]
  · simp
theorem hsem_map_len {t ty : Nat} (ht : mapT P t = true) (m : OwM h b ks) (k : K (.int .i64 (ks.length : Nat)) h) : HSem P (lnI t ty (.map (some b))) h K := by
  obtain ⟨kt, et, i, hu, hk, hi, hz⟩ := mapT_some ht
  obtain ⟨es, c, hb, he⟩ := m
  refine hsem_pure (fun w hw => ?_) k
  have hg : (getObj b).run P w = .ok (.map es c) w := by simp [getObj, Sem.run, hw.vis b _ hb]
  have hl : es.size = ks.length := by
    have := congrArg List.length he
    simpa using this
  simp [lnI, Builtin.len_, run_underlying hu, hg, hl, goInt]
end
end Go.Sx
