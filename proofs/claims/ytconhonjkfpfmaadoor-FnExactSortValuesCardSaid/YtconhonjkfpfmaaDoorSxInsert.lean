/-
  A part of the abstract machine over the model's Code, or of the proof that what it shows holds of the model; no program is in sight, and nothing is assumed.
-/
import Derived.Test.YtconhonjkfpfmaaDoorSxBag
import Derived.Lib.Overlaps
/-! What slices.Insert needs: cap, copy within a block, append of zeros that grows, slices.overlaps. -/
namespace Go.Sx
open Go
variable {P : Program} {h0 h : Hp} {K : Value → Hp → Prop} {bag : Bag}
theorem hsem_cap {t ty : Nat} {s : SlT} (hs : slT P t = some s) {a : Option Addr} {n c : Nat} (k : K (.int .i64 c) h) : HSem P (cqI #[t] ty #[.slice a n c]) h K := by
  obtain ⟨i, zv, h1, h2, h3, h4, h5, h6⟩ := slT_some hs
  refine hsem_pure (fun w _ => ?_) k
  simp [cqI, Builtin.cap_, run_underlying h1, goInt]
theorem hsem_copy {t ty : Nat} {s : SlT} (hs : slT P t = some s) {b off len cap m c cc : Nat} {a : Option Addr} {cur : Array Value} {e : Nat} {xs : List Value} (hb : h b = some (.cells cur e (0, 0))) (rd : RdS h s.z (.slice a c cc) xs) (hc : c = min m len) (hfit : off + c * s.z ≤ cur.size)
    (k : ∀ cur' : Array Value, cur'.toList = splice cur.toList off xs → cur'.size = cur.size → K (.int .i64 c) (hset h b (.cells cur' e (0, 0)))) : HSem P (cpI #[t, t] ty #[.slice (some ⟨b, off, none⟩) len cap, .slice a m cc]) h K := by
  obtain ⟨i, zv, h1, h2, h3, h4, h5, h6⟩ := slT_some hs
  have hl : xs.length = c * s.z := by
    obtain ⟨⟨a', n', c', e1, _, hl, _⟩, _⟩ := rd
    cases e1
    exact hl
  have hone := rd.one
  refine hsem_set (v := .int .i64 c) (o' := .cells (splice cur.toList off xs).toArray e (0, 0)) hb (fun w hw => ?_) (k _ rfl (by
    rw [List.size_toArray]
    unfold splice
    rw [List.length_append, List.length_append, List.length_take, List.length_drop, Array.length_toList]
    omega))
  obtain ⟨w', e0, e1, e2, e3, e4, e5, e6⟩ := storeCells_run (P := P) xs b off 0 cur e w (hw.vis _ _ hb) (by omega) hone
  refine ⟨w', ?_, by simpa using e1, e2, e3, e4, e5, e6⟩
  have hf := first_run (P := P) hw rd
  have hf' : (Builtin.firstCells s.z c (.slice a m cc)).run P w = .ok xs.toArray w := by
    rw [← hf]
    cases a <;> rfl
  have hmin : Nat.min m len = c := by rw [hc]
  simp [cpI, Builtin.copy_, run_underlying h1, sizeOf, typeInfo, h2, h4, Builtin.lenOf, hmin, hf', e0, goInt]
theorem hsem_grow {t tn ty : Nat} {s : SlT} {kn : IntKind} (hs : slT P t = some s) (hn : P.underlying tn = some (.int kn)) (hz0 : 0 < s.z) (hzl : s.zero.length = s.z) {a : Option Addr} {n c q : Nat} {xs : List Value} (rd : RdS h s.z (.slice a n c) xs) (hq : 0 < q) (hroom : c < n + q)
    (hb : (n + q) * s.by_ ≤ 140737488355328) (hb2 : n + q ≤ 140737488355328)
    (k : ∀ (b e nc : Nat) (cur : Array Value), h b = none → n + q ≤ nc → nc ≤ maxLen → cur.size = nc * s.z → cur.toList.take (n * s.z) = xs → K (.slice (some ⟨b, 0, none⟩) (n + q) nc) (hset h b (.cells cur e (0, 0)))) : HSem P (apI #[t, tn] ty #[.slice a n c, .int .i64 q]) h K := by
  obtain ⟨i, zv, h1, h2, h3, h4, h5, h6⟩ := slT_some hs
  have hzs : zv.cells.size = s.z := by rw [← hzl, ← h6]; simp
  have hxl : xs.length = n * s.z := by
    obtain ⟨⟨a', n', c', e1, _, hl, _⟩, _⟩ := rd
    cases e1
    exact hl
  refine hsem_new (fun v b o => ∃ (e nc : Nat) (cur : Array Value), v = .slice (some ⟨b, 0, none⟩) (n + q) nc ∧ o = .cells cur e (0, 0) ∧ n + q ≤ nc ∧ nc ≤ maxLen ∧ cur.size = nc * s.z ∧ cur.toList.take (n * s.z) = xs) (fun w hw => ?_) (fun v b o hb ⟨e, nc, cur, e1, e2, q1, q2, q3, q4⟩ => by
      subst e1
      subst e2
      exact k b e nc cur hb q1 q2 q3 q4)
  have hw' : Sim h w.drew := ⟨hw.vis⟩
  have hf := first_run (P := P) hw' rd
  have h48' : ¬ (281474976710656 < Builtin.nextslicecap (n + q) c * s.by_) := by have := growslice_fits (old := c) (need := n + q) (by omega) hb; omega
  have hbq : q * s.by_ ≤ 140737488355328 := Nat.le_trans (Nat.mul_le_mul_right _ (by omega)) hb
  have hwr : IntKind.i64.wrap (q : Int) = q := IntWalk.i64_in _ (by omega)
  have h63' : ¬ ((9223372036854775807 : Int) < ((n : Int) + (q : Int))) := by omega
  have hlt : ¬ ((q : Int) < 0) := by omega
  have hbq' : ¬ ((281474976710656 : Int) < (q : Int) * (s.by_ : Int)) := by
    rw [← Int.natCast_mul]
    omega
  have hnr : ¬ (n + q ≤ c) := by omega
  have hq0 : ¬ (q = 0) := by omega
  have hzz : ¬ (s.z = 0) := by omega
  have hge := grownCap_ge w (n + q) c s.e
  refine ⟨_, _, w.drew.alloc (.cells (xs.toArray ++ Builtin.zeroCells zv.cells q ++ Builtin.zeroCells zv.cells (grownCap w (n + q) c s.e - (n + q))) s.e), ?_, rfl, rfl, rfl, rfl, s.e, grownCap w (n + q) c s.e, _, rfl, rfl, hge, grownCap_le_maxLen w (n + q) c s.e (by simp only [maxLen]; omega), ?_, ?_⟩
  · simp [apI, Builtin.append_, run_underlying h1, run_underlying hn, sizeOf, typeInfo, zeroValue, h2, h3, h4, h5, asInt, asIntOf, hwr, hlt, hbq', hnr, h63', h48', Question.forced, hf, newRow, grownCap]
    intro hz
    exact absurd hz (Nat.mul_ne_zero hq0 hzz)
  · simp only [Array.size_append, List.size_toArray, size_zeroCells, hzs, hxl, ← Nat.add_mul]
    congr 1
    omega
  · rw [Array.toList_append, Array.toList_append, List.append_assoc, ← hxl]
    exact List.take_left
/-- A slice of the walk's own and one more element of it, opened: where they lie; and put together again, in the same block or in a new one. -/
theorem my_ins {z n cap i b : Nat} {cs xc : List Dt} {x : Value} (m : My h0 h ((.row z cs, .slice (some ⟨b, 0, none⟩) n cap) :: (.row z xc, x) :: bag)) (hn0 : 0 < n) (hn : cs.length = n * z) (hx : xc.length = z) (hi : i ≤ n) :
    ∃ (cur : Array Value) (e : Nat) (xs xx : List Value), h b = some (.cells cur e (0, 0)) ∧ n ≤ cap ∧ cap ≤ maxLen ∧ cur.size = cap * z ∧ cur.toList.take (n * z) = xs ∧ xs.length = n * z ∧ oneCells xs = true ∧ RdS h z x xx ∧ xx.length = z ∧
      (∀ ad nx cx, x = .slice (some ad) nx cx → 0 < nx → ad.block ≠ b ∧ ∃ cu eu, h ad.block = some (.cells cu eu (0, 0))) ∧
      ∀ (h' : Hp) (b' cap' e' : Nat) (cur' : Array Value), (b' = b ∨ h b' = none) → (∀ q o, h q = some o → q ≠ b' → h' q = some o) → h' b' = some (.cells cur' e' (0, 0)) → n + 1 ≤ cap' → cap' ≤ maxLen → cur'.size = cap' * z →
        cur'.toList.take ((n + 1) * z) = xs.take (i * z) ++ (xx ++ xs.drop (i * z)) → My h0 h' ((.row z (cs.take (i * z) ++ (xc ++ cs.drop (i * z))), .slice (some ⟨b', 0, none⟩) (n + 1) cap') :: bag) := by
  obtain ⟨B1, B2, l1, l2, k2, k3, k4⟩ := My.cons_iff.1 m
  simp only [Ow] at l1
  obtain ⟨xs, C1, C2, o1, o2, rfl⟩ := l1
  simp only [List.map_cons, OwL_cc, Ow] at l2
  obtain ⟨_, B3, ⟨xx, D1, D2, o3, o4, rfl⟩, l3, rfl⟩ := l2
  have o3' := o3
  cases o1 with
  | nil => omega
  | row hb hnc hm0 hz hl ht h10 hp =>
    rename_i cur e
    have hxx : xx.length = z := by rw [o4.len, hx]
    have hle : i * z ≤ n * z := Nat.mul_le_mul_right _ hi
    refine ⟨cur, e, xs, xx, hb, hnc, hm0, hz, ht, hl, h10, o3.rd, hxx, ?_, ?_⟩
    · intro ad nx cx hxe hnx
      subst hxe
      cases o3' with
      | nil => omega
      | row w1 w2 w3 w4 w5 w6 w7 w8 =>
        rename_i b2 cur2 e2
        refine ⟨?_, cur2, e2, w1⟩
        show b2 ≠ b
        rintro rfl
        have := (List.nodup_append.1 k2).2.2 b2 (by simp) b2 (by simp)
        exact this rfl
    · intro h' b' cap' e' cur' hb' hbut hb2 hn1 hm1 hz1 ht1
      obtain ⟨ya, yb, Ca, Cb, exs, eC, p1, p2⟩ := (show OwL h (cs.take (i * z) ++ cs.drop (i * z)) xs C2 by rw [List.take_append_drop]; exact o2).split
      have la : ya.length = i * z := by rw [p1.len, List.length_take, hn]; omega
      have ea : xs.take (i * z) = ya := by rw [exs, ← la, List.take_left]
      have eb : xs.drop (i * z) = yb := by rw [exs, ← la, List.drop_left]
      subst eC
      have hnew : ∀ q, q ∈ Ca ++ Cb ++ D2 ++ B3 → q ≠ b' := by
        rintro q hq rfl
        rcases hb' with hb' | hb'
        · subst hb'
          have hd := (List.nodup_append.1 k2).1
          have hq2 : q ∈ Ca ++ Cb ∨ q ∈ (D1 ++ D2) ++ B3 := by
            simp only [List.mem_append] at hq ⊢
            rcases hq with ((h | h) | h) | h <;> simp [h]
          rcases hq2 with hq2 | hq2
          · have hd1 : (q :: (Ca ++ Cb)).Nodup := by simpa using hd
            exact (List.nodup_cons.1 hd1).1 hq2
          · exact (List.nodup_append.1 k2).2.2 q (by simp) q hq2 rfl
        · have : ∃ o, h q = some o := by
            simp only [List.mem_append] at hq
            rcases hq with ((h | h) | h) | h
            · exact p1.there q h
            · exact p2.there q h
            · exact o4.there q h
            · exact l3.there q h
          obtain ⟨o, ho⟩ := this
          rw [hb'] at ho
          cases ho
      have fr : ∀ {ds : List Dt} {ys : List Value} {B : List Nat}, OwL h ds ys B → (∀ q ∈ B, q ∈ Ca ++ Cb ++ D2 ++ B3) → OwL h' ds ys B := fun k hB => k.frame fun q hq => by
        obtain ⟨o, ho⟩ := k.there q hq
        rw [hbut q o ho (hnew q (hB q hq)), ho]
      have q1 := fr p1 (by simp +contextual)
      have q2 := fr p2 (by simp +contextual)
      have q4 := fr o4 (by simp +contextual)
      have ow := q1.append (q4.append q2)
      rw [ea, eb] at ht1
      have hlen : (ya ++ (xx ++ yb)).length = (n + 1) * z := by
        have hs1 : xs.length = ya.length + yb.length := by rw [exs, List.length_append]
        simp only [List.length_append]
        rw [Nat.add_mul, Nat.one_mul]
        omega
      rw [My.cons_iff]
      refine ⟨[b'] ++ (Ca ++ (D2 ++ Cb)), B3, ?_, fr l3 (by simp +contextual), ?_, ?_, ?_⟩
      · simp only [Ow]
        exact ⟨_, [b'], _, .row hb2 hn1 hm1 hz1 hlen ht1 ow.one (by omega), ow, rfl⟩
      · have hbase : (Ca ++ Cb ++ D2 ++ B3).Nodup := by
          have h1 : ([b] ++ (Ca ++ Cb) ++ (D1 ++ D2 ++ B3)).Nodup := k2
          have h2 : ([b] ++ (Ca ++ Cb) ++ (D1 ++ D2 ++ B3)).Perm (([b] ++ D1) ++ (Ca ++ Cb ++ D2 ++ B3)) := by
            simp only [List.append_assoc]
            refine List.Perm.append_left _ ?_
            have e1 : (Ca ++ (Cb ++ (D1 ++ (D2 ++ B3)))).Perm (D1 ++ (Ca ++ (Cb ++ (D2 ++ B3)))) := by
              have := (List.perm_append_comm (l₁ := Ca ++ Cb) (l₂ := D1)).append_right (D2 ++ B3)
              simpa using this
            exact e1
          exact (List.nodup_append.1 (h2.nodup_iff.1 h1)).2.1
        have hp2 : (Ca ++ Cb ++ D2 ++ B3).Perm (Ca ++ (D2 ++ Cb) ++ B3) := by
          refine List.Perm.append_right B3 ?_
          rw [List.append_assoc]
          exact List.Perm.append_left Ca List.perm_append_comm
        rw [List.append_assoc]
        refine List.nodup_cons.2 ⟨fun hq => hnew b' (hp2.mem_iff.2 hq) rfl, hp2.nodup_iff.1 hbase⟩
      · intro q hq
        have hq : q = b' ∨ q ∈ Ca ∨ q ∈ D2 ∨ q ∈ Cb ∨ q ∈ B3 := by simpa [or_assoc] using hq
        rcases hq with h1 | h1 | h1 | h1 | h1
        · rw [h1]
          rcases hb' with hb' | hb'
          · exact k3 b' (by rw [hb']; simp)
          · exact none_of_ext k4 hb'
        · exact k3 q (by simp [h1])
        · exact k3 q (by simp [h1])
        · exact k3 q (by simp [h1])
        · exact k3 q (by simp [h1])
      · intro q o hq
        refine hbut q o (k4 q o hq) fun hqb => ?_
        rw [hqb] at hq
        rcases hb' with hb' | hb'
        · rw [k3 b' (by rw [hb']; simp)] at hq
          cases hq
        · rw [none_of_ext k4 hb'] at hq
          cases hq
theorem RdS.frame1 {h' : Hp} {z n c : Nat} {ad : Addr} {xs : List Value} (rd : RdS h z (.slice (some ad) n c) xs) (hf : h' ad.block = h ad.block) : RdS h' z (.slice (some ad) n c) xs := by
  obtain ⟨⟨a, n', c', e1, hc, hl, hat⟩, hone⟩ := rd
  cases e1
  refine ⟨⟨_, _, _, rfl, hc, hl, ?_⟩, hone⟩
  rcases hat with h0 | ⟨ad', e2, cur, e, f, h1, h2, h3⟩
  · exact .inl h0
  · cases e2
    exact .inr ⟨_, rfl, cur, e, f, hf.trans h1, h2, h3⟩
/-- slices.overlaps of two slices in two blocks -/
theorem acalls_apart {g : Nat} {fn : Func} {t tr e : Nat} {a b : Addr} {la ca lb cb : Nat} {cA cB : Array Value} {eA eB : Nat} (hr : ∀ w, (callFunc g #[.slice (some a) la ca, .slice (some b) lb cb]).run P w = ((Extern.SlicesOverlaps.overlaps #[t, t] #[tr] #[.slice (some a) la ca, .slice (some b) lb cb]).run P w).andThen fun v w => .ok (.value v) w)
    (ht : P.underlying t = some (.slice e)) {size : Nat} (hz : ∀ w, (Go.sizeOf e).run P w = .ok size w) (hne : a.block ≠ b.block) (hA : h a.block = some (.cells cA eA (0, 0))) (hB : h b.block = some (.cells cB eB (0, 0))) (h0 : cB.size ≠ 0) (_ : P.funcs[g]? = some fn) :
    ACalls P g #[.slice (some a) la ca, .slice (some b) lb cb] h (Pu (.bool false) h) := by
  refine .inr fun w hw => ⟨.bool false, ?_, rfl, rfl⟩
  have q1 : w.shape? a.block = some (eA, cA.size) := by simp [World.shape?, hw.vis _ _ hA]
  have q2 : w.shape? b.block = some (eB, cB.size) := by simp [World.shape?, hw.vis _ _ hB]
  have q3 : w.frozen? a = false := by simp [World.frozen?, hw.vis _ _ hA]
  have q4 : w.frozen? { block := a.block, off := cA.size } = false := by simp [World.frozen?, hw.vis _ _ hA]
  rw [hr, Lib.run_overlaps_apart w t tr e ht size hz a b la ca lb cb hne eA eB cA.size cB.size q1 q2 h0 q3 q4]
  rfl
/-- a part of a slice whose block is known -/
theorem rds_own {z n p c cc b : Nat} {cur : Array Value} {e : Nat} {xs : List Value} (hbk : h b = some (.cells cur e (0, 0))) (htk : cur.toList.take (n * z) = xs) (hl : xs.length = n * z) (hone : oneCells xs = true) (hpc : p + c ≤ n) (hcc : c ≤ cc) : RdS h z (.slice (some ⟨b, p * z, none⟩) c cc) ((xs.drop (p * z)).take (c * z)) := by
  have h1 : (p + c) * z ≤ n * z := Nat.mul_le_mul_right _ hpc
  rw [Nat.add_mul] at h1
  have e1 : xs = xs.take (p * z) ++ ((xs.drop (p * z)).take (c * z) ++ (xs.drop (p * z)).drop (c * z)) := by rw [List.take_append_drop, List.take_append_drop]
  refine ⟨⟨_, c, cc, rfl, hcc, by rw [List.length_take, List.length_drop, hl]; omega, .inr ⟨_, rfl, cur, e, _, hbk, rfl, fun j u hj => ?_⟩⟩, ?_⟩
  · have h2 := take_get rfl hj
    rw [List.getElem?_drop] at h2
    have := take_get htk h2
    simpa using this
  · rw [e1, oneCells_append, oneCells_append] at hone
    simp only [Bool.and_eq_true] at hone
    exact hone.2.1
/-- cells written behind one another -/
theorem splice_two {l ya xx yb : List Value} {p q : Nat} (hp : ya.length = p) (hq : p + xx.length = q) (ht : l.take p = ya) (hl : q + yb.length ≤ l.length) : (splice (splice l p xx) q yb).take (q + yb.length) = ya ++ (xx ++ yb) := by
  subst hp
  subst hq
  have e2 : splice l ya.length xx = ya ++ (xx ++ l.drop (ya.length + xx.length)) := by
    unfold splice
    rw [ht, List.append_assoc]
  rw [e2]
  have e3 : splice (ya ++ (xx ++ l.drop (ya.length + xx.length))) (ya.length + xx.length) yb = (ya ++ (xx ++ yb)) ++ (ya ++ (xx ++ l.drop (ya.length + xx.length))).drop (ya.length + xx.length + yb.length) := by
    unfold splice
    rw [← List.append_assoc ya xx, ← List.length_append, List.take_left]
    simp
  rw [e3]
  have : ya.length + xx.length + yb.length = (ya ++ (xx ++ yb)).length := by simp [Nat.add_assoc]
  rw [this, List.take_left]
theorem splice_rev {l ya xx yb : List Value} {p q : Nat} (hp : ya.length = p) (hq : p + xx.length = q) (ht : l.take p = ya) (hl : q + yb.length ≤ l.length) : (splice (splice l q yb) p xx).take (q + yb.length) = ya ++ (xx ++ yb) := by
  subst hp
  subst hq
  have hq2 : (l.take (ya.length + xx.length)).length = ya.length + xx.length := by rw [List.length_take]; omega
  have e1 : splice l (ya.length + xx.length) yb = l.take (ya.length + xx.length) ++ (yb ++ l.drop (ya.length + xx.length + yb.length)) := by
    unfold splice
    rw [List.append_assoc]
  have e2 : l.take (ya.length + xx.length) = ya ++ (l.take (ya.length + xx.length)).drop ya.length := by
    conv => lhs; rw [← List.take_append_drop ya.length (l.take (ya.length + xx.length))]
    rw [List.take_take, Nat.min_eq_left (by omega), ht]
  have e3 : ((l.take (ya.length + xx.length)).drop ya.length).length = xx.length := by rw [List.length_drop, hq2]; omega
  rw [e1, e2, List.append_assoc]
  generalize (l.take (ya.length + xx.length)).drop ya.length = o at e3
  rw [splice_mid e3.symm]
  have : ya.length + xx.length + yb.length = (ya ++ (xx ++ yb)).length := by simp [Nat.add_assoc]
  have e4 : ya ++ (xx ++ (yb ++ l.drop (ya.length + xx.length + yb.length))) = (ya ++ (xx ++ yb)) ++ l.drop (ya.length + xx.length + yb.length) := by simp
  rw [e4, this, List.take_left]
end Go.Sx
