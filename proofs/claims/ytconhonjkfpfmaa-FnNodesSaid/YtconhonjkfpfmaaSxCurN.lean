/-
  A part of the abstract machine over the model's Code, or of the proof that what it shows holds of the model; no program is in sight, and nothing is assumed.
-/
import Derived.Test.YtconhonjkfpfmaaSxCur
import Derived.Test.YtconhonjkfpfmaaSxSub
/-! Nodes that a draw makes: what is done is laid aside into the base, with the cursor beside it. -/
namespace Go.Sx
open Go
variable {P : Program} {h0 h : Hp} {K : Value → Hp → Prop} {bag : Bag} {p : Nat} {l : List UInt8}
/-- one thing is laid aside: it becomes part of the base -/
theorem My.aside {d : Dt} {v : Value} (m : My h0 h ((d, v) :: bag)) : ∃ h', My h0 h' [(d, v)] ∧ My h' h bag := by
  obtain ⟨B1, B2, l1, l2, k2, k3, k4⟩ := My.cons_iff.1 m
  obtain ⟨n1, n2, n3⟩ := List.nodup_append.1 k2
  have k4' : ∀ b o, h0 b = some o → h b = some o := k4
  refine ⟨fun b => if b ∈ B1 then h b else h0 b, My.cons_iff.2 ⟨B1, [], l1.frame fun b hb => by simp only [if_pos hb], by simp [OwL], by simpa using n1, fun b hb => k3 b (by simpa using .inl (by simpa using hb)), fun i o hi => ?_⟩, ⟨B2, l2, n2, fun b hb => ?_⟩, fun i o hi => ?_⟩
  · have hn : i ∉ B1 := fun hb => by
      rw [k3 i (List.mem_append.2 (.inl hb))] at hi
      cases hi
    simp only [if_neg hn]
    exact hi
  · have hn : b ∉ B1 := fun h1 => n3 b h1 b hb rfl
    simp only [if_neg hn]
    exact k3 b (List.mem_append.2 (.inr hb))
  · have hi : (if i ∈ B1 then h i else h0 i) = some o := hi
    split at hi
    · exact hi
    · exact k4' i o hi
theorem CurM.aside {d : Dt} {v : Value} (c : CurM h0 h l p ((d, v) :: bag)) : ∃ h1, Ext h0 h1 ∧ Rd h1 d v ∧ CurM h1 h l p bag := by
  obtain ⟨a, c, i, hh, q1, q2, q3⟩ := c
  obtain ⟨h1, m1, m2⟩ := q3.swap.aside
  exact ⟨h1, m1.ext, m1.rd, a, c, i, hh, q1, q2.mono m1.ext, m2⟩
/-- a node's value -/
def ndv (x : Nd × Value) : Value := .agg #[.int .i64 x.1.kind, .int .i64 x.1.num, .string x.1.text, x.2]
def ndc (x : Nd × Value) : List Value := [.int .i64 x.1.kind, .int .i64 x.1.num, .string x.1.text, x.2]
theorem ndv_cells (x : Nd × Value) : (ndv x).cells.toList = ndc x := rfl
theorem flat_ndv : ∀ (ns : List (Nd × Value)) (k : Nat), flat ((ns.zipIdx k).map fun x => (x.2, ndv x.1)) = ns.flatMap ndc
  | [], _ => rfl
  | a :: r, k => by
    simp only [List.zipIdx_cons, List.map_cons, flat, List.flatMap_cons, ndv_cells]
    exact congrArg (ndc a ++ ·) (flat_ndv r (k + 1))
theorem rd_ndc : ∀ {ns : List (Nd × Value)}, (∀ x ∈ ns, RdN h x.1.kids x.2) → RdL h ((ns.map (·.1)).flatMap Nd.dt) (ns.flatMap ndc)
  | [], _ => by simp only [List.map_nil, List.flatMap_nil, RdL_nil]
  | a :: r, k => by
    simp only [List.map_cons, List.flatMap_cons]
    exact (RdL_node_mk (k a (List.mem_cons_self ..))).append (rd_ndc fun x hx => k x (List.mem_cons_of_mem _ hx))
/-- A slice of nodes that the walk owns, the nodes themselves laid aside. -/
theorem cur_fix {us : List Value} {es : List Nd} {v : Value} (c : CurM h0 h l p ((.row 4 (us.map .raw), v) :: bag)) (hr : RdL h0 (es.flatMap Nd.dt) us) : ∃ h1, Ext h0 h1 ∧ RdN h1 es v ∧ CurM h1 h l p bag := by
  obtain ⟨h1, e1, r1, c1⟩ := c.aside
  refine ⟨h1, e1, ?_, c1⟩
  simp only [Rd] at r1 ⊢
  obtain ⟨xs, q1, q2⟩ := r1
  obtain rfl := RdL.of_raws q2
  exact ⟨xs, q1, hr.mono e1⟩
/-- a literal of nodes -/
theorem cur_own {t n : Nat} {s : SlT} {parts : List (Nat × Value)} (ns : List (Nd × Value)) (es : List Nd) (he : ns.map (·.1) = es) (hs : slT P t = some s) (hz : s.z = 4) (hp : parts = ns.zipIdx.map fun x => (x.2, ndv x.1)) (hn : ns.length = n) (hn0 : 0 < n) (hn2 : n ≤ 1000)
    (hr : ∀ x ∈ ns, RdN h0 x.1.kids x.2) (c : CurM h0 h l p bag)
    (k : ∀ (us : List Value) (a : Option Addr) (m : Nat) (h' : Hp), RdL h0 (es.flatMap Nd.dt) us → CurM h0 h' l p ((.row 4 (us.map .raw), .slice a n m) :: bag) → K (.slice a n m) h') : HSem P (bsI t n parts.toArray) h K := by
  subst he
  obtain ⟨y, m, back⟩ := c.top
  have rr := rd_ndc hr
  have hfl : flat parts = ns.flatMap ndc := by rw [hp]; exact flat_ndv ns 0
  have my := raws_zip rr.one m
  rw [← hfl] at my
  have hlen : (ns.flatMap ndc).length = n * 4 := by rw [rr.len, fm_len Nd.dt_len, List.length_map, hn]
  refine hsem_my_lit hs (by omega) hn0 (by rw [hz]; omega) ?_ ?_ ?_ my ?_ ?_ fun v h' m' => ?_
  · rw [hp, List.length_map, List.length_zipIdx, hn]
  · rw [hp, List.map_map]
    have : ((fun x : Nat × Value => x.1) ∘ fun x : (Nd × Value) × Nat => (x.2, ndv x.1)) = Prod.snd := rfl
    rw [this, List.zipIdx_map_snd, hn, List.range_eq_range']
  · intro q hq
    rw [hp] at hq
    obtain ⟨x, _, rfl⟩ := List.mem_map.1 hq
    rw [hz]
    rfl
  · rw [hfl, hlen, hz]
  · rw [List.length_map, hfl, hlen, hz]
  · rw [hz] at m'
    obtain ⟨a, c, rfl, _⟩ := m'.row_shape (by decide) n (by rw [List.length_map, hfl, hlen])
    rw [hfl] at m'
    exact k _ a c h' rr (back h' [_] m')
theorem cur_nodes {t n : Nat} {s : SlT} {parts : List (Nat × Value)} (ns : List (Nd × Value)) (es : List Nd) (he : ns.map (·.1) = es) (hs : slT P t = some s) (hz : s.z = 4) (hp : parts = ns.zipIdx.map fun x => (x.2, ndv x.1)) (hn : ns.length = n) (hn0 : 0 < n) (hn2 : n ≤ 1000)
    (hr : ∀ x ∈ ns, RdN h0 x.1.kids x.2) (c : CurM h0 h l p bag)
    (k : ∀ (h1 : Hp) (a : Option Addr) (m : Nat) (h' : Hp), Ext h0 h1 → RdN h1 es (.slice a n m) → CurM h1 h' l p bag → K (.slice a n m) h') : HSem P (bsI t n parts.toArray) h K :=
  cur_own ns es he hs hz hp hn hn0 hn2 hr c fun us a m h' r c' => by
    obtain ⟨h1, e1, r1, c1⟩ := cur_fix c' r
    exact k h1 a m h' e1 r1 c1
/-- '[]Node{}' -/
theorem cur_own0 {t : Nat} {s : SlT} (hs : slT P t = some s) (hz : s.z = 4) (c : CurM h0 h l p bag)
    (k : ∀ (v : Value) (h' : Hp), CurM h0 h' l p ((.row 4 ([].map .raw), v) :: bag) → K v h') : HSem P (bsI t 0 #[]) h K := by
  obtain ⟨y, m, back⟩ := c.top
  refine hsem_my_lit0 hs m fun v h' m' => ?_
  rw [hz] at m'
  exact k v h' (back h' [_] m')
theorem CurM.nilkids {a : Option Addr} (c : CurM h0 h l p bag) : CurM h0 h l p ((.row 4 (([] : List Value).map .raw), .slice a 0 0) :: bag) := c.upd fun d m => (m.nilrow (z := 4)).swap
theorem rdn_nil (h : Hp) {a : Option Addr} : RdN h [] (.slice a 0 0) := ((My.nil (Ext.refl h)).nilrow (z := 4)).rd
/-- nodes are appended to a slice of the walk's own -/
theorem cur_nadd {t ty : Nat} {s : SlT} (hs : slT P t = some s) (hz : s.z = 4) (hzl : s.zero.length = 4) (hby : s.by_ ≤ 1000) {us : List Value} {es xs : List Nd} {v w : Value} (c : CurM h0 h l p ((.row 4 (us.map .raw), v) :: bag)) (hr : RdL h0 (es.flatMap Nd.dt) us) (rx : RdN h0 xs w)
    (hlen : es.length ≤ 2000000) (hlen2 : xs.length ≤ 2000000)
    (k : ∀ (us' : List Value) (a : Option Addr) (m : Nat) (h' : Hp), RdL h0 ((es ++ xs).flatMap Nd.dt) us' → CurM h0 h' l p ((.row 4 (us'.map .raw), .slice a (es ++ xs).length m) :: bag) → K (.slice a (es ++ xs).length m) h') : HSem P (apI #[t, t] ty #[v, w]) h K := by
  obtain ⟨y, m, back⟩ := c.fst
  have e := m.ext
  simp only [Rd] at rx
  obtain ⟨ws, q1, q2⟩ := rx
  have q3 : RdS h s.z w ws := by rw [hz]; exact q1.mono e
  have lu : us.length = es.length * 4 := by rw [hr.len, fm_len Nd.dt_len]
  have lw : ws.length = xs.length * 4 := by rw [q2.len, fm_len Nd.dt_len]
  rw [← hz] at m
  have hb : (es.length + xs.length) * s.by_ ≤ 4000000 * 1000 := Nat.mul_le_mul (by omega) hby
  refine hsem_my_appendR hs (by omega) (by rw [hzl, hz]) es.length xs.length m q3 (by rw [List.length_map, lu, hz]) (by rw [lw, hz]) (by omega) (by omega) fun v' h' m' => ?_
  rw [hz, ← List.map_append] at m'
  have rr : RdL h0 ((es ++ xs).flatMap Nd.dt) (us ++ ws) := by
    rw [List.flatMap_append]
    exact hr.append q2
  obtain ⟨a, c, rfl, _⟩ := m'.row_shape (by decide) (es ++ xs).length (by rw [List.length_map, rr.len, fm_len Nd.dt_len])
  exact k _ a c h' rr (back h' [_] m')
/-- A draw of a node. -/
def NodP (B : Nat) (h0 : Hp) (l : List UInt8) (p : Nat) (bag : Bag) (u : Value) (h' : Hp) : Prop := ∃ (h1 : Hp) (v : Nd) (a : Option Addr) (c : Nat), u = .agg #[.int .i64 v.kind, .int .i64 v.num, .string v.text, .slice a v.kids.length c] ∧ Ext h0 h1 ∧ v.bulk ≤ B ∧ RdN h1 v.kids (.slice a v.kids.length c) ∧ CurM h1 h' l p bag
theorem NodP.up {B C : Nat} (hBC : B ≤ C) {u : Value} {h' : Hp} (k : NodP B h0 l p bag u h') : NodP C h0 l p bag u h' := by
  obtain ⟨h1, v, a, c, e, e1, hb, q⟩ := k
  exact ⟨h1, v, a, c, e, e1, Nat.le_trans hb hBC, q⟩
theorem NodP.base {B : Nat} {hb : Hp} (e : Ext hb h0) {u : Value} {h' : Hp} (k : NodP B h0 l p bag u h') : NodP B hb l p bag u h' := by
  obtain ⟨h1, v, a, c, eq, e1, q⟩ := k
  exact ⟨h1, v, a, c, eq, e.trans e1, q⟩
/-- .. that has no kids, or those that are there -/
theorem NodP.mk {B : Nat} {h' : Hp} {kids : List Nd} {a : Option Addr} {n c : Nat} (k m : Int) (s : ByteArray) (hr : RdN h0 kids (.slice a n c)) (hn : kids.length = n) (hB : s.size + Nd.bulks kids ≤ B) (cm : CurM h0 h' l p bag) : NodP B h0 l p bag (.agg #[.int .i64 k, .int .i64 m, .string s, .slice a n c]) h' := by
  subst hn
  exact ⟨h0, .mk k m s kids, a, c, rfl, Ext.refl _, by rw [Nd.bulk_eq]; exact hB, hr, cm⟩
theorem NodP.leaf {B : Nat} {h' : Hp} (k m : Int) (s : ByteArray) (hB : s.size ≤ B) (cm : CurM h0 h' l p bag) : NodP B h0 l p bag (.agg #[.int .i64 k, .int .i64 m, .string s, .slice none 0 0]) h' :=
  NodP.mk (kids := []) k m s (rdn_nil _) rfl (by simp only [Nd.bulks]; omega) cm
theorem Nd.bulks_cons (v : Nd) (r : List Nd) : Nd.bulks (v :: r) = 1 + v.bulk + Nd.bulks r := by simp only [Nd.bulks]
theorem Nd.bulks_nil : Nd.bulks [] = 0 := by simp only [Nd.bulks]
theorem Nd.bulks_app : ∀ a b : List Nd, Nd.bulks (a ++ b) = Nd.bulks a + Nd.bulks b
  | [], b => by simp only [List.nil_append, Nd.bulks, Nat.zero_add]
  | v :: r, b => by
    simp only [List.cons_append, Nd.bulks, Nd.bulks_app r b]
    omega
theorem Nd.bulk_mk (k m : Int) (s : ByteArray) (r : List Nd) : (Nd.mk k m s r).bulk = s.size + Nd.bulks r := by simp only [Nd.bulk]
/-- the load of a node of a slice -/
theorem rdn_get {t b off i j : Nat} {es : List Nd} {e : Nd} {xs : List Value} (ht : tyS P t = some (true, 4)) (hat : At h ⟨b, off, none⟩ xs) (hr : RdL h0 (es.flatMap Nd.dt) xs) (hi : es[i]? = some e) (hj : j = off + i * 4)
    (k : ∀ sl, RdN h0 e.kids sl → K (.agg #[.int .i64 e.kind, .int .i64 e.num, .string e.text, sl]) h) : HPure P (ldI t (.pointer (some ⟨b, j, none⟩))) h K := by
  have r1 := (hr.drop (i * 4)).take 4
  have e1 : ((es.flatMap Nd.dt).drop (i * 4)).take 4 = e.dt := by
    have := fm_take Nd.dt_len hi 0 4 (Nat.le_refl _)
    rw [Nat.add_zero, List.drop_zero] at this
    rw [this, List.take_of_length_le (by rw [Nd.dt_len]; exact Nat.le_refl _)]
  rw [e1] at r1
  obtain ⟨sl, h1, h2⟩ := RdL_node r1
  refine hsem_atN ht hat (us := [.int .i64 e.kind, .int .i64 e.num, .string e.text, sl]) rfl h1 hj ?_
  exact k sl h2
/-- .. of one that the walk owns -/
theorem cur_nget {t b n cap i j : Nat} {us : List Value} {es : List Nd} {e : Nd} (ht : tyS P t = some (true, 4)) (c : CurM h0 h l p ((.row 4 (us.map .raw), .slice (some ⟨b, 0, none⟩) n cap) :: bag)) (hn : 0 < n) (hr : RdL h0 (es.flatMap Nd.dt) us) (hi : es[i]? = some e) (hj : j = i * 4)
    (k : ∀ sl, RdN h0 e.kids sl → K (.agg #[.int .i64 e.kind, .int .i64 e.num, .string e.text, sl]) h) : HPure P (ldI t (.pointer (some ⟨b, j, none⟩))) h K := by
  obtain ⟨xs, q1, q2⟩ := c.my.at_
  obtain rfl := RdL.of_raws q1
  exact rdn_get ht (q2 hn) hr hi (by omega) k
/-- the store of a node in a slice that the walk owns -/
theorem cur_nset {t b n cap i j : Nat} {us : List Value} {es : List Nd} {x : Nd} {sl : Value} (ht : tyS P t = some (true, 4)) (c : CurM h0 h l p ((.row 4 (us.map .raw), .slice (some ⟨b, 0, none⟩) n cap) :: bag)) (hn : 0 < n) (hr : RdL h0 (es.flatMap Nd.dt) us) (hi : i < es.length) (hx : RdN h0 x.kids sl) (hj : j = i * 4)
    (k : ∀ (us' : List Value) (h' : Hp), RdL h0 ((es.set i x).flatMap Nd.dt) us' → CurM h0 h' l p ((.row 4 (us'.map .raw), .slice (some ⟨b, 0, none⟩) n cap) :: bag) → K undef h') : HSem P (stI t (.pointer (some ⟨b, j, none⟩)) (.agg #[.int .i64 x.kind, .int .i64 x.num, .string x.text, sl])) h K := by
  obtain ⟨e, he, _⟩ := get_lt hi
  obtain ⟨q1, q2⟩ := fm_split Nd.dt_len he
  rw [q1] at hr
  obtain ⟨xa, xr, rfl, r1, r2⟩ := hr.split
  obtain ⟨xo, xq, rfl, r3, r4⟩ := r2.split
  have la := r1.len
  have lo := r3.len
  rw [Nd.dt_len] at lo
  rw [q2] at la
  obtain ⟨y, m, back⟩ := c.fst
  have rx := RdL_node_mk hx
  have m2 := raws_zip rx.one m
  rw [List.map_append, List.map_append] at m2
  refine hsem_my_put (z := 4) (es := ([.int .i64 x.kind, .int .i64 x.num, .string x.text, sl] : List Value).map .raw) (p := xa.map .raw) (o := xo.map .raw) (q := xq.map .raw) ht m2 hn (by rw [List.length_map, lo]) rfl rfl (by rw [List.length_map, la, hj]) fun h' m' => ?_
  rw [← List.map_append, ← List.map_append] at m'
  refine k _ h' ?_ (back h' [_] m')
  rw [set_split _ hi, List.flatMap_append, List.flatMap_cons]
  exact r1.append (rx.append r4)
theorem bsz (a : Array UInt8) : (ByteArray.mk a).size = a.size := rfl
theorem all1 {α : Type} {Q : α → Prop} {a : α} (ha : Q a) : ∀ x ∈ [a], Q x := fun x hx => by
  obtain rfl := List.mem_singleton.1 hx
  exact ha
theorem allc {α : Type} {Q : α → Prop} {a : α} {r : List α} (ha : Q a) (hr : ∀ x ∈ r, Q x) : ∀ x ∈ a :: r, Q x := fun x hx => by
  rcases List.mem_cons.1 hx with rfl | hx
  · exact ha
  · exact hr x hx
/-- a copy: its kids' slice is the walk's own -/
def CopyP (v : Nd) (h0 : Hp) (l : List UInt8) (p : Nat) (bag : Bag) (u : Value) (h' : Hp) : Prop := ∃ (h1 : Hp) (us : List Value) (a : Option Addr) (c : Nat), u = .agg #[.int .i64 v.kind, .int .i64 v.num, .string v.text, .slice a v.kids.length c] ∧ Ext h0 h1 ∧ RdL h1 (v.kids.flatMap Nd.dt) us ∧ CurM h1 h' l p ((.row 4 (us.map .raw), .slice a v.kids.length c) :: bag)
theorem set_bulks {es : List Nd} {i : Nat} {e x : Nd} (he : es[i]? = some e) : Nd.bulks (es.set i x) + e.bulk = Nd.bulks es + x.bulk := by
  have h1 := at_split he
  have h2 : Nd.bulks es = Nd.bulks (es.take i) + Nd.bulks (e :: es.drop (i + 1)) := by rw [← Nd.bulks_app, ← h1]
  rw [set_split x (List.getElem?_eq_some_iff.1 he).1, Nd.bulks_app, h2]
  simp only [Nd.bulks]
  omega
end Go.Sx
