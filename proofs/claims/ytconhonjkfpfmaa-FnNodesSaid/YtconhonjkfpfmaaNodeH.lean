/-
  The draws of syntax trees: each returns some node, of a bulk that is bounded; what it makes is laid aside.
-/
import Derived.Test.YtconhonjkfpfmaaNodeG
namespace Go.Proofs.Ytconhonjkfpfmaa
set_option maxRecDepth 8000
open Go Go.Sx
section
variable {h0 h : Hp} {bag : Bag} {l : List UInt8} {p : Nat}
set_option maxHeartbeats 40000000 in
theorem l15Script_c (hl : l.length ≤ 1048576) (m : CurM h0 h l p bag) : ACalls Try.prog 17 #[pv p] h (NodP 199000 h0 l p bag) := by
  have hF : fB = 19050 := rfl
  have hS : sB 2 = 6342 := rfl
  (refine enter Try.func17 rfl rfl (by kernel_rfl) [] ?_; simp only [go_sem])
  refine (l15N_c _ _ _ _ _ _).mono ?_
  rintro _ _ ⟨rfl, rfl⟩
  try simp only [go_sem, Nat.reduceBEq, Nat.reduceAdd, Nat.reduceLeDiff]
  refine (l1Once_c hl (m.nilkids (a := none)) 2 (by decide) (by decide)).mono ?_
  rintro _ h198 ⟨y198, rfl, m198⟩
  try simp only [go_sem, Nat.reduceBEq]
  cases y198 with
  | false =>
    try simp only [go_sem, Nat.reduceBEq]
    refine (l1Once_c hl m198 3 (by decide) (by decide)).mono ?_
    rintro _ h199 ⟨y199, rfl, m199⟩
    try simp only [go_sem, Nat.reduceBEq]
    cases y199 with
    | false =>
      try simp only [go_sem, Nat.reduceBEq]
      refine (l1Once_c hl m199 3 (by decide) (by decide)).mono ?_
      rintro _ h200 ⟨y200, rfl, m200⟩
      try simp only [go_sem, Nat.reduceBEq]
      cases y200 with
      | false =>
        try simp only [go_sem, Nat.reduceBEq]
        refine (l1Below_c hl m200 5 (by decide) (by decide)).mono ?_
        rintro _ h201 ⟨n201, rfl, p201, q201, m201⟩
        try simp only [go_sem, Nat.reduceBEq]
        obtain ⟨i, rfl⟩ : ∃ i : Nat, n201 = i := ⟨n201.toNat, by omega⟩
        have w1 : IntKind.i64.wrap (1 + (i : Int)) = ((i + 1 : Nat) : Int) := by rw [IntWalk.i64_in _ (by omega)]; omega
        simp only [w1, go_sem]
        refine aloop (ι := Hp × Nat × List Nd × List Value × Option Addr × Nat) (fun x => [(7, .val (.int .i64 (x.2.1 : Nat))), (3, .box 3 0), (2, .box 2 0), (0, .val (pv p))])
          (fun x => [(3, [.int .i64 56, .int .i64 0, .string ⟨#[]⟩, .slice x.2.2.2.2.1 x.2.2.1.length x.2.2.2.2.2]), (2, [.int .i64 0, .int .i64 0, .string ⟨#[]⟩, .slice none 0 0])])
          (fun x h' => x.2.2.1.length + x.2.1 ≤ 20 ∧ Ext h0 x.1 ∧ Nd.bulks x.2.2.1 + x.2.1 * 6343 ≤ 199000 ∧ RdL x.1 (x.2.2.1.flatMap Nd.dt) x.2.2.2.1 ∧ CurM x.1 h' l p ((.row 4 (x.2.2.2.1.map .raw), .slice x.2.2.2.2.1 x.2.2.1.length x.2.2.2.2.2) :: bag))
          (fun x => x.2.1) (h0, i + 1, ([] : List Nd), [], none, 0) ⟨(by show List.length ([] : List Nd) + (i + 1) ≤ 20; simp only [List.length_nil]; omega), (Ext.refl _), (by show Nd.bulks ([] : List Nd) + (i + 1) * 6343 ≤ 199000; simp only [Nd.bulks_nil]; omega), (by simp only [List.flatMap_nil, RdL_nil]), m201⟩ (by repeat (first | exact wkF_e | refine wkF_c rfl ?_)) (wkB_c rfl (wkB_c rfl wkB_e)) rfl ?_
        rintro ⟨H, k, es, us, a, c⟩ h3 ⟨hk, e0, hb, hr, m3⟩
        have hk : es.length + k ≤ 20 := hk
        have e0 : Ext h0 H := e0
        have hb : Nd.bulks es + k * 6343 ≤ 199000 := hb
        have hr : RdL H (es.flatMap Nd.dt) us := hr
        have m3 : CurM H h3 l p ((.row 4 (us.map .raw), .slice a es.length c) :: bag) := m3
        try simp only [go_sem, Nat.reduceBEq]
        cases k with
        | zero =>
          simp only [show decide ((0 : Int) < ((0 : Nat) : Int)) = false from rfl, go_sem, Nat.reduceBEq, Nat.reduceAdd, Nat.reduceLeDiff]
          obtain ⟨H4, e4, r4, m4⟩ := cur_fix m3 hr
          exact NodP.base (e0.trans e4) (NodP.mk 56 0 ⟨#[]⟩ r4 rfl (by rw [show (ByteArray.mk #[]).size = 0 from rfl, Nat.zero_add]; exact Nat.le_trans (Nat.le_add_right _ _) hb) m4)
        | succ k =>
        have w2 : IntKind.i64.wrap (((k + 1 : Nat) : Int) - 1) = (k : Nat) := by rw [IntWalk.i64_in _ (by omega)]; omega
        simp only [show decide ((0 : Int) < ((k + 1 : Nat) : Int)) = true from decide_eq_true (by omega), go_sem]
        refine regionD_intro (lb := [104]) (by kernel_rfl) ?_
        try simp only [go_sem, Nat.reduceBEq]
        refine (l15Step_c hl 2 (by decide) 2 (by decide) (by decide) false false m3).mono ?_
        rintro _ h4 ⟨H4, x, a4, c4, rfl, e4, b4, r4, m4⟩
        try simp only [go_sem, Nat.reduceBEq]
        refine cur_nodes [(x, .slice a4 x.kids.length c4)] [x] rfl slT24 rfl rfl rfl (by decide) (by decide) (all1 r4) m4 fun H5 a5 c5 h5 e5 r5 m5 => ?_
        try simp only [go_sem, Nat.reduceBEq]
        refine cur_nadd (es := es) slT24 rfl rfl (by decide) m5 (hr.mono (e4.trans e5)) r5 (by omega) (Nat.le_of_ble_eq_true rfl) fun us6 a6 c6 h6 hr6 m6 => ?_
        simp only [w2, go_sem, Nat.reduceBEq, Nat.reduceAdd, Nat.reduceLeDiff]
        exact Again.intro (H5, k, es ++ [x], us6, a6, c6) (by first | omega | (simp only; omega)) ⟨(by show (es ++ [x]).length + k ≤ 20; rw [List.length_append, List.length_cons, List.length_nil]; omega), e0.trans (e4.trans e5), (by show Nd.bulks (es ++ [x]) + k * 6343 ≤ _; rw [Nd.bulks_app, Nd.bulks_cons, Nd.bulks_nil]; omega), hr6, m6⟩ (by repeat (first | exact wkF_e | refine wkF_c rfl ?_)) (wkB_c rfl (wkB_c rfl wkB_e)) rfl
      | true =>
        try simp only [go_sem]
        refine regionD_intro (lb := [30]) (by kernel_rfl) ?_
        try simp only [go_sem, Nat.reduceBEq]
        refine cur_strs [⟨#[109]⟩, ⟨#[116]⟩, ⟨#[95, 95, 103, 101, 116]⟩, ⟨#[95, 95, 99, 97, 108, 108]⟩] slT47 rfl rfl rfl (by decide) (by decide) m200 fun v203 h203 m203 => ?_
        try simp only [go_sem, Nat.reduceBEq]
        refine (l1Str_c hl m203 (by decide) (by decide)).mono ?_
        rintro _ g203 ⟨s203, t203, rfl, m203⟩
        have z203 := (by decide : ∀ s ∈ ([⟨#[109]⟩, ⟨#[116]⟩, ⟨#[95, 95, 103, 101, 116]⟩, ⟨#[95, 95, 99, 97, 108, 108]⟩] : List ByteArray), s.size ≤ 6) s203 t203
        clear t203
        have m203 := m203.drop
        try simp only [go_sem, Nat.reduceBEq]
        refine (l15Func_c hl 55 0 s203 (by omega) false m203).mono ?_
        rintro _ h204 ⟨H204, x204, a204, c204, rfl, e204, b204, r204, m204⟩
        try simp only [go_sem, Nat.reduceBEq]
        refine cur_nodes [(x204, .slice a204 x204.kids.length c204)] [x204] rfl slT24 rfl rfl rfl (by decide) (by decide) (all1 r204) m204 fun H205 a205 c205 h205 e205 r205 m205 => ?_
        try simp only [go_sem, Nat.reduceBEq]
        refine (l15N_c _ _ _ _ _ _).mono ?_
        rintro _ _ ⟨rfl, rfl⟩
        try simp only [go_sem, Nat.reduceBEq]
        refine cur_nodes [((Nd.mk 51 0 ⟨#[84]⟩ [x204]), .slice a205 1 c205)] [(Nd.mk 51 0 ⟨#[84]⟩ [x204])] rfl slT24 rfl rfl rfl (by decide) (by decide) (all1 r205) m205 fun H206 a206 c206 h206 e206 r206 m206 => ?_
        try simp only [go_sem, Nat.reduceBEq]
        refine cur_nadd (es := []) slT24 rfl rfl (by decide) m206 ((((RdL_nil.2 rfl).mono e204).mono e205).mono e206) r206 (Nat.le_of_ble_eq_true rfl) (Nat.le_of_ble_eq_true rfl) fun u207 a207 c207 h207 r207 m207 => ?_
        try simp only [go_sem, Nat.reduceBEq, Nat.reduceAdd, Nat.reduceLeDiff]
        refine regionT_intro (lb := [45]) (.two [1, 3] 0 (.two [] 2 (.one [4, 5, 6, 7]) 4 (.one [2, 5, 6, 7])) 4 (.one [0, 2, 5, 6, 7])) (by kernel_rfl) ?_
        simp only [runPlan_two, runPlan_one, plk_c, plk_n, plk_s, List.getElem?_toArray, List.getElem?_cons_succ, List.getElem?_cons_zero, go_sem, Nat.reduceBEq, Nat.reduceAdd, Nat.reduceLeDiff]
        refine bothK_mk ?_ ?_
        · try simp only [go_sem]
          refine (l15N_c _ _ _ _ _ _).mono ?_
          rintro _ _ ⟨rfl, rfl⟩
          try simp only [go_sem]
          refine bothK_mk ?_ ?_
          · try simp only [go_sem, Nat.reduceBEq]
            refine (l1Below_c hl m207 2 (by decide) (by decide)).mono ?_
            rintro _ h210 ⟨n210, rfl, p210, q210, m210⟩
            try simp only [go_sem, Nat.reduceBEq]
            refine cur_nodes [((Nd.mk 1 2 ⟨#[]⟩ []), .slice none 0 0)] [(Nd.mk 1 2 ⟨#[]⟩ [])] rfl slT24 rfl rfl rfl (by decide) (by decide) (all1 (rdn_nil _)) m210 fun H211 a211 c211 h211 e211 r211 m211 => ?_
            try simp only [go_sem, Nat.reduceBEq, Nat.reduceAdd, Nat.reduceLeDiff]
            refine cur_own [((Nd.mk 53 0 ⟨#[84]⟩ []), .slice none 0 0), ((Nd.mk 54 n210 ⟨#[112]⟩ [(Nd.mk 1 2 ⟨#[]⟩ [])]), .slice a211 1 c211)] [(Nd.mk 53 0 ⟨#[84]⟩ []), (Nd.mk 54 n210 ⟨#[112]⟩ [(Nd.mk 1 2 ⟨#[]⟩ [])])] rfl slT24 rfl rfl rfl (by decide) (by decide) (allc ((rdn_nil _).mono e211) (all1 r211)) m211 fun u212 a212 c212 h212 r212 m212 => ?_
            try simp only [go_sem, Nat.reduceBEq]
            refine cur_strs [⟨#[109]⟩, ⟨#[95, 95, 99, 111, 110, 115, 116, 114, 117, 99, 116]⟩, ⟨#[95, 95, 100, 101, 115, 116, 114, 117, 99, 116]⟩] slT47 rfl rfl rfl (by decide) (by decide) m212 fun v213 h213 m213 => ?_
            try simp only [go_sem, Nat.reduceBEq]
            refine (l1Str_c hl m213 (by decide) (by decide)).mono ?_
            rintro _ g213 ⟨s213, t213, rfl, m213⟩
            have z213 := (by decide : ∀ s ∈ ([⟨#[109]⟩, ⟨#[95, 95, 99, 111, 110, 115, 116, 114, 117, 99, 116]⟩, ⟨#[95, 95, 100, 101, 115, 116, 114, 117, 99, 116]⟩] : List ByteArray), s.size ≤ 11) s213 t213
            clear t213
            have m213 := m213.drop
            try simp only [go_sem, Nat.reduceBEq]
            refine (l1Below_c hl m213 2 (by decide) (by decide)).mono ?_
            rintro _ h214 ⟨n214, rfl, p214, q214, m214⟩
            try simp only [go_sem, Nat.reduceBEq]
            refine (l15Func_c hl 55 n214 s213 (by omega) false m214).mono ?_
            rintro _ h215 ⟨H215, x215, a215, c215, rfl, e215, b215, r215, m215⟩
            try simp only [go_sem, Nat.reduceBEq]
            refine cur_nodes [(x215, .slice a215 x215.kids.length c215)] [x215] rfl slT24 rfl rfl rfl (by decide) (by decide) (all1 r215) m215 fun H216 a216 c216 h216 e216 r216 m216 => ?_
            try simp only [go_sem, Nat.reduceBEq]
            refine cur_nadd (es := [(Nd.mk 53 0 ⟨#[84]⟩ []), (Nd.mk 54 n210 ⟨#[112]⟩ [(Nd.mk 1 2 ⟨#[]⟩ [])])]) slT24 rfl rfl (by decide) m216 ((r212.mono e215).mono e216) r216 (Nat.le_of_ble_eq_true rfl) (Nat.le_of_ble_eq_true rfl) fun u217 a217 c217 h217 r217 m217 => ?_
            try simp only [go_sem, Nat.reduceBEq, Nat.reduceAdd]
            refine (l15Func_c hl 55 2 ⟨#[115]⟩ (by decide) false m217).mono ?_
            rintro _ h218 ⟨H218, x218, a218, c218, rfl, e218, b218, r218, m218⟩
            try simp only [go_sem, Nat.reduceBEq]
            refine cur_nodes [(x218, .slice a218 x218.kids.length c218)] [x218] rfl slT24 rfl rfl rfl (by decide) (by decide) (all1 r218) m218 fun H219 a219 c219 h219 e219 r219 m219 => ?_
            try simp only [go_sem, Nat.reduceBEq]
            refine cur_nadd (es := ([(Nd.mk 53 0 ⟨#[84]⟩ []), (Nd.mk 54 n210 ⟨#[112]⟩ [(Nd.mk 1 2 ⟨#[]⟩ [])])] ++ [x215])) slT24 rfl rfl (by decide) m219 ((r217.mono e218).mono e219) r219 (Nat.le_of_ble_eq_true rfl) (Nat.le_of_ble_eq_true rfl) fun u220 a220 c220 h220 r220 m220 => ?_
            try simp only [go_sem, Nat.reduceBEq, Nat.reduceAdd]
            refine regionD_intro (lb := [65]) (by kernel_rfl) ?_
            try simp only [go_sem, Nat.reduceBEq]
            obtain ⟨H221, e221, r221, m221⟩ := cur_fix m220 r220
            refine (l15N_c _ _ _ _ _ _).mono ?_
            rintro _ _ ⟨rfl, rfl⟩
            try simp only [go_sem, Nat.reduceBEq]
            refine cur_nodes [((Nd.mk 50 0 ⟨#[65]⟩ (([(Nd.mk 53 0 ⟨#[84]⟩ []), (Nd.mk 54 n210 ⟨#[112]⟩ [(Nd.mk 1 2 ⟨#[]⟩ [])])] ++ [x215]) ++ [x218])), .slice a220 (([(Nd.mk 53 0 ⟨#[84]⟩ []), (Nd.mk 54 n210 ⟨#[112]⟩ [(Nd.mk 1 2 ⟨#[]⟩ [])])] ++ [x215]) ++ [x218]).length c220)] [(Nd.mk 50 0 ⟨#[65]⟩ (([(Nd.mk 53 0 ⟨#[84]⟩ []), (Nd.mk 54 n210 ⟨#[112]⟩ [(Nd.mk 1 2 ⟨#[]⟩ [])])] ++ [x215]) ++ [x218]))] rfl slT24 rfl rfl rfl (by decide) (by decide) (all1 r221) m221 fun H222 a222 c222 h222 e222 r222 m222 => ?_
            try simp only [go_sem, Nat.reduceBEq]
            refine cur_nadd (es := ([] ++ [(Nd.mk 51 0 ⟨#[84]⟩ [x204])])) slT24 rfl rfl (by decide) m222 (((((((r207.mono e211).mono e215).mono e216).mono e218).mono e219).mono e221).mono e222) r222 (Nat.le_of_ble_eq_true rfl) (Nat.le_of_ble_eq_true rfl) fun u223 a223 c223 h223 r223 m223 => ?_
            try simp only [go_sem, Nat.reduceBEq, Nat.reduceAdd, Nat.reduceLeDiff]
            refine regionD_intro (lb := [72]) (by kernel_rfl) ?_
            try simp only [go_sem, Nat.reduceBEq]
            refine (l15N_c _ _ _ _ _ _).mono ?_
            rintro _ _ ⟨rfl, rfl⟩
            try simp only [go_sem, Nat.reduceBEq]
            refine (l15Func_c hl 55 0 ⟨#[109]⟩ (by decide) false m223).mono ?_
            rintro _ h225 ⟨H225, x225, a225, c225, rfl, e225, b225, r225, m225⟩
            try simp only [go_sem, Nat.reduceBEq]
            refine cur_nodes [((Nd.mk 52 0 ⟨#[65]⟩ []), .slice none 0 0), (x225, .slice a225 x225.kids.length c225)] [(Nd.mk 52 0 ⟨#[65]⟩ []), x225] rfl slT24 rfl rfl rfl (by decide) (by decide) (allc ((rdn_nil _).mono e225) (all1 r225)) m225 fun H226 a226 c226 h226 e226 r226 m226 => ?_
            try simp only [go_sem, Nat.reduceBEq]
            refine (l15N_c _ _ _ _ _ _).mono ?_
            rintro _ _ ⟨rfl, rfl⟩
            try simp only [go_sem, Nat.reduceBEq]
            refine cur_nodes [((Nd.mk 50 0 ⟨#[66]⟩ [(Nd.mk 52 0 ⟨#[65]⟩ []), x225]), .slice a226 2 c226)] [(Nd.mk 50 0 ⟨#[66]⟩ [(Nd.mk 52 0 ⟨#[65]⟩ []), x225])] rfl slT24 rfl rfl rfl (by decide) (by decide) (all1 r226) m226 fun H227 a227 c227 h227 e227 r227 m227 => ?_
            try simp only [go_sem, Nat.reduceBEq]
            refine cur_nadd (es := (([] ++ [(Nd.mk 51 0 ⟨#[84]⟩ [x204])]) ++ [(Nd.mk 50 0 ⟨#[65]⟩ (([(Nd.mk 53 0 ⟨#[84]⟩ []), (Nd.mk 54 n210 ⟨#[112]⟩ [(Nd.mk 1 2 ⟨#[]⟩ [])])] ++ [x215]) ++ [x218]))])) slT24 rfl rfl (by decide) m227 (((r223.mono e225).mono e226).mono e227) r227 (Nat.le_of_ble_eq_true rfl) (Nat.le_of_ble_eq_true rfl) fun u228 a228 c228 h228 r228 m228 => ?_
            try simp only [go_sem, Nat.reduceBEq, Nat.reduceAdd, Nat.reduceLeDiff]
            refine (l15N_c _ _ _ _ _ _).mono ?_
            rintro _ _ ⟨rfl, rfl⟩
            try simp only [go_sem, Nat.reduceBEq, Nat.reduceAdd, Nat.reduceLeDiff]
            refine regionD_intro (lb := [83, 84]) (by kernel_rfl) ?_
            try simp only [go_sem, Nat.reduceBEq, Nat.reduceAdd, Nat.reduceLeDiff]
            refine cur_strs [⟨#[65]⟩, ⟨#[66]⟩] slT47 rfl rfl rfl (by decide) (by decide) m228 fun v230 h230 m230 => ?_
            try simp only [go_sem, Nat.reduceBEq]
            refine (l1Str_c hl m230 (by decide) (by decide)).mono ?_
            rintro _ g230 ⟨s230, t230, rfl, m230⟩
            have z230 := (by decide : ∀ s ∈ ([⟨#[65]⟩, ⟨#[66]⟩] : List ByteArray), s.size ≤ 1) s230 t230
            clear t230
            have m230 := m230.drop
            try simp only [go_sem, Nat.reduceBEq]
            refine (l15N_c _ _ _ _ _ _).mono ?_
            rintro _ _ ⟨rfl, rfl⟩
            try simp only [go_sem, Nat.reduceBEq]
            refine cur_nodes [((Nd.mk 4 0 ⟨#[111]⟩ []), .slice none 0 0), ((Nd.mk 22 0 s230 []), .slice none 0 0)] [(Nd.mk 4 0 ⟨#[111]⟩ []), (Nd.mk 22 0 s230 [])] rfl slT24 rfl rfl rfl (by decide) (by decide) (allc (rdn_nil _) (all1 (rdn_nil _))) m230 fun H232 a232 c232 h232 e232 r232 m232 => ?_
            try simp only [go_sem, Nat.reduceBEq]
            refine (l15N_c _ _ _ _ _ _).mono ?_
            rintro _ _ ⟨rfl, rfl⟩
            try simp only [go_sem, Nat.reduceBEq]
            refine cur_nodes [((Nd.mk 15 0 ⟨#[]⟩ [(Nd.mk 4 0 ⟨#[111]⟩ []), (Nd.mk 22 0 s230 [])]), .slice a232 2 c232)] [(Nd.mk 15 0 ⟨#[]⟩ [(Nd.mk 4 0 ⟨#[111]⟩ []), (Nd.mk 22 0 s230 [])])] rfl slT24 rfl rfl rfl (by decide) (by decide) (all1 r232) m232 fun H233 a233 c233 h233 e233 r233 m233 => ?_
            try simp only [go_sem, Nat.reduceBEq]
            refine (l15N_c _ _ _ _ _ _).mono ?_
            rintro _ _ ⟨rfl, rfl⟩
            try simp only [go_sem, Nat.reduceBEq]
            refine cur_nodes [((Nd.mk 33 0 ⟨#[]⟩ [(Nd.mk 15 0 ⟨#[]⟩ [(Nd.mk 4 0 ⟨#[111]⟩ []), (Nd.mk 22 0 s230 [])])]), .slice a233 1 c233)] [(Nd.mk 33 0 ⟨#[]⟩ [(Nd.mk 15 0 ⟨#[]⟩ [(Nd.mk 4 0 ⟨#[111]⟩ []), (Nd.mk 22 0 s230 [])])])] rfl slT24 rfl rfl rfl (by decide) (by decide) (all1 r233) m233 fun H234 a234 c234 h234 e234 r234 m234 => ?_
            try simp only [go_sem, Nat.reduceBEq]
            refine cur_nadd (es := ((([] ++ [(Nd.mk 51 0 ⟨#[84]⟩ [x204])]) ++ [(Nd.mk 50 0 ⟨#[65]⟩ (([(Nd.mk 53 0 ⟨#[84]⟩ []), (Nd.mk 54 n210 ⟨#[112]⟩ [(Nd.mk 1 2 ⟨#[]⟩ [])])] ++ [x215]) ++ [x218]))]) ++ [(Nd.mk 50 0 ⟨#[66]⟩ [(Nd.mk 52 0 ⟨#[65]⟩ []), x225])])) slT24 rfl rfl (by decide) m234 (((r228.mono e232).mono e233).mono e234) r234 (Nat.le_of_ble_eq_true rfl) (Nat.le_of_ble_eq_true rfl) fun u235 a235 c235 h235 r235 m235 => ?_
            try simp only [go_sem, Nat.reduceBEq, Nat.reduceAdd, Nat.reduceLeDiff]
            refine (l1Below_c hl m235 5 (by decide) (by decide)).mono ?_
            rintro _ h236 ⟨n236, rfl, p236, q236, m236⟩
            try simp only [go_sem, Nat.reduceBEq]
            obtain ⟨i, rfl⟩ : ∃ i : Nat, n236 = i := ⟨n236.toNat, by omega⟩
            have w1 : IntKind.i64.wrap (1 + (i : Int)) = ((i + 1 : Nat) : Int) := by rw [IntWalk.i64_in _ (by omega)]; omega
            simp only [w1, go_sem]
            refine aloop (ι := Hp × Nat × List Nd × List Value × Option Addr × Nat) (fun x => [(7, .val (.int .i64 (x.2.1 : Nat))), (3, .box 3 0), (2, .box 2 0), (0, .val (pv p))])
              (fun x => [(3, [.int .i64 56, .int .i64 0, .string ⟨#[]⟩, .slice x.2.2.2.2.1 x.2.2.1.length x.2.2.2.2.2]), (2, [.int .i64 0, .int .i64 0, .string ⟨#[]⟩, .slice none 0 0])])
              (fun x h' => x.2.2.1.length + x.2.1 ≤ 20 ∧ Ext h0 x.1 ∧ Nd.bulks x.2.2.1 + x.2.1 * 6343 ≤ 199000 ∧ RdL x.1 (x.2.2.1.flatMap Nd.dt) x.2.2.2.1 ∧ CurM x.1 h' l p ((.row 4 (x.2.2.2.1.map .raw), .slice x.2.2.2.2.1 x.2.2.1.length x.2.2.2.2.2) :: bag))
              (fun x => x.2.1) (H234, i + 1, (((([] ++ [(Nd.mk 51 0 ⟨#[84]⟩ [x204])]) ++ [(Nd.mk 50 0 ⟨#[65]⟩ (([(Nd.mk 53 0 ⟨#[84]⟩ []), (Nd.mk 54 n210 ⟨#[112]⟩ [(Nd.mk 1 2 ⟨#[]⟩ [])])] ++ [x215]) ++ [x218]))]) ++ [(Nd.mk 50 0 ⟨#[66]⟩ [(Nd.mk 52 0 ⟨#[65]⟩ []), x225])]) ++ [(Nd.mk 33 0 ⟨#[]⟩ [(Nd.mk 15 0 ⟨#[]⟩ [(Nd.mk 4 0 ⟨#[111]⟩ []), (Nd.mk 22 0 s230 [])])])]), u235, a235, c235) ⟨(by show List.length (((([] ++ [(Nd.mk 51 0 ⟨#[84]⟩ [x204])]) ++ [(Nd.mk 50 0 ⟨#[65]⟩ (([(Nd.mk 53 0 ⟨#[84]⟩ []), (Nd.mk 54 n210 ⟨#[112]⟩ [(Nd.mk 1 2 ⟨#[]⟩ [])])] ++ [x215]) ++ [x218]))]) ++ [(Nd.mk 50 0 ⟨#[66]⟩ [(Nd.mk 52 0 ⟨#[65]⟩ []), x225])]) ++ [(Nd.mk 33 0 ⟨#[]⟩ [(Nd.mk 15 0 ⟨#[]⟩ [(Nd.mk 4 0 ⟨#[111]⟩ []), (Nd.mk 22 0 s230 [])])])]) + (i + 1) ≤ 20; simp only [List.length_append, List.length_cons, List.length_nil]; omega), (((((((((((((((e204.trans e205).trans e206).trans e211).trans e215).trans e216).trans e218).trans e219).trans e221).trans e222).trans e225).trans e226).trans e227).trans e232).trans e233).trans e234), (by show Nd.bulks (((([] ++ [(Nd.mk 51 0 ⟨#[84]⟩ [x204])]) ++ [(Nd.mk 50 0 ⟨#[65]⟩ (([(Nd.mk 53 0 ⟨#[84]⟩ []), (Nd.mk 54 n210 ⟨#[112]⟩ [(Nd.mk 1 2 ⟨#[]⟩ [])])] ++ [x215]) ++ [x218]))]) ++ [(Nd.mk 50 0 ⟨#[66]⟩ [(Nd.mk 52 0 ⟨#[65]⟩ []), x225])]) ++ [(Nd.mk 33 0 ⟨#[]⟩ [(Nd.mk 15 0 ⟨#[]⟩ [(Nd.mk 4 0 ⟨#[111]⟩ []), (Nd.mk 22 0 s230 [])])])]) + (i + 1) * 6343 ≤ 199000; simp only [bsz, Nd.bulk_mk, Nd.bulks_cons, Nd.bulks_nil, Nd.bulks_app, List.size_toArray, List.length_cons, List.length_nil]; omega), r235, m236⟩ (by repeat (first | exact wkF_e | refine wkF_c rfl ?_)) (wkB_c rfl (wkB_c rfl wkB_e)) rfl ?_
            rintro ⟨H, k, es, us, a, c⟩ h3 ⟨hk, e0, hb, hr, m3⟩
            have hk : es.length + k ≤ 20 := hk
            have e0 : Ext h0 H := e0
            have hb : Nd.bulks es + k * 6343 ≤ 199000 := hb
            have hr : RdL H (es.flatMap Nd.dt) us := hr
            have m3 : CurM H h3 l p ((.row 4 (us.map .raw), .slice a es.length c) :: bag) := m3
            try simp only [go_sem, Nat.reduceBEq]
            cases k with
            | zero =>
              simp only [show decide ((0 : Int) < ((0 : Nat) : Int)) = false from rfl, go_sem, Nat.reduceBEq, Nat.reduceAdd, Nat.reduceLeDiff]
              obtain ⟨H4, e4, r4, m4⟩ := cur_fix m3 hr
              exact NodP.base (e0.trans e4) (NodP.mk 56 0 ⟨#[]⟩ r4 rfl (by rw [show (ByteArray.mk #[]).size = 0 from rfl, Nat.zero_add]; exact Nat.le_trans (Nat.le_add_right _ _) hb) m4)
            | succ k =>
            have w2 : IntKind.i64.wrap (((k + 1 : Nat) : Int) - 1) = (k : Nat) := by rw [IntWalk.i64_in _ (by omega)]; omega
            simp only [show decide ((0 : Int) < ((k + 1 : Nat) : Int)) = true from decide_eq_true (by omega), go_sem]
            refine regionD_intro (lb := [104]) (by kernel_rfl) ?_
            try simp only [go_sem, Nat.reduceBEq]
            refine (l15Step_c hl 2 (by decide) 2 (by decide) (by decide) false false m3).mono ?_
            rintro _ h4 ⟨H4, x, a4, c4, rfl, e4, b4, r4, m4⟩
            try simp only [go_sem, Nat.reduceBEq]
            refine cur_nodes [(x, .slice a4 x.kids.length c4)] [x] rfl slT24 rfl rfl rfl (by decide) (by decide) (all1 r4) m4 fun H5 a5 c5 h5 e5 r5 m5 => ?_
            try simp only [go_sem, Nat.reduceBEq]
            refine cur_nadd (es := es) slT24 rfl rfl (by decide) m5 (hr.mono (e4.trans e5)) r5 (by omega) (Nat.le_of_ble_eq_true rfl) fun us6 a6 c6 h6 hr6 m6 => ?_
            simp only [w2, go_sem, Nat.reduceBEq, Nat.reduceAdd, Nat.reduceLeDiff]
            exact Again.intro (H5, k, es ++ [x], us6, a6, c6) (by first | omega | (simp only; omega)) ⟨(by show (es ++ [x]).length + k ≤ 20; rw [List.length_append, List.length_cons, List.length_nil]; omega), e0.trans (e4.trans e5), (by show Nd.bulks (es ++ [x]) + k * 6343 ≤ _; rw [Nd.bulks_app, Nd.bulks_cons, Nd.bulks_nil]; omega), hr6, m6⟩ (by repeat (first | exact wkF_e | refine wkF_c rfl ?_)) (wkB_c rfl (wkB_c rfl wkB_e)) rfl
          · try simp only [go_sem, Nat.reduceBEq]
            refine cur_nodes [((Nd.mk 1 2 ⟨#[]⟩ []), .slice none 0 0)] [(Nd.mk 1 2 ⟨#[]⟩ [])] rfl slT24 rfl rfl rfl (by decide) (by decide) (all1 (rdn_nil _)) m207 fun H238 a238 c238 h238 e238 r238 m238 => ?_
            try simp only [go_sem, Nat.reduceBEq]
            refine (l1Below_c hl m238 2 (by decide) (by decide)).mono ?_
            rintro _ h239 ⟨n239, rfl, p239, q239, m239⟩
            try simp only [go_sem, Nat.reduceBEq, Nat.reduceAdd, Nat.reduceLeDiff]
            refine cur_own [((Nd.mk 53 0 ⟨#[84]⟩ []), .slice none 0 0), ((Nd.mk 54 n239 ⟨#[112]⟩ [(Nd.mk 1 2 ⟨#[]⟩ [])]), .slice a238 1 c238)] [(Nd.mk 53 0 ⟨#[84]⟩ []), (Nd.mk 54 n239 ⟨#[112]⟩ [(Nd.mk 1 2 ⟨#[]⟩ [])])] rfl slT24 rfl rfl rfl (by decide) (by decide) (allc ((rdn_nil _).mono e238) (all1 r238)) m239 fun u240 a240 c240 h240 r240 m240 => ?_
            try simp only [go_sem, Nat.reduceBEq]
            refine cur_strs [⟨#[109]⟩, ⟨#[95, 95, 99, 111, 110, 115, 116, 114, 117, 99, 116]⟩, ⟨#[95, 95, 100, 101, 115, 116, 114, 117, 99, 116]⟩] slT47 rfl rfl rfl (by decide) (by decide) m240 fun v241 h241 m241 => ?_
            try simp only [go_sem, Nat.reduceBEq]
            refine (l1Str_c hl m241 (by decide) (by decide)).mono ?_
            rintro _ g241 ⟨s241, t241, rfl, m241⟩
            have z241 := (by decide : ∀ s ∈ ([⟨#[109]⟩, ⟨#[95, 95, 99, 111, 110, 115, 116, 114, 117, 99, 116]⟩, ⟨#[95, 95, 100, 101, 115, 116, 114, 117, 99, 116]⟩] : List ByteArray), s.size ≤ 11) s241 t241
            clear t241
            have m241 := m241.drop
            try simp only [go_sem, Nat.reduceBEq]
            refine (l1Below_c hl m241 2 (by decide) (by decide)).mono ?_
            rintro _ h242 ⟨n242, rfl, p242, q242, m242⟩
            try simp only [go_sem, Nat.reduceBEq]
            refine (l15Func_c hl 55 n242 s241 (by omega) false m242).mono ?_
            rintro _ h243 ⟨H243, x243, a243, c243, rfl, e243, b243, r243, m243⟩
            try simp only [go_sem, Nat.reduceBEq]
            refine cur_nodes [(x243, .slice a243 x243.kids.length c243)] [x243] rfl slT24 rfl rfl rfl (by decide) (by decide) (all1 r243) m243 fun H244 a244 c244 h244 e244 r244 m244 => ?_
            try simp only [go_sem, Nat.reduceBEq]
            refine cur_nadd (es := [(Nd.mk 53 0 ⟨#[84]⟩ []), (Nd.mk 54 n239 ⟨#[112]⟩ [(Nd.mk 1 2 ⟨#[]⟩ [])])]) slT24 rfl rfl (by decide) m244 ((r240.mono e243).mono e244) r244 (Nat.le_of_ble_eq_true rfl) (Nat.le_of_ble_eq_true rfl) fun u245 a245 c245 h245 r245 m245 => ?_
            try simp only [go_sem, Nat.reduceBEq, Nat.reduceAdd]
            refine (l15Func_c hl 55 2 ⟨#[115]⟩ (by decide) false m245).mono ?_
            rintro _ h246 ⟨H246, x246, a246, c246, rfl, e246, b246, r246, m246⟩
            try simp only [go_sem, Nat.reduceBEq]
            refine cur_nodes [(x246, .slice a246 x246.kids.length c246)] [x246] rfl slT24 rfl rfl rfl (by decide) (by decide) (all1 r246) m246 fun H247 a247 c247 h247 e247 r247 m247 => ?_
            try simp only [go_sem, Nat.reduceBEq]
            refine cur_nadd (es := ([(Nd.mk 53 0 ⟨#[84]⟩ []), (Nd.mk 54 n239 ⟨#[112]⟩ [(Nd.mk 1 2 ⟨#[]⟩ [])])] ++ [x243])) slT24 rfl rfl (by decide) m247 ((r245.mono e246).mono e247) r247 (Nat.le_of_ble_eq_true rfl) (Nat.le_of_ble_eq_true rfl) fun u248 a248 c248 h248 r248 m248 => ?_
            try simp only [go_sem, Nat.reduceBEq, Nat.reduceAdd]
            refine regionD_intro (lb := [65]) (by kernel_rfl) ?_
            try simp only [go_sem, Nat.reduceBEq]
            obtain ⟨H249, e249, r249, m249⟩ := cur_fix m248 r248
            refine (l15N_c _ _ _ _ _ _).mono ?_
            rintro _ _ ⟨rfl, rfl⟩
            try simp only [go_sem, Nat.reduceBEq]
            refine cur_nodes [((Nd.mk 50 0 ⟨#[65]⟩ (([(Nd.mk 53 0 ⟨#[84]⟩ []), (Nd.mk 54 n239 ⟨#[112]⟩ [(Nd.mk 1 2 ⟨#[]⟩ [])])] ++ [x243]) ++ [x246])), .slice a248 (([(Nd.mk 53 0 ⟨#[84]⟩ []), (Nd.mk 54 n239 ⟨#[112]⟩ [(Nd.mk 1 2 ⟨#[]⟩ [])])] ++ [x243]) ++ [x246]).length c248)] [(Nd.mk 50 0 ⟨#[65]⟩ (([(Nd.mk 53 0 ⟨#[84]⟩ []), (Nd.mk 54 n239 ⟨#[112]⟩ [(Nd.mk 1 2 ⟨#[]⟩ [])])] ++ [x243]) ++ [x246]))] rfl slT24 rfl rfl rfl (by decide) (by decide) (all1 r249) m249 fun H250 a250 c250 h250 e250 r250 m250 => ?_
            try simp only [go_sem, Nat.reduceBEq]
            refine cur_nadd (es := ([] ++ [(Nd.mk 51 0 ⟨#[84]⟩ [x204])])) slT24 rfl rfl (by decide) m250 (((((((r207.mono e238).mono e243).mono e244).mono e246).mono e247).mono e249).mono e250) r250 (Nat.le_of_ble_eq_true rfl) (Nat.le_of_ble_eq_true rfl) fun u251 a251 c251 h251 r251 m251 => ?_
            try simp only [go_sem, Nat.reduceBEq, Nat.reduceAdd, Nat.reduceLeDiff]
            refine regionD_intro (lb := [72]) (by kernel_rfl) ?_
            try simp only [go_sem, Nat.reduceBEq]
            refine (l15N_c _ _ _ _ _ _).mono ?_
            rintro _ _ ⟨rfl, rfl⟩
            try simp only [go_sem, Nat.reduceBEq]
            refine (l15Func_c hl 55 0 ⟨#[109]⟩ (by decide) false m251).mono ?_
            rintro _ h253 ⟨H253, x253, a253, c253, rfl, e253, b253, r253, m253⟩
            try simp only [go_sem, Nat.reduceBEq]
            refine cur_nodes [((Nd.mk 52 0 ⟨#[65]⟩ []), .slice none 0 0), (x253, .slice a253 x253.kids.length c253)] [(Nd.mk 52 0 ⟨#[65]⟩ []), x253] rfl slT24 rfl rfl rfl (by decide) (by decide) (allc ((rdn_nil _).mono e253) (all1 r253)) m253 fun H254 a254 c254 h254 e254 r254 m254 => ?_
            try simp only [go_sem, Nat.reduceBEq]
            refine (l15N_c _ _ _ _ _ _).mono ?_
            rintro _ _ ⟨rfl, rfl⟩
            try simp only [go_sem, Nat.reduceBEq]
            refine cur_nodes [((Nd.mk 50 0 ⟨#[66]⟩ [(Nd.mk 52 0 ⟨#[65]⟩ []), x253]), .slice a254 2 c254)] [(Nd.mk 50 0 ⟨#[66]⟩ [(Nd.mk 52 0 ⟨#[65]⟩ []), x253])] rfl slT24 rfl rfl rfl (by decide) (by decide) (all1 r254) m254 fun H255 a255 c255 h255 e255 r255 m255 => ?_
            try simp only [go_sem, Nat.reduceBEq]
            refine cur_nadd (es := (([] ++ [(Nd.mk 51 0 ⟨#[84]⟩ [x204])]) ++ [(Nd.mk 50 0 ⟨#[65]⟩ (([(Nd.mk 53 0 ⟨#[84]⟩ []), (Nd.mk 54 n239 ⟨#[112]⟩ [(Nd.mk 1 2 ⟨#[]⟩ [])])] ++ [x243]) ++ [x246]))])) slT24 rfl rfl (by decide) m255 (((r251.mono e253).mono e254).mono e255) r255 (Nat.le_of_ble_eq_true rfl) (Nat.le_of_ble_eq_true rfl) fun u256 a256 c256 h256 r256 m256 => ?_
            try simp only [go_sem, Nat.reduceBEq, Nat.reduceAdd, Nat.reduceLeDiff]
            refine (l15N_c _ _ _ _ _ _).mono ?_
            rintro _ _ ⟨rfl, rfl⟩
            try simp only [go_sem, Nat.reduceBEq, Nat.reduceAdd, Nat.reduceLeDiff]
            refine regionD_intro (lb := [83, 84]) (by kernel_rfl) ?_
            try simp only [go_sem, Nat.reduceBEq, Nat.reduceAdd, Nat.reduceLeDiff]
            refine cur_strs [⟨#[65]⟩, ⟨#[66]⟩] slT47 rfl rfl rfl (by decide) (by decide) m256 fun v258 h258 m258 => ?_
            try simp only [go_sem, Nat.reduceBEq]
            refine (l1Str_c hl m258 (by decide) (by decide)).mono ?_
            rintro _ g258 ⟨s258, t258, rfl, m258⟩
            have z258 := (by decide : ∀ s ∈ ([⟨#[65]⟩, ⟨#[66]⟩] : List ByteArray), s.size ≤ 1) s258 t258
            clear t258
            have m258 := m258.drop
            try simp only [go_sem, Nat.reduceBEq]
            refine (l15N_c _ _ _ _ _ _).mono ?_
            rintro _ _ ⟨rfl, rfl⟩
            try simp only [go_sem, Nat.reduceBEq]
            refine cur_nodes [((Nd.mk 4 0 ⟨#[111]⟩ []), .slice none 0 0), ((Nd.mk 22 0 s258 []), .slice none 0 0)] [(Nd.mk 4 0 ⟨#[111]⟩ []), (Nd.mk 22 0 s258 [])] rfl slT24 rfl rfl rfl (by decide) (by decide) (allc (rdn_nil _) (all1 (rdn_nil _))) m258 fun H260 a260 c260 h260 e260 r260 m260 => ?_
            try simp only [go_sem, Nat.reduceBEq]
            refine (l15N_c _ _ _ _ _ _).mono ?_
            rintro _ _ ⟨rfl, rfl⟩
            try simp only [go_sem, Nat.reduceBEq]
            refine cur_nodes [((Nd.mk 15 0 ⟨#[]⟩ [(Nd.mk 4 0 ⟨#[111]⟩ []), (Nd.mk 22 0 s258 [])]), .slice a260 2 c260)] [(Nd.mk 15 0 ⟨#[]⟩ [(Nd.mk 4 0 ⟨#[111]⟩ []), (Nd.mk 22 0 s258 [])])] rfl slT24 rfl rfl rfl (by decide) (by decide) (all1 r260) m260 fun H261 a261 c261 h261 e261 r261 m261 => ?_
            try simp only [go_sem, Nat.reduceBEq]
            refine (l15N_c _ _ _ _ _ _).mono ?_
            rintro _ _ ⟨rfl, rfl⟩
            try simp only [go_sem, Nat.reduceBEq]
            refine cur_nodes [((Nd.mk 33 0 ⟨#[]⟩ [(Nd.mk 15 0 ⟨#[]⟩ [(Nd.mk 4 0 ⟨#[111]⟩ []), (Nd.mk 22 0 s258 [])])]), .slice a261 1 c261)] [(Nd.mk 33 0 ⟨#[]⟩ [(Nd.mk 15 0 ⟨#[]⟩ [(Nd.mk 4 0 ⟨#[111]⟩ []), (Nd.mk 22 0 s258 [])])])] rfl slT24 rfl rfl rfl (by decide) (by decide) (all1 r261) m261 fun H262 a262 c262 h262 e262 r262 m262 => ?_
            try simp only [go_sem, Nat.reduceBEq]
            refine cur_nadd (es := ((([] ++ [(Nd.mk 51 0 ⟨#[84]⟩ [x204])]) ++ [(Nd.mk 50 0 ⟨#[65]⟩ (([(Nd.mk 53 0 ⟨#[84]⟩ []), (Nd.mk 54 n239 ⟨#[112]⟩ [(Nd.mk 1 2 ⟨#[]⟩ [])])] ++ [x243]) ++ [x246]))]) ++ [(Nd.mk 50 0 ⟨#[66]⟩ [(Nd.mk 52 0 ⟨#[65]⟩ []), x253])])) slT24 rfl rfl (by decide) m262 (((r256.mono e260).mono e261).mono e262) r262 (Nat.le_of_ble_eq_true rfl) (Nat.le_of_ble_eq_true rfl) fun u263 a263 c263 h263 r263 m263 => ?_
            try simp only [go_sem, Nat.reduceBEq, Nat.reduceAdd, Nat.reduceLeDiff]
            refine (l1Below_c hl m263 5 (by decide) (by decide)).mono ?_
            rintro _ h264 ⟨n264, rfl, p264, q264, m264⟩
            try simp only [go_sem, Nat.reduceBEq]
            obtain ⟨i, rfl⟩ : ∃ i : Nat, n264 = i := ⟨n264.toNat, by omega⟩
            have w1 : IntKind.i64.wrap (1 + (i : Int)) = ((i + 1 : Nat) : Int) := by rw [IntWalk.i64_in _ (by omega)]; omega
            simp only [w1, go_sem]
            refine aloop (ι := Hp × Nat × List Nd × List Value × Option Addr × Nat) (fun x => [(7, .val (.int .i64 (x.2.1 : Nat))), (3, .box 3 0), (2, .box 2 0), (0, .val (pv p))])
              (fun x => [(3, [.int .i64 56, .int .i64 0, .string ⟨#[]⟩, .slice x.2.2.2.2.1 x.2.2.1.length x.2.2.2.2.2]), (2, [.int .i64 0, .int .i64 0, .string ⟨#[]⟩, .slice none 0 0])])
              (fun x h' => x.2.2.1.length + x.2.1 ≤ 20 ∧ Ext h0 x.1 ∧ Nd.bulks x.2.2.1 + x.2.1 * 6343 ≤ 199000 ∧ RdL x.1 (x.2.2.1.flatMap Nd.dt) x.2.2.2.1 ∧ CurM x.1 h' l p ((.row 4 (x.2.2.2.1.map .raw), .slice x.2.2.2.2.1 x.2.2.1.length x.2.2.2.2.2) :: bag))
              (fun x => x.2.1) (H262, i + 1, (((([] ++ [(Nd.mk 51 0 ⟨#[84]⟩ [x204])]) ++ [(Nd.mk 50 0 ⟨#[65]⟩ (([(Nd.mk 53 0 ⟨#[84]⟩ []), (Nd.mk 54 n239 ⟨#[112]⟩ [(Nd.mk 1 2 ⟨#[]⟩ [])])] ++ [x243]) ++ [x246]))]) ++ [(Nd.mk 50 0 ⟨#[66]⟩ [(Nd.mk 52 0 ⟨#[65]⟩ []), x253])]) ++ [(Nd.mk 33 0 ⟨#[]⟩ [(Nd.mk 15 0 ⟨#[]⟩ [(Nd.mk 4 0 ⟨#[111]⟩ []), (Nd.mk 22 0 s258 [])])])]), u263, a263, c263) ⟨(by show List.length (((([] ++ [(Nd.mk 51 0 ⟨#[84]⟩ [x204])]) ++ [(Nd.mk 50 0 ⟨#[65]⟩ (([(Nd.mk 53 0 ⟨#[84]⟩ []), (Nd.mk 54 n239 ⟨#[112]⟩ [(Nd.mk 1 2 ⟨#[]⟩ [])])] ++ [x243]) ++ [x246]))]) ++ [(Nd.mk 50 0 ⟨#[66]⟩ [(Nd.mk 52 0 ⟨#[65]⟩ []), x253])]) ++ [(Nd.mk 33 0 ⟨#[]⟩ [(Nd.mk 15 0 ⟨#[]⟩ [(Nd.mk 4 0 ⟨#[111]⟩ []), (Nd.mk 22 0 s258 [])])])]) + (i + 1) ≤ 20; simp only [List.length_append, List.length_cons, List.length_nil]; omega), (((((((((((((((e204.trans e205).trans e206).trans e238).trans e243).trans e244).trans e246).trans e247).trans e249).trans e250).trans e253).trans e254).trans e255).trans e260).trans e261).trans e262), (by show Nd.bulks (((([] ++ [(Nd.mk 51 0 ⟨#[84]⟩ [x204])]) ++ [(Nd.mk 50 0 ⟨#[65]⟩ (([(Nd.mk 53 0 ⟨#[84]⟩ []), (Nd.mk 54 n239 ⟨#[112]⟩ [(Nd.mk 1 2 ⟨#[]⟩ [])])] ++ [x243]) ++ [x246]))]) ++ [(Nd.mk 50 0 ⟨#[66]⟩ [(Nd.mk 52 0 ⟨#[65]⟩ []), x253])]) ++ [(Nd.mk 33 0 ⟨#[]⟩ [(Nd.mk 15 0 ⟨#[]⟩ [(Nd.mk 4 0 ⟨#[111]⟩ []), (Nd.mk 22 0 s258 [])])])]) + (i + 1) * 6343 ≤ 199000; simp only [bsz, Nd.bulk_mk, Nd.bulks_cons, Nd.bulks_nil, Nd.bulks_app, List.size_toArray, List.length_cons, List.length_nil]; omega), r263, m264⟩ (by repeat (first | exact wkF_e | refine wkF_c rfl ?_)) (wkB_c rfl (wkB_c rfl wkB_e)) rfl ?_
            rintro ⟨H, k, es, us, a, c⟩ h3 ⟨hk, e0, hb, hr, m3⟩
            have hk : es.length + k ≤ 20 := hk
            have e0 : Ext h0 H := e0
            have hb : Nd.bulks es + k * 6343 ≤ 199000 := hb
            have hr : RdL H (es.flatMap Nd.dt) us := hr
            have m3 : CurM H h3 l p ((.row 4 (us.map .raw), .slice a es.length c) :: bag) := m3
            try simp only [go_sem, Nat.reduceBEq]
            cases k with
            | zero =>
              simp only [show decide ((0 : Int) < ((0 : Nat) : Int)) = false from rfl, go_sem, Nat.reduceBEq, Nat.reduceAdd, Nat.reduceLeDiff]
              obtain ⟨H4, e4, r4, m4⟩ := cur_fix m3 hr
              exact NodP.base (e0.trans e4) (NodP.mk 56 0 ⟨#[]⟩ r4 rfl (by rw [show (ByteArray.mk #[]).size = 0 from rfl, Nat.zero_add]; exact Nat.le_trans (Nat.le_add_right _ _) hb) m4)
            | succ k =>
            have w2 : IntKind.i64.wrap (((k + 1 : Nat) : Int) - 1) = (k : Nat) := by rw [IntWalk.i64_in _ (by omega)]; omega
            simp only [show decide ((0 : Int) < ((k + 1 : Nat) : Int)) = true from decide_eq_true (by omega), go_sem]
            refine regionD_intro (lb := [104]) (by kernel_rfl) ?_
            try simp only [go_sem, Nat.reduceBEq]
            refine (l15Step_c hl 2 (by decide) 2 (by decide) (by decide) false false m3).mono ?_
            rintro _ h4 ⟨H4, x, a4, c4, rfl, e4, b4, r4, m4⟩
            try simp only [go_sem, Nat.reduceBEq]
            refine cur_nodes [(x, .slice a4 x.kids.length c4)] [x] rfl slT24 rfl rfl rfl (by decide) (by decide) (all1 r4) m4 fun H5 a5 c5 h5 e5 r5 m5 => ?_
            try simp only [go_sem, Nat.reduceBEq]
            refine cur_nadd (es := es) slT24 rfl rfl (by decide) m5 (hr.mono (e4.trans e5)) r5 (by omega) (Nat.le_of_ble_eq_true rfl) fun us6 a6 c6 h6 hr6 m6 => ?_
            simp only [w2, go_sem, Nat.reduceBEq, Nat.reduceAdd, Nat.reduceLeDiff]
            exact Again.intro (H5, k, es ++ [x], us6, a6, c6) (by first | omega | (simp only; omega)) ⟨(by show (es ++ [x]).length + k ≤ 20; rw [List.length_append, List.length_cons, List.length_nil]; omega), e0.trans (e4.trans e5), (by show Nd.bulks (es ++ [x]) + k * 6343 ≤ _; rw [Nd.bulks_app, Nd.bulks_cons, Nd.bulks_nil]; omega), hr6, m6⟩ (by repeat (first | exact wkF_e | refine wkF_c rfl ?_)) (wkB_c rfl (wkB_c rfl wkB_e)) rfl
        · try simp only [go_sem, Nat.reduceBEq]
          refine cur_nodes [((Nd.mk 1 2 ⟨#[]⟩ []), .slice none 0 0)] [(Nd.mk 1 2 ⟨#[]⟩ [])] rfl slT24 rfl rfl rfl (by decide) (by decide) (all1 (rdn_nil _)) m207 fun H266 a266 c266 h266 e266 r266 m266 => ?_
          try simp only [go_sem]
          refine (l15N_c _ _ _ _ _ _).mono ?_
          rintro _ _ ⟨rfl, rfl⟩
          try simp only [go_sem, Nat.reduceBEq]
          refine (l1Below_c hl m266 2 (by decide) (by decide)).mono ?_
          rintro _ h268 ⟨n268, rfl, p268, q268, m268⟩
          try simp only [go_sem, Nat.reduceBEq, Nat.reduceAdd, Nat.reduceLeDiff]
          refine cur_own [((Nd.mk 53 0 ⟨#[84]⟩ []), .slice none 0 0), ((Nd.mk 54 n268 ⟨#[112]⟩ [(Nd.mk 1 2 ⟨#[]⟩ [])]), .slice a266 1 c266)] [(Nd.mk 53 0 ⟨#[84]⟩ []), (Nd.mk 54 n268 ⟨#[112]⟩ [(Nd.mk 1 2 ⟨#[]⟩ [])])] rfl slT24 rfl rfl rfl (by decide) (by decide) (allc (rdn_nil _) (all1 r266)) m268 fun u269 a269 c269 h269 r269 m269 => ?_
          try simp only [go_sem, Nat.reduceBEq]
          refine cur_strs [⟨#[109]⟩, ⟨#[95, 95, 99, 111, 110, 115, 116, 114, 117, 99, 116]⟩, ⟨#[95, 95, 100, 101, 115, 116, 114, 117, 99, 116]⟩] slT47 rfl rfl rfl (by decide) (by decide) m269 fun v270 h270 m270 => ?_
          try simp only [go_sem, Nat.reduceBEq]
          refine (l1Str_c hl m270 (by decide) (by decide)).mono ?_
          rintro _ g270 ⟨s270, t270, rfl, m270⟩
          have z270 := (by decide : ∀ s ∈ ([⟨#[109]⟩, ⟨#[95, 95, 99, 111, 110, 115, 116, 114, 117, 99, 116]⟩, ⟨#[95, 95, 100, 101, 115, 116, 114, 117, 99, 116]⟩] : List ByteArray), s.size ≤ 11) s270 t270
          clear t270
          have m270 := m270.drop
          try simp only [go_sem, Nat.reduceBEq]
          refine (l1Below_c hl m270 2 (by decide) (by decide)).mono ?_
          rintro _ h271 ⟨n271, rfl, p271, q271, m271⟩
          try simp only [go_sem, Nat.reduceBEq]
          refine (l15Func_c hl 55 n271 s270 (by omega) false m271).mono ?_
          rintro _ h272 ⟨H272, x272, a272, c272, rfl, e272, b272, r272, m272⟩
          try simp only [go_sem, Nat.reduceBEq]
          refine cur_nodes [(x272, .slice a272 x272.kids.length c272)] [x272] rfl slT24 rfl rfl rfl (by decide) (by decide) (all1 r272) m272 fun H273 a273 c273 h273 e273 r273 m273 => ?_
          try simp only [go_sem, Nat.reduceBEq]
          refine cur_nadd (es := [(Nd.mk 53 0 ⟨#[84]⟩ []), (Nd.mk 54 n268 ⟨#[112]⟩ [(Nd.mk 1 2 ⟨#[]⟩ [])])]) slT24 rfl rfl (by decide) m273 ((r269.mono e272).mono e273) r273 (Nat.le_of_ble_eq_true rfl) (Nat.le_of_ble_eq_true rfl) fun u274 a274 c274 h274 r274 m274 => ?_
          try simp only [go_sem, Nat.reduceBEq, Nat.reduceAdd]
          refine (l15Func_c hl 55 2 ⟨#[115]⟩ (by decide) false m274).mono ?_
          rintro _ h275 ⟨H275, x275, a275, c275, rfl, e275, b275, r275, m275⟩
          try simp only [go_sem, Nat.reduceBEq]
          refine cur_nodes [(x275, .slice a275 x275.kids.length c275)] [x275] rfl slT24 rfl rfl rfl (by decide) (by decide) (all1 r275) m275 fun H276 a276 c276 h276 e276 r276 m276 => ?_
          try simp only [go_sem, Nat.reduceBEq]
          refine cur_nadd (es := ([(Nd.mk 53 0 ⟨#[84]⟩ []), (Nd.mk 54 n268 ⟨#[112]⟩ [(Nd.mk 1 2 ⟨#[]⟩ [])])] ++ [x272])) slT24 rfl rfl (by decide) m276 ((r274.mono e275).mono e276) r276 (Nat.le_of_ble_eq_true rfl) (Nat.le_of_ble_eq_true rfl) fun u277 a277 c277 h277 r277 m277 => ?_
          try simp only [go_sem, Nat.reduceBEq, Nat.reduceAdd]
          refine regionD_intro (lb := [65]) (by kernel_rfl) ?_
          try simp only [go_sem, Nat.reduceBEq]
          obtain ⟨H278, e278, r278, m278⟩ := cur_fix m277 r277
          refine (l15N_c _ _ _ _ _ _).mono ?_
          rintro _ _ ⟨rfl, rfl⟩
          try simp only [go_sem, Nat.reduceBEq]
          refine cur_nodes [((Nd.mk 50 0 ⟨#[65]⟩ (([(Nd.mk 53 0 ⟨#[84]⟩ []), (Nd.mk 54 n268 ⟨#[112]⟩ [(Nd.mk 1 2 ⟨#[]⟩ [])])] ++ [x272]) ++ [x275])), .slice a277 (([(Nd.mk 53 0 ⟨#[84]⟩ []), (Nd.mk 54 n268 ⟨#[112]⟩ [(Nd.mk 1 2 ⟨#[]⟩ [])])] ++ [x272]) ++ [x275]).length c277)] [(Nd.mk 50 0 ⟨#[65]⟩ (([(Nd.mk 53 0 ⟨#[84]⟩ []), (Nd.mk 54 n268 ⟨#[112]⟩ [(Nd.mk 1 2 ⟨#[]⟩ [])])] ++ [x272]) ++ [x275]))] rfl slT24 rfl rfl rfl (by decide) (by decide) (all1 r278) m278 fun H279 a279 c279 h279 e279 r279 m279 => ?_
          try simp only [go_sem, Nat.reduceBEq]
          refine cur_nadd (es := ([] ++ [(Nd.mk 51 0 ⟨#[84]⟩ [x204])])) slT24 rfl rfl (by decide) m279 (((((((r207.mono e266).mono e272).mono e273).mono e275).mono e276).mono e278).mono e279) r279 (Nat.le_of_ble_eq_true rfl) (Nat.le_of_ble_eq_true rfl) fun u280 a280 c280 h280 r280 m280 => ?_
          try simp only [go_sem, Nat.reduceBEq, Nat.reduceAdd, Nat.reduceLeDiff]
          refine regionD_intro (lb := [72]) (by kernel_rfl) ?_
          try simp only [go_sem, Nat.reduceBEq]
          refine (l15N_c _ _ _ _ _ _).mono ?_
          rintro _ _ ⟨rfl, rfl⟩
          try simp only [go_sem, Nat.reduceBEq]
          refine (l15Func_c hl 55 0 ⟨#[109]⟩ (by decide) false m280).mono ?_
          rintro _ h282 ⟨H282, x282, a282, c282, rfl, e282, b282, r282, m282⟩
          try simp only [go_sem, Nat.reduceBEq]
          refine cur_nodes [((Nd.mk 52 0 ⟨#[65]⟩ []), .slice none 0 0), (x282, .slice a282 x282.kids.length c282)] [(Nd.mk 52 0 ⟨#[65]⟩ []), x282] rfl slT24 rfl rfl rfl (by decide) (by decide) (allc ((rdn_nil _).mono e282) (all1 r282)) m282 fun H283 a283 c283 h283 e283 r283 m283 => ?_
          try simp only [go_sem, Nat.reduceBEq]
          refine (l15N_c _ _ _ _ _ _).mono ?_
          rintro _ _ ⟨rfl, rfl⟩
          try simp only [go_sem, Nat.reduceBEq]
          refine cur_nodes [((Nd.mk 50 0 ⟨#[66]⟩ [(Nd.mk 52 0 ⟨#[65]⟩ []), x282]), .slice a283 2 c283)] [(Nd.mk 50 0 ⟨#[66]⟩ [(Nd.mk 52 0 ⟨#[65]⟩ []), x282])] rfl slT24 rfl rfl rfl (by decide) (by decide) (all1 r283) m283 fun H284 a284 c284 h284 e284 r284 m284 => ?_
          try simp only [go_sem, Nat.reduceBEq]
          refine cur_nadd (es := (([] ++ [(Nd.mk 51 0 ⟨#[84]⟩ [x204])]) ++ [(Nd.mk 50 0 ⟨#[65]⟩ (([(Nd.mk 53 0 ⟨#[84]⟩ []), (Nd.mk 54 n268 ⟨#[112]⟩ [(Nd.mk 1 2 ⟨#[]⟩ [])])] ++ [x272]) ++ [x275]))])) slT24 rfl rfl (by decide) m284 (((r280.mono e282).mono e283).mono e284) r284 (Nat.le_of_ble_eq_true rfl) (Nat.le_of_ble_eq_true rfl) fun u285 a285 c285 h285 r285 m285 => ?_
          try simp only [go_sem, Nat.reduceBEq, Nat.reduceAdd, Nat.reduceLeDiff]
          refine (l15N_c _ _ _ _ _ _).mono ?_
          rintro _ _ ⟨rfl, rfl⟩
          try simp only [go_sem, Nat.reduceBEq, Nat.reduceAdd, Nat.reduceLeDiff]
          refine regionD_intro (lb := [83, 84]) (by kernel_rfl) ?_
          try simp only [go_sem, Nat.reduceBEq, Nat.reduceAdd, Nat.reduceLeDiff]
          refine cur_strs [⟨#[65]⟩, ⟨#[66]⟩] slT47 rfl rfl rfl (by decide) (by decide) m285 fun v287 h287 m287 => ?_
          try simp only [go_sem, Nat.reduceBEq]
          refine (l1Str_c hl m287 (by decide) (by decide)).mono ?_
          rintro _ g287 ⟨s287, t287, rfl, m287⟩
          have z287 := (by decide : ∀ s ∈ ([⟨#[65]⟩, ⟨#[66]⟩] : List ByteArray), s.size ≤ 1) s287 t287
          clear t287
          have m287 := m287.drop
          try simp only [go_sem, Nat.reduceBEq]
          refine (l15N_c _ _ _ _ _ _).mono ?_
          rintro _ _ ⟨rfl, rfl⟩
          try simp only [go_sem, Nat.reduceBEq]
          refine cur_nodes [((Nd.mk 4 0 ⟨#[111]⟩ []), .slice none 0 0), ((Nd.mk 22 0 s287 []), .slice none 0 0)] [(Nd.mk 4 0 ⟨#[111]⟩ []), (Nd.mk 22 0 s287 [])] rfl slT24 rfl rfl rfl (by decide) (by decide) (allc (rdn_nil _) (all1 (rdn_nil _))) m287 fun H289 a289 c289 h289 e289 r289 m289 => ?_
          try simp only [go_sem, Nat.reduceBEq]
          refine (l15N_c _ _ _ _ _ _).mono ?_
          rintro _ _ ⟨rfl, rfl⟩
          try simp only [go_sem, Nat.reduceBEq]
          refine cur_nodes [((Nd.mk 15 0 ⟨#[]⟩ [(Nd.mk 4 0 ⟨#[111]⟩ []), (Nd.mk 22 0 s287 [])]), .slice a289 2 c289)] [(Nd.mk 15 0 ⟨#[]⟩ [(Nd.mk 4 0 ⟨#[111]⟩ []), (Nd.mk 22 0 s287 [])])] rfl slT24 rfl rfl rfl (by decide) (by decide) (all1 r289) m289 fun H290 a290 c290 h290 e290 r290 m290 => ?_
          try simp only [go_sem, Nat.reduceBEq]
          refine (l15N_c _ _ _ _ _ _).mono ?_
          rintro _ _ ⟨rfl, rfl⟩
          try simp only [go_sem, Nat.reduceBEq]
          refine cur_nodes [((Nd.mk 33 0 ⟨#[]⟩ [(Nd.mk 15 0 ⟨#[]⟩ [(Nd.mk 4 0 ⟨#[111]⟩ []), (Nd.mk 22 0 s287 [])])]), .slice a290 1 c290)] [(Nd.mk 33 0 ⟨#[]⟩ [(Nd.mk 15 0 ⟨#[]⟩ [(Nd.mk 4 0 ⟨#[111]⟩ []), (Nd.mk 22 0 s287 [])])])] rfl slT24 rfl rfl rfl (by decide) (by decide) (all1 r290) m290 fun H291 a291 c291 h291 e291 r291 m291 => ?_
          try simp only [go_sem, Nat.reduceBEq]
          refine cur_nadd (es := ((([] ++ [(Nd.mk 51 0 ⟨#[84]⟩ [x204])]) ++ [(Nd.mk 50 0 ⟨#[65]⟩ (([(Nd.mk 53 0 ⟨#[84]⟩ []), (Nd.mk 54 n268 ⟨#[112]⟩ [(Nd.mk 1 2 ⟨#[]⟩ [])])] ++ [x272]) ++ [x275]))]) ++ [(Nd.mk 50 0 ⟨#[66]⟩ [(Nd.mk 52 0 ⟨#[65]⟩ []), x282])])) slT24 rfl rfl (by decide) m291 (((r285.mono e289).mono e290).mono e291) r291 (Nat.le_of_ble_eq_true rfl) (Nat.le_of_ble_eq_true rfl) fun u292 a292 c292 h292 r292 m292 => ?_
          try simp only [go_sem, Nat.reduceBEq, Nat.reduceAdd, Nat.reduceLeDiff]
          refine (l1Below_c hl m292 5 (by decide) (by decide)).mono ?_
          rintro _ h293 ⟨n293, rfl, p293, q293, m293⟩
          try simp only [go_sem, Nat.reduceBEq]
          obtain ⟨i, rfl⟩ : ∃ i : Nat, n293 = i := ⟨n293.toNat, by omega⟩
          have w1 : IntKind.i64.wrap (1 + (i : Int)) = ((i + 1 : Nat) : Int) := by rw [IntWalk.i64_in _ (by omega)]; omega
          simp only [w1, go_sem]
          refine aloop (ι := Hp × Nat × List Nd × List Value × Option Addr × Nat) (fun x => [(7, .val (.int .i64 (x.2.1 : Nat))), (3, .box 3 0), (2, .box 2 0), (0, .val (pv p))])
            (fun x => [(3, [.int .i64 56, .int .i64 0, .string ⟨#[]⟩, .slice x.2.2.2.2.1 x.2.2.1.length x.2.2.2.2.2]), (2, [.int .i64 0, .int .i64 0, .string ⟨#[]⟩, .slice none 0 0])])
            (fun x h' => x.2.2.1.length + x.2.1 ≤ 20 ∧ Ext h0 x.1 ∧ Nd.bulks x.2.2.1 + x.2.1 * 6343 ≤ 199000 ∧ RdL x.1 (x.2.2.1.flatMap Nd.dt) x.2.2.2.1 ∧ CurM x.1 h' l p ((.row 4 (x.2.2.2.1.map .raw), .slice x.2.2.2.2.1 x.2.2.1.length x.2.2.2.2.2) :: bag))
            (fun x => x.2.1) (H291, i + 1, (((([] ++ [(Nd.mk 51 0 ⟨#[84]⟩ [x204])]) ++ [(Nd.mk 50 0 ⟨#[65]⟩ (([(Nd.mk 53 0 ⟨#[84]⟩ []), (Nd.mk 54 n268 ⟨#[112]⟩ [(Nd.mk 1 2 ⟨#[]⟩ [])])] ++ [x272]) ++ [x275]))]) ++ [(Nd.mk 50 0 ⟨#[66]⟩ [(Nd.mk 52 0 ⟨#[65]⟩ []), x282])]) ++ [(Nd.mk 33 0 ⟨#[]⟩ [(Nd.mk 15 0 ⟨#[]⟩ [(Nd.mk 4 0 ⟨#[111]⟩ []), (Nd.mk 22 0 s287 [])])])]), u292, a292, c292) ⟨(by show List.length (((([] ++ [(Nd.mk 51 0 ⟨#[84]⟩ [x204])]) ++ [(Nd.mk 50 0 ⟨#[65]⟩ (([(Nd.mk 53 0 ⟨#[84]⟩ []), (Nd.mk 54 n268 ⟨#[112]⟩ [(Nd.mk 1 2 ⟨#[]⟩ [])])] ++ [x272]) ++ [x275]))]) ++ [(Nd.mk 50 0 ⟨#[66]⟩ [(Nd.mk 52 0 ⟨#[65]⟩ []), x282])]) ++ [(Nd.mk 33 0 ⟨#[]⟩ [(Nd.mk 15 0 ⟨#[]⟩ [(Nd.mk 4 0 ⟨#[111]⟩ []), (Nd.mk 22 0 s287 [])])])]) + (i + 1) ≤ 20; simp only [List.length_append, List.length_cons, List.length_nil]; omega), (((((((((((((((e204.trans e205).trans e206).trans e266).trans e272).trans e273).trans e275).trans e276).trans e278).trans e279).trans e282).trans e283).trans e284).trans e289).trans e290).trans e291), (by show Nd.bulks (((([] ++ [(Nd.mk 51 0 ⟨#[84]⟩ [x204])]) ++ [(Nd.mk 50 0 ⟨#[65]⟩ (([(Nd.mk 53 0 ⟨#[84]⟩ []), (Nd.mk 54 n268 ⟨#[112]⟩ [(Nd.mk 1 2 ⟨#[]⟩ [])])] ++ [x272]) ++ [x275]))]) ++ [(Nd.mk 50 0 ⟨#[66]⟩ [(Nd.mk 52 0 ⟨#[65]⟩ []), x282])]) ++ [(Nd.mk 33 0 ⟨#[]⟩ [(Nd.mk 15 0 ⟨#[]⟩ [(Nd.mk 4 0 ⟨#[111]⟩ []), (Nd.mk 22 0 s287 [])])])]) + (i + 1) * 6343 ≤ 199000; simp only [bsz, Nd.bulk_mk, Nd.bulks_cons, Nd.bulks_nil, Nd.bulks_app, List.size_toArray, List.length_cons, List.length_nil]; omega), r292, m293⟩ (by repeat (first | exact wkF_e | refine wkF_c rfl ?_)) (wkB_c rfl (wkB_c rfl wkB_e)) rfl ?_
          rintro ⟨H, k, es, us, a, c⟩ h3 ⟨hk, e0, hb, hr, m3⟩
          have hk : es.length + k ≤ 20 := hk
          have e0 : Ext h0 H := e0
          have hb : Nd.bulks es + k * 6343 ≤ 199000 := hb
          have hr : RdL H (es.flatMap Nd.dt) us := hr
          have m3 : CurM H h3 l p ((.row 4 (us.map .raw), .slice a es.length c) :: bag) := m3
          try simp only [go_sem, Nat.reduceBEq]
          cases k with
          | zero =>
            simp only [show decide ((0 : Int) < ((0 : Nat) : Int)) = false from rfl, go_sem, Nat.reduceBEq, Nat.reduceAdd, Nat.reduceLeDiff]
            obtain ⟨H4, e4, r4, m4⟩ := cur_fix m3 hr
            exact NodP.base (e0.trans e4) (NodP.mk 56 0 ⟨#[]⟩ r4 rfl (by rw [show (ByteArray.mk #[]).size = 0 from rfl, Nat.zero_add]; exact Nat.le_trans (Nat.le_add_right _ _) hb) m4)
          | succ k =>
          have w2 : IntKind.i64.wrap (((k + 1 : Nat) : Int) - 1) = (k : Nat) := by rw [IntWalk.i64_in _ (by omega)]; omega
          simp only [show decide ((0 : Int) < ((k + 1 : Nat) : Int)) = true from decide_eq_true (by omega), go_sem]
          refine regionD_intro (lb := [104]) (by kernel_rfl) ?_
          try simp only [go_sem, Nat.reduceBEq]
          refine (l15Step_c hl 2 (by decide) 2 (by decide) (by decide) false false m3).mono ?_
          rintro _ h4 ⟨H4, x, a4, c4, rfl, e4, b4, r4, m4⟩
          try simp only [go_sem, Nat.reduceBEq]
          refine cur_nodes [(x, .slice a4 x.kids.length c4)] [x] rfl slT24 rfl rfl rfl (by decide) (by decide) (all1 r4) m4 fun H5 a5 c5 h5 e5 r5 m5 => ?_
          try simp only [go_sem, Nat.reduceBEq]
          refine cur_nadd (es := es) slT24 rfl rfl (by decide) m5 (hr.mono (e4.trans e5)) r5 (by omega) (Nat.le_of_ble_eq_true rfl) fun us6 a6 c6 h6 hr6 m6 => ?_
          simp only [w2, go_sem, Nat.reduceBEq, Nat.reduceAdd, Nat.reduceLeDiff]
          exact Again.intro (H5, k, es ++ [x], us6, a6, c6) (by first | omega | (simp only; omega)) ⟨(by show (es ++ [x]).length + k ≤ 20; rw [List.length_append, List.length_cons, List.length_nil]; omega), e0.trans (e4.trans e5), (by show Nd.bulks (es ++ [x]) + k * 6343 ≤ _; rw [Nd.bulks_app, Nd.bulks_cons, Nd.bulks_nil]; omega), hr6, m6⟩ (by repeat (first | exact wkF_e | refine wkF_c rfl ?_)) (wkB_c rfl (wkB_c rfl wkB_e)) rfl
    | true =>
      try simp only [go_sem]
      refine regionD_intro (lb := [21]) (by kernel_rfl) ?_
      try simp only [go_sem, Nat.reduceBEq]
      refine (l15Func_c hl 49 0 ⟨#[103, 101, 110]⟩ (by decide) true m199).mono ?_
      rintro _ h295 ⟨H295, x295, a295, c295, rfl, e295, b295, r295, m295⟩
      try simp only [go_sem, Nat.reduceBEq]
      refine cur_nodes [(x295, .slice a295 x295.kids.length c295)] [x295] rfl slT24 rfl rfl rfl (by decide) (by decide) (all1 r295) m295 fun H296 a296 c296 h296 e296 r296 m296 => ?_
      try simp only [go_sem, Nat.reduceBEq]
      refine cur_nadd (es := []) slT24 rfl rfl (by decide) m296 (((RdL_nil.2 rfl).mono e295).mono e296) r296 (Nat.le_of_ble_eq_true rfl) (Nat.le_of_ble_eq_true rfl) fun u297 a297 c297 h297 r297 m297 => ?_
      try simp only [go_sem, Nat.reduceBEq, Nat.reduceAdd, Nat.reduceLeDiff]
      refine (l1Once_c hl m297 3 (by decide) (by decide)).mono ?_
      rintro _ h298 ⟨y298, rfl, m298⟩
      try simp only [go_sem, Nat.reduceBEq]
      cases y298 with
      | false =>
        try simp only [go_sem, Nat.reduceBEq]
        refine (l1Below_c hl m298 5 (by decide) (by decide)).mono ?_
        rintro _ h299 ⟨n299, rfl, p299, q299, m299⟩
        try simp only [go_sem, Nat.reduceBEq]
        obtain ⟨i, rfl⟩ : ∃ i : Nat, n299 = i := ⟨n299.toNat, by omega⟩
        have w1 : IntKind.i64.wrap (1 + (i : Int)) = ((i + 1 : Nat) : Int) := by rw [IntWalk.i64_in _ (by omega)]; omega
        simp only [w1, go_sem]
        refine aloop (ι := Hp × Nat × List Nd × List Value × Option Addr × Nat) (fun x => [(7, .val (.int .i64 (x.2.1 : Nat))), (3, .box 3 0), (2, .box 2 0), (0, .val (pv p))])
          (fun x => [(3, [.int .i64 56, .int .i64 0, .string ⟨#[]⟩, .slice x.2.2.2.2.1 x.2.2.1.length x.2.2.2.2.2]), (2, [.int .i64 0, .int .i64 0, .string ⟨#[]⟩, .slice none 0 0])])
          (fun x h' => x.2.2.1.length + x.2.1 ≤ 20 ∧ Ext h0 x.1 ∧ Nd.bulks x.2.2.1 + x.2.1 * 6343 ≤ 199000 ∧ RdL x.1 (x.2.2.1.flatMap Nd.dt) x.2.2.2.1 ∧ CurM x.1 h' l p ((.row 4 (x.2.2.2.1.map .raw), .slice x.2.2.2.2.1 x.2.2.1.length x.2.2.2.2.2) :: bag))
          (fun x => x.2.1) (H296, i + 1, ([] ++ [x295]), u297, a297, c297) ⟨(by show List.length ([] ++ [x295]) + (i + 1) ≤ 20; simp only [List.length_append, List.length_cons, List.length_nil]; omega), (e295.trans e296), (by show Nd.bulks ([] ++ [x295]) + (i + 1) * 6343 ≤ 199000; simp only [Nd.bulks_cons, Nd.bulks_nil, Nd.bulks_app]; omega), r297, m299⟩ (by repeat (first | exact wkF_e | refine wkF_c rfl ?_)) (wkB_c rfl (wkB_c rfl wkB_e)) rfl ?_
        rintro ⟨H, k, es, us, a, c⟩ h3 ⟨hk, e0, hb, hr, m3⟩
        have hk : es.length + k ≤ 20 := hk
        have e0 : Ext h0 H := e0
        have hb : Nd.bulks es + k * 6343 ≤ 199000 := hb
        have hr : RdL H (es.flatMap Nd.dt) us := hr
        have m3 : CurM H h3 l p ((.row 4 (us.map .raw), .slice a es.length c) :: bag) := m3
        try simp only [go_sem, Nat.reduceBEq]
        cases k with
        | zero =>
          simp only [show decide ((0 : Int) < ((0 : Nat) : Int)) = false from rfl, go_sem, Nat.reduceBEq, Nat.reduceAdd, Nat.reduceLeDiff]
          obtain ⟨H4, e4, r4, m4⟩ := cur_fix m3 hr
          exact NodP.base (e0.trans e4) (NodP.mk 56 0 ⟨#[]⟩ r4 rfl (by rw [show (ByteArray.mk #[]).size = 0 from rfl, Nat.zero_add]; exact Nat.le_trans (Nat.le_add_right _ _) hb) m4)
        | succ k =>
        have w2 : IntKind.i64.wrap (((k + 1 : Nat) : Int) - 1) = (k : Nat) := by rw [IntWalk.i64_in _ (by omega)]; omega
        simp only [show decide ((0 : Int) < ((k + 1 : Nat) : Int)) = true from decide_eq_true (by omega), go_sem]
        refine regionD_intro (lb := [104]) (by kernel_rfl) ?_
        try simp only [go_sem, Nat.reduceBEq]
        refine (l15Step_c hl 2 (by decide) 2 (by decide) (by decide) false false m3).mono ?_
        rintro _ h4 ⟨H4, x, a4, c4, rfl, e4, b4, r4, m4⟩
        try simp only [go_sem, Nat.reduceBEq]
        refine cur_nodes [(x, .slice a4 x.kids.length c4)] [x] rfl slT24 rfl rfl rfl (by decide) (by decide) (all1 r4) m4 fun H5 a5 c5 h5 e5 r5 m5 => ?_
        try simp only [go_sem, Nat.reduceBEq]
        refine cur_nadd (es := es) slT24 rfl rfl (by decide) m5 (hr.mono (e4.trans e5)) r5 (by omega) (Nat.le_of_ble_eq_true rfl) fun us6 a6 c6 h6 hr6 m6 => ?_
        simp only [w2, go_sem, Nat.reduceBEq, Nat.reduceAdd, Nat.reduceLeDiff]
        exact Again.intro (H5, k, es ++ [x], us6, a6, c6) (by first | omega | (simp only; omega)) ⟨(by show (es ++ [x]).length + k ≤ 20; rw [List.length_append, List.length_cons, List.length_nil]; omega), e0.trans (e4.trans e5), (by show Nd.bulks (es ++ [x]) + k * 6343 ≤ _; rw [Nd.bulks_app, Nd.bulks_cons, Nd.bulks_nil]; omega), hr6, m6⟩ (by repeat (first | exact wkF_e | refine wkF_c rfl ?_)) (wkB_c rfl (wkB_c rfl wkB_e)) rfl
      | true =>
        try simp only [go_sem]
        refine regionD_intro (lb := [30]) (by kernel_rfl) ?_
        try simp only [go_sem, Nat.reduceBEq]
        refine cur_strs [⟨#[109]⟩, ⟨#[116]⟩, ⟨#[95, 95, 103, 101, 116]⟩, ⟨#[95, 95, 99, 97, 108, 108]⟩] slT47 rfl rfl rfl (by decide) (by decide) m298 fun v301 h301 m301 => ?_
        try simp only [go_sem, Nat.reduceBEq]
        refine (l1Str_c hl m301 (by decide) (by decide)).mono ?_
        rintro _ g301 ⟨s301, t301, rfl, m301⟩
        have z301 := (by decide : ∀ s ∈ ([⟨#[109]⟩, ⟨#[116]⟩, ⟨#[95, 95, 103, 101, 116]⟩, ⟨#[95, 95, 99, 97, 108, 108]⟩] : List ByteArray), s.size ≤ 6) s301 t301
        clear t301
        have m301 := m301.drop
        try simp only [go_sem, Nat.reduceBEq]
        refine (l15Func_c hl 55 0 s301 (by omega) false m301).mono ?_
        rintro _ h302 ⟨H302, x302, a302, c302, rfl, e302, b302, r302, m302⟩
        try simp only [go_sem, Nat.reduceBEq]
        refine cur_nodes [(x302, .slice a302 x302.kids.length c302)] [x302] rfl slT24 rfl rfl rfl (by decide) (by decide) (all1 r302) m302 fun H303 a303 c303 h303 e303 r303 m303 => ?_
        try simp only [go_sem, Nat.reduceBEq]
        refine (l15N_c _ _ _ _ _ _).mono ?_
        rintro _ _ ⟨rfl, rfl⟩
        try simp only [go_sem, Nat.reduceBEq]
        refine cur_nodes [((Nd.mk 51 0 ⟨#[84]⟩ [x302]), .slice a303 1 c303)] [(Nd.mk 51 0 ⟨#[84]⟩ [x302])] rfl slT24 rfl rfl rfl (by decide) (by decide) (all1 r303) m303 fun H304 a304 c304 h304 e304 r304 m304 => ?_
        try simp only [go_sem, Nat.reduceBEq]
        refine cur_nadd (es := ([] ++ [x295])) slT24 rfl rfl (by decide) m304 (((r297.mono e302).mono e303).mono e304) r304 (Nat.le_of_ble_eq_true rfl) (Nat.le_of_ble_eq_true rfl) fun u305 a305 c305 h305 r305 m305 => ?_
        try simp only [go_sem, Nat.reduceBEq, Nat.reduceAdd, Nat.reduceLeDiff]
        refine regionT_intro (lb := [45]) (.two [1, 3] 0 (.two [] 2 (.one [4, 5, 6, 7]) 4 (.one [2, 5, 6, 7])) 4 (.one [0, 2, 5, 6, 7])) (by kernel_rfl) ?_
        simp only [runPlan_two, runPlan_one, plk_c, plk_n, plk_s, List.getElem?_toArray, List.getElem?_cons_succ, List.getElem?_cons_zero, go_sem, Nat.reduceBEq, Nat.reduceAdd, Nat.reduceLeDiff]
        refine bothK_mk ?_ ?_
        · try simp only [go_sem]
          refine (l15N_c _ _ _ _ _ _).mono ?_
          rintro _ _ ⟨rfl, rfl⟩
          try simp only [go_sem]
          refine bothK_mk ?_ ?_
          · try simp only [go_sem, Nat.reduceBEq]
            refine (l1Below_c hl m305 2 (by decide) (by decide)).mono ?_
            rintro _ h308 ⟨n308, rfl, p308, q308, m308⟩
            try simp only [go_sem, Nat.reduceBEq]
            refine cur_nodes [((Nd.mk 1 2 ⟨#[]⟩ []), .slice none 0 0)] [(Nd.mk 1 2 ⟨#[]⟩ [])] rfl slT24 rfl rfl rfl (by decide) (by decide) (all1 (rdn_nil _)) m308 fun H309 a309 c309 h309 e309 r309 m309 => ?_
            try simp only [go_sem, Nat.reduceBEq, Nat.reduceAdd, Nat.reduceLeDiff]
            refine cur_own [((Nd.mk 53 0 ⟨#[84]⟩ []), .slice none 0 0), ((Nd.mk 54 n308 ⟨#[112]⟩ [(Nd.mk 1 2 ⟨#[]⟩ [])]), .slice a309 1 c309)] [(Nd.mk 53 0 ⟨#[84]⟩ []), (Nd.mk 54 n308 ⟨#[112]⟩ [(Nd.mk 1 2 ⟨#[]⟩ [])])] rfl slT24 rfl rfl rfl (by decide) (by decide) (allc ((rdn_nil _).mono e309) (all1 r309)) m309 fun u310 a310 c310 h310 r310 m310 => ?_
            try simp only [go_sem, Nat.reduceBEq]
            refine cur_strs [⟨#[109]⟩, ⟨#[95, 95, 99, 111, 110, 115, 116, 114, 117, 99, 116]⟩, ⟨#[95, 95, 100, 101, 115, 116, 114, 117, 99, 116]⟩] slT47 rfl rfl rfl (by decide) (by decide) m310 fun v311 h311 m311 => ?_
            try simp only [go_sem, Nat.reduceBEq]
            refine (l1Str_c hl m311 (by decide) (by decide)).mono ?_
            rintro _ g311 ⟨s311, t311, rfl, m311⟩
            have z311 := (by decide : ∀ s ∈ ([⟨#[109]⟩, ⟨#[95, 95, 99, 111, 110, 115, 116, 114, 117, 99, 116]⟩, ⟨#[95, 95, 100, 101, 115, 116, 114, 117, 99, 116]⟩] : List ByteArray), s.size ≤ 11) s311 t311
            clear t311
            have m311 := m311.drop
            try simp only [go_sem, Nat.reduceBEq]
            refine (l1Below_c hl m311 2 (by decide) (by decide)).mono ?_
            rintro _ h312 ⟨n312, rfl, p312, q312, m312⟩
            try simp only [go_sem, Nat.reduceBEq]
            refine (l15Func_c hl 55 n312 s311 (by omega) false m312).mono ?_
            rintro _ h313 ⟨H313, x313, a313, c313, rfl, e313, b313, r313, m313⟩
            try simp only [go_sem, Nat.reduceBEq]
            refine cur_nodes [(x313, .slice a313 x313.kids.length c313)] [x313] rfl slT24 rfl rfl rfl (by decide) (by decide) (all1 r313) m313 fun H314 a314 c314 h314 e314 r314 m314 => ?_
            try simp only [go_sem, Nat.reduceBEq]
            refine cur_nadd (es := [(Nd.mk 53 0 ⟨#[84]⟩ []), (Nd.mk 54 n308 ⟨#[112]⟩ [(Nd.mk 1 2 ⟨#[]⟩ [])])]) slT24 rfl rfl (by decide) m314 ((r310.mono e313).mono e314) r314 (Nat.le_of_ble_eq_true rfl) (Nat.le_of_ble_eq_true rfl) fun u315 a315 c315 h315 r315 m315 => ?_
            try simp only [go_sem, Nat.reduceBEq, Nat.reduceAdd]
            refine (l15Func_c hl 55 2 ⟨#[115]⟩ (by decide) false m315).mono ?_
            rintro _ h316 ⟨H316, x316, a316, c316, rfl, e316, b316, r316, m316⟩
            try simp only [go_sem, Nat.reduceBEq]
            refine cur_nodes [(x316, .slice a316 x316.kids.length c316)] [x316] rfl slT24 rfl rfl rfl (by decide) (by decide) (all1 r316) m316 fun H317 a317 c317 h317 e317 r317 m317 => ?_
            try simp only [go_sem, Nat.reduceBEq]
            refine cur_nadd (es := ([(Nd.mk 53 0 ⟨#[84]⟩ []), (Nd.mk 54 n308 ⟨#[112]⟩ [(Nd.mk 1 2 ⟨#[]⟩ [])])] ++ [x313])) slT24 rfl rfl (by decide) m317 ((r315.mono e316).mono e317) r317 (Nat.le_of_ble_eq_true rfl) (Nat.le_of_ble_eq_true rfl) fun u318 a318 c318 h318 r318 m318 => ?_
            try simp only [go_sem, Nat.reduceBEq, Nat.reduceAdd]
            refine regionD_intro (lb := [65]) (by kernel_rfl) ?_
            try simp only [go_sem, Nat.reduceBEq]
            obtain ⟨H319, e319, r319, m319⟩ := cur_fix m318 r318
            refine (l15N_c _ _ _ _ _ _).mono ?_
            rintro _ _ ⟨rfl, rfl⟩
            try simp only [go_sem, Nat.reduceBEq]
            refine cur_nodes [((Nd.mk 50 0 ⟨#[65]⟩ (([(Nd.mk 53 0 ⟨#[84]⟩ []), (Nd.mk 54 n308 ⟨#[112]⟩ [(Nd.mk 1 2 ⟨#[]⟩ [])])] ++ [x313]) ++ [x316])), .slice a318 (([(Nd.mk 53 0 ⟨#[84]⟩ []), (Nd.mk 54 n308 ⟨#[112]⟩ [(Nd.mk 1 2 ⟨#[]⟩ [])])] ++ [x313]) ++ [x316]).length c318)] [(Nd.mk 50 0 ⟨#[65]⟩ (([(Nd.mk 53 0 ⟨#[84]⟩ []), (Nd.mk 54 n308 ⟨#[112]⟩ [(Nd.mk 1 2 ⟨#[]⟩ [])])] ++ [x313]) ++ [x316]))] rfl slT24 rfl rfl rfl (by decide) (by decide) (all1 r319) m319 fun H320 a320 c320 h320 e320 r320 m320 => ?_
            try simp only [go_sem, Nat.reduceBEq]
            refine cur_nadd (es := (([] ++ [x295]) ++ [(Nd.mk 51 0 ⟨#[84]⟩ [x302])])) slT24 rfl rfl (by decide) m320 (((((((r305.mono e309).mono e313).mono e314).mono e316).mono e317).mono e319).mono e320) r320 (Nat.le_of_ble_eq_true rfl) (Nat.le_of_ble_eq_true rfl) fun u321 a321 c321 h321 r321 m321 => ?_
            try simp only [go_sem, Nat.reduceBEq, Nat.reduceAdd, Nat.reduceLeDiff]
            refine regionD_intro (lb := [72]) (by kernel_rfl) ?_
            try simp only [go_sem, Nat.reduceBEq]
            refine (l15N_c _ _ _ _ _ _).mono ?_
            rintro _ _ ⟨rfl, rfl⟩
            try simp only [go_sem, Nat.reduceBEq]
            refine (l15Func_c hl 55 0 ⟨#[109]⟩ (by decide) false m321).mono ?_
            rintro _ h323 ⟨H323, x323, a323, c323, rfl, e323, b323, r323, m323⟩
            try simp only [go_sem, Nat.reduceBEq]
            refine cur_nodes [((Nd.mk 52 0 ⟨#[65]⟩ []), .slice none 0 0), (x323, .slice a323 x323.kids.length c323)] [(Nd.mk 52 0 ⟨#[65]⟩ []), x323] rfl slT24 rfl rfl rfl (by decide) (by decide) (allc ((rdn_nil _).mono e323) (all1 r323)) m323 fun H324 a324 c324 h324 e324 r324 m324 => ?_
            try simp only [go_sem, Nat.reduceBEq]
            refine (l15N_c _ _ _ _ _ _).mono ?_
            rintro _ _ ⟨rfl, rfl⟩
            try simp only [go_sem, Nat.reduceBEq]
            refine cur_nodes [((Nd.mk 50 0 ⟨#[66]⟩ [(Nd.mk 52 0 ⟨#[65]⟩ []), x323]), .slice a324 2 c324)] [(Nd.mk 50 0 ⟨#[66]⟩ [(Nd.mk 52 0 ⟨#[65]⟩ []), x323])] rfl slT24 rfl rfl rfl (by decide) (by decide) (all1 r324) m324 fun H325 a325 c325 h325 e325 r325 m325 => ?_
            try simp only [go_sem, Nat.reduceBEq]
            refine cur_nadd (es := ((([] ++ [x295]) ++ [(Nd.mk 51 0 ⟨#[84]⟩ [x302])]) ++ [(Nd.mk 50 0 ⟨#[65]⟩ (([(Nd.mk 53 0 ⟨#[84]⟩ []), (Nd.mk 54 n308 ⟨#[112]⟩ [(Nd.mk 1 2 ⟨#[]⟩ [])])] ++ [x313]) ++ [x316]))])) slT24 rfl rfl (by decide) m325 (((r321.mono e323).mono e324).mono e325) r325 (Nat.le_of_ble_eq_true rfl) (Nat.le_of_ble_eq_true rfl) fun u326 a326 c326 h326 r326 m326 => ?_
            try simp only [go_sem, Nat.reduceBEq, Nat.reduceAdd, Nat.reduceLeDiff]
            refine (l15N_c _ _ _ _ _ _).mono ?_
            rintro _ _ ⟨rfl, rfl⟩
            try simp only [go_sem, Nat.reduceBEq, Nat.reduceAdd, Nat.reduceLeDiff]
            refine regionD_intro (lb := [83, 84]) (by kernel_rfl) ?_
            try simp only [go_sem, Nat.reduceBEq, Nat.reduceAdd, Nat.reduceLeDiff]
            refine cur_strs [⟨#[65]⟩, ⟨#[66]⟩] slT47 rfl rfl rfl (by decide) (by decide) m326 fun v328 h328 m328 => ?_
            try simp only [go_sem, Nat.reduceBEq]
            refine (l1Str_c hl m328 (by decide) (by decide)).mono ?_
            rintro _ g328 ⟨s328, t328, rfl, m328⟩
            have z328 := (by decide : ∀ s ∈ ([⟨#[65]⟩, ⟨#[66]⟩] : List ByteArray), s.size ≤ 1) s328 t328
            clear t328
            have m328 := m328.drop
            try simp only [go_sem, Nat.reduceBEq]
            refine (l15N_c _ _ _ _ _ _).mono ?_
            rintro _ _ ⟨rfl, rfl⟩
            try simp only [go_sem, Nat.reduceBEq]
            refine cur_nodes [((Nd.mk 4 0 ⟨#[111]⟩ []), .slice none 0 0), ((Nd.mk 22 0 s328 []), .slice none 0 0)] [(Nd.mk 4 0 ⟨#[111]⟩ []), (Nd.mk 22 0 s328 [])] rfl slT24 rfl rfl rfl (by decide) (by decide) (allc (rdn_nil _) (all1 (rdn_nil _))) m328 fun H330 a330 c330 h330 e330 r330 m330 => ?_
            try simp only [go_sem, Nat.reduceBEq]
            refine (l15N_c _ _ _ _ _ _).mono ?_
            rintro _ _ ⟨rfl, rfl⟩
            try simp only [go_sem, Nat.reduceBEq]
            refine cur_nodes [((Nd.mk 15 0 ⟨#[]⟩ [(Nd.mk 4 0 ⟨#[111]⟩ []), (Nd.mk 22 0 s328 [])]), .slice a330 2 c330)] [(Nd.mk 15 0 ⟨#[]⟩ [(Nd.mk 4 0 ⟨#[111]⟩ []), (Nd.mk 22 0 s328 [])])] rfl slT24 rfl rfl rfl (by decide) (by decide) (all1 r330) m330 fun H331 a331 c331 h331 e331 r331 m331 => ?_
            try simp only [go_sem, Nat.reduceBEq]
            refine (l15N_c _ _ _ _ _ _).mono ?_
            rintro _ _ ⟨rfl, rfl⟩
            try simp only [go_sem, Nat.reduceBEq]
            refine cur_nodes [((Nd.mk 33 0 ⟨#[]⟩ [(Nd.mk 15 0 ⟨#[]⟩ [(Nd.mk 4 0 ⟨#[111]⟩ []), (Nd.mk 22 0 s328 [])])]), .slice a331 1 c331)] [(Nd.mk 33 0 ⟨#[]⟩ [(Nd.mk 15 0 ⟨#[]⟩ [(Nd.mk 4 0 ⟨#[111]⟩ []), (Nd.mk 22 0 s328 [])])])] rfl slT24 rfl rfl rfl (by decide) (by decide) (all1 r331) m331 fun H332 a332 c332 h332 e332 r332 m332 => ?_
            try simp only [go_sem, Nat.reduceBEq]
            refine cur_nadd (es := (((([] ++ [x295]) ++ [(Nd.mk 51 0 ⟨#[84]⟩ [x302])]) ++ [(Nd.mk 50 0 ⟨#[65]⟩ (([(Nd.mk 53 0 ⟨#[84]⟩ []), (Nd.mk 54 n308 ⟨#[112]⟩ [(Nd.mk 1 2 ⟨#[]⟩ [])])] ++ [x313]) ++ [x316]))]) ++ [(Nd.mk 50 0 ⟨#[66]⟩ [(Nd.mk 52 0 ⟨#[65]⟩ []), x323])])) slT24 rfl rfl (by decide) m332 (((r326.mono e330).mono e331).mono e332) r332 (Nat.le_of_ble_eq_true rfl) (Nat.le_of_ble_eq_true rfl) fun u333 a333 c333 h333 r333 m333 => ?_
            try simp only [go_sem, Nat.reduceBEq, Nat.reduceAdd, Nat.reduceLeDiff]
            refine (l1Below_c hl m333 5 (by decide) (by decide)).mono ?_
            rintro _ h334 ⟨n334, rfl, p334, q334, m334⟩
            try simp only [go_sem, Nat.reduceBEq]
            obtain ⟨i, rfl⟩ : ∃ i : Nat, n334 = i := ⟨n334.toNat, by omega⟩
            have w1 : IntKind.i64.wrap (1 + (i : Int)) = ((i + 1 : Nat) : Int) := by rw [IntWalk.i64_in _ (by omega)]; omega
            simp only [w1, go_sem]
            refine aloop (ι := Hp × Nat × List Nd × List Value × Option Addr × Nat) (fun x => [(7, .val (.int .i64 (x.2.1 : Nat))), (3, .box 3 0), (2, .box 2 0), (0, .val (pv p))])
              (fun x => [(3, [.int .i64 56, .int .i64 0, .string ⟨#[]⟩, .slice x.2.2.2.2.1 x.2.2.1.length x.2.2.2.2.2]), (2, [.int .i64 0, .int .i64 0, .string ⟨#[]⟩, .slice none 0 0])])
              (fun x h' => x.2.2.1.length + x.2.1 ≤ 20 ∧ Ext h0 x.1 ∧ Nd.bulks x.2.2.1 + x.2.1 * 6343 ≤ 199000 ∧ RdL x.1 (x.2.2.1.flatMap Nd.dt) x.2.2.2.1 ∧ CurM x.1 h' l p ((.row 4 (x.2.2.2.1.map .raw), .slice x.2.2.2.2.1 x.2.2.1.length x.2.2.2.2.2) :: bag))
              (fun x => x.2.1) (H332, i + 1, ((((([] ++ [x295]) ++ [(Nd.mk 51 0 ⟨#[84]⟩ [x302])]) ++ [(Nd.mk 50 0 ⟨#[65]⟩ (([(Nd.mk 53 0 ⟨#[84]⟩ []), (Nd.mk 54 n308 ⟨#[112]⟩ [(Nd.mk 1 2 ⟨#[]⟩ [])])] ++ [x313]) ++ [x316]))]) ++ [(Nd.mk 50 0 ⟨#[66]⟩ [(Nd.mk 52 0 ⟨#[65]⟩ []), x323])]) ++ [(Nd.mk 33 0 ⟨#[]⟩ [(Nd.mk 15 0 ⟨#[]⟩ [(Nd.mk 4 0 ⟨#[111]⟩ []), (Nd.mk 22 0 s328 [])])])]), u333, a333, c333) ⟨(by show List.length ((((([] ++ [x295]) ++ [(Nd.mk 51 0 ⟨#[84]⟩ [x302])]) ++ [(Nd.mk 50 0 ⟨#[65]⟩ (([(Nd.mk 53 0 ⟨#[84]⟩ []), (Nd.mk 54 n308 ⟨#[112]⟩ [(Nd.mk 1 2 ⟨#[]⟩ [])])] ++ [x313]) ++ [x316]))]) ++ [(Nd.mk 50 0 ⟨#[66]⟩ [(Nd.mk 52 0 ⟨#[65]⟩ []), x323])]) ++ [(Nd.mk 33 0 ⟨#[]⟩ [(Nd.mk 15 0 ⟨#[]⟩ [(Nd.mk 4 0 ⟨#[111]⟩ []), (Nd.mk 22 0 s328 [])])])]) + (i + 1) ≤ 20; simp only [List.length_append, List.length_cons, List.length_nil]; omega), (((((((((((((((((e295.trans e296).trans e302).trans e303).trans e304).trans e309).trans e313).trans e314).trans e316).trans e317).trans e319).trans e320).trans e323).trans e324).trans e325).trans e330).trans e331).trans e332), (by show Nd.bulks ((((([] ++ [x295]) ++ [(Nd.mk 51 0 ⟨#[84]⟩ [x302])]) ++ [(Nd.mk 50 0 ⟨#[65]⟩ (([(Nd.mk 53 0 ⟨#[84]⟩ []), (Nd.mk 54 n308 ⟨#[112]⟩ [(Nd.mk 1 2 ⟨#[]⟩ [])])] ++ [x313]) ++ [x316]))]) ++ [(Nd.mk 50 0 ⟨#[66]⟩ [(Nd.mk 52 0 ⟨#[65]⟩ []), x323])]) ++ [(Nd.mk 33 0 ⟨#[]⟩ [(Nd.mk 15 0 ⟨#[]⟩ [(Nd.mk 4 0 ⟨#[111]⟩ []), (Nd.mk 22 0 s328 [])])])]) + (i + 1) * 6343 ≤ 199000; simp only [bsz, Nd.bulk_mk, Nd.bulks_cons, Nd.bulks_nil, Nd.bulks_app, List.size_toArray, List.length_cons, List.length_nil]; omega), r333, m334⟩ (by repeat (first | exact wkF_e | refine wkF_c rfl ?_)) (wkB_c rfl (wkB_c rfl wkB_e)) rfl ?_
            rintro ⟨H, k, es, us, a, c⟩ h3 ⟨hk, e0, hb, hr, m3⟩
            have hk : es.length + k ≤ 20 := hk
            have e0 : Ext h0 H := e0
            have hb : Nd.bulks es + k * 6343 ≤ 199000 := hb
            have hr : RdL H (es.flatMap Nd.dt) us := hr
            have m3 : CurM H h3 l p ((.row 4 (us.map .raw), .slice a es.length c) :: bag) := m3
            try simp only [go_sem, Nat.reduceBEq]
            cases k with
            | zero =>
              simp only [show decide ((0 : Int) < ((0 : Nat) : Int)) = false from rfl, go_sem, Nat.reduceBEq, Nat.reduceAdd, Nat.reduceLeDiff]
              obtain ⟨H4, e4, r4, m4⟩ := cur_fix m3 hr
              exact NodP.base (e0.trans e4) (NodP.mk 56 0 ⟨#[]⟩ r4 rfl (by rw [show (ByteArray.mk #[]).size = 0 from rfl, Nat.zero_add]; exact Nat.le_trans (Nat.le_add_right _ _) hb) m4)
            | succ k =>
            have w2 : IntKind.i64.wrap (((k + 1 : Nat) : Int) - 1) = (k : Nat) := by rw [IntWalk.i64_in _ (by omega)]; omega
            simp only [show decide ((0 : Int) < ((k + 1 : Nat) : Int)) = true from decide_eq_true (by omega), go_sem]
            refine regionD_intro (lb := [104]) (by kernel_rfl) ?_
            try simp only [go_sem, Nat.reduceBEq]
            refine (l15Step_c hl 2 (by decide) 2 (by decide) (by decide) false false m3).mono ?_
            rintro _ h4 ⟨H4, x, a4, c4, rfl, e4, b4, r4, m4⟩
            try simp only [go_sem, Nat.reduceBEq]
            refine cur_nodes [(x, .slice a4 x.kids.length c4)] [x] rfl slT24 rfl rfl rfl (by decide) (by decide) (all1 r4) m4 fun H5 a5 c5 h5 e5 r5 m5 => ?_
            try simp only [go_sem, Nat.reduceBEq]
            refine cur_nadd (es := es) slT24 rfl rfl (by decide) m5 (hr.mono (e4.trans e5)) r5 (by omega) (Nat.le_of_ble_eq_true rfl) fun us6 a6 c6 h6 hr6 m6 => ?_
            simp only [w2, go_sem, Nat.reduceBEq, Nat.reduceAdd, Nat.reduceLeDiff]
            exact Again.intro (H5, k, es ++ [x], us6, a6, c6) (by first | omega | (simp only; omega)) ⟨(by show (es ++ [x]).length + k ≤ 20; rw [List.length_append, List.length_cons, List.length_nil]; omega), e0.trans (e4.trans e5), (by show Nd.bulks (es ++ [x]) + k * 6343 ≤ _; rw [Nd.bulks_app, Nd.bulks_cons, Nd.bulks_nil]; omega), hr6, m6⟩ (by repeat (first | exact wkF_e | refine wkF_c rfl ?_)) (wkB_c rfl (wkB_c rfl wkB_e)) rfl
          · try simp only [go_sem, Nat.reduceBEq]
            refine cur_nodes [((Nd.mk 1 2 ⟨#[]⟩ []), .slice none 0 0)] [(Nd.mk 1 2 ⟨#[]⟩ [])] rfl slT24 rfl rfl rfl (by decide) (by decide) (all1 (rdn_nil _)) m305 fun H336 a336 c336 h336 e336 r336 m336 => ?_
            try simp only [go_sem, Nat.reduceBEq]
            refine (l1Below_c hl m336 2 (by decide) (by decide)).mono ?_
            rintro _ h337 ⟨n337, rfl, p337, q337, m337⟩
            try simp only [go_sem, Nat.reduceBEq, Nat.reduceAdd, Nat.reduceLeDiff]
            refine cur_own [((Nd.mk 53 0 ⟨#[84]⟩ []), .slice none 0 0), ((Nd.mk 54 n337 ⟨#[112]⟩ [(Nd.mk 1 2 ⟨#[]⟩ [])]), .slice a336 1 c336)] [(Nd.mk 53 0 ⟨#[84]⟩ []), (Nd.mk 54 n337 ⟨#[112]⟩ [(Nd.mk 1 2 ⟨#[]⟩ [])])] rfl slT24 rfl rfl rfl (by decide) (by decide) (allc ((rdn_nil _).mono e336) (all1 r336)) m337 fun u338 a338 c338 h338 r338 m338 => ?_
            try simp only [go_sem, Nat.reduceBEq]
            refine cur_strs [⟨#[109]⟩, ⟨#[95, 95, 99, 111, 110, 115, 116, 114, 117, 99, 116]⟩, ⟨#[95, 95, 100, 101, 115, 116, 114, 117, 99, 116]⟩] slT47 rfl rfl rfl (by decide) (by decide) m338 fun v339 h339 m339 => ?_
            try simp only [go_sem, Nat.reduceBEq]
            refine (l1Str_c hl m339 (by decide) (by decide)).mono ?_
            rintro _ g339 ⟨s339, t339, rfl, m339⟩
            have z339 := (by decide : ∀ s ∈ ([⟨#[109]⟩, ⟨#[95, 95, 99, 111, 110, 115, 116, 114, 117, 99, 116]⟩, ⟨#[95, 95, 100, 101, 115, 116, 114, 117, 99, 116]⟩] : List ByteArray), s.size ≤ 11) s339 t339
            clear t339
            have m339 := m339.drop
            try simp only [go_sem, Nat.reduceBEq]
            refine (l1Below_c hl m339 2 (by decide) (by decide)).mono ?_
            rintro _ h340 ⟨n340, rfl, p340, q340, m340⟩
            try simp only [go_sem, Nat.reduceBEq]
            refine (l15Func_c hl 55 n340 s339 (by omega) false m340).mono ?_
            rintro _ h341 ⟨H341, x341, a341, c341, rfl, e341, b341, r341, m341⟩
            try simp only [go_sem, Nat.reduceBEq]
            refine cur_nodes [(x341, .slice a341 x341.kids.length c341)] [x341] rfl slT24 rfl rfl rfl (by decide) (by decide) (all1 r341) m341 fun H342 a342 c342 h342 e342 r342 m342 => ?_
            try simp only [go_sem, Nat.reduceBEq]
            refine cur_nadd (es := [(Nd.mk 53 0 ⟨#[84]⟩ []), (Nd.mk 54 n337 ⟨#[112]⟩ [(Nd.mk 1 2 ⟨#[]⟩ [])])]) slT24 rfl rfl (by decide) m342 ((r338.mono e341).mono e342) r342 (Nat.le_of_ble_eq_true rfl) (Nat.le_of_ble_eq_true rfl) fun u343 a343 c343 h343 r343 m343 => ?_
            try simp only [go_sem, Nat.reduceBEq, Nat.reduceAdd]
            refine (l15Func_c hl 55 2 ⟨#[115]⟩ (by decide) false m343).mono ?_
            rintro _ h344 ⟨H344, x344, a344, c344, rfl, e344, b344, r344, m344⟩
            try simp only [go_sem, Nat.reduceBEq]
            refine cur_nodes [(x344, .slice a344 x344.kids.length c344)] [x344] rfl slT24 rfl rfl rfl (by decide) (by decide) (all1 r344) m344 fun H345 a345 c345 h345 e345 r345 m345 => ?_
            try simp only [go_sem, Nat.reduceBEq]
            refine cur_nadd (es := ([(Nd.mk 53 0 ⟨#[84]⟩ []), (Nd.mk 54 n337 ⟨#[112]⟩ [(Nd.mk 1 2 ⟨#[]⟩ [])])] ++ [x341])) slT24 rfl rfl (by decide) m345 ((r343.mono e344).mono e345) r345 (Nat.le_of_ble_eq_true rfl) (Nat.le_of_ble_eq_true rfl) fun u346 a346 c346 h346 r346 m346 => ?_
            try simp only [go_sem, Nat.reduceBEq, Nat.reduceAdd]
            refine regionD_intro (lb := [65]) (by kernel_rfl) ?_
            try simp only [go_sem, Nat.reduceBEq]
            obtain ⟨H347, e347, r347, m347⟩ := cur_fix m346 r346
            refine (l15N_c _ _ _ _ _ _).mono ?_
            rintro _ _ ⟨rfl, rfl⟩
            try simp only [go_sem, Nat.reduceBEq]
            refine cur_nodes [((Nd.mk 50 0 ⟨#[65]⟩ (([(Nd.mk 53 0 ⟨#[84]⟩ []), (Nd.mk 54 n337 ⟨#[112]⟩ [(Nd.mk 1 2 ⟨#[]⟩ [])])] ++ [x341]) ++ [x344])), .slice a346 (([(Nd.mk 53 0 ⟨#[84]⟩ []), (Nd.mk 54 n337 ⟨#[112]⟩ [(Nd.mk 1 2 ⟨#[]⟩ [])])] ++ [x341]) ++ [x344]).length c346)] [(Nd.mk 50 0 ⟨#[65]⟩ (([(Nd.mk 53 0 ⟨#[84]⟩ []), (Nd.mk 54 n337 ⟨#[112]⟩ [(Nd.mk 1 2 ⟨#[]⟩ [])])] ++ [x341]) ++ [x344]))] rfl slT24 rfl rfl rfl (by decide) (by decide) (all1 r347) m347 fun H348 a348 c348 h348 e348 r348 m348 => ?_
            try simp only [go_sem, Nat.reduceBEq]
            refine cur_nadd (es := (([] ++ [x295]) ++ [(Nd.mk 51 0 ⟨#[84]⟩ [x302])])) slT24 rfl rfl (by decide) m348 (((((((r305.mono e336).mono e341).mono e342).mono e344).mono e345).mono e347).mono e348) r348 (Nat.le_of_ble_eq_true rfl) (Nat.le_of_ble_eq_true rfl) fun u349 a349 c349 h349 r349 m349 => ?_
            try simp only [go_sem, Nat.reduceBEq, Nat.reduceAdd, Nat.reduceLeDiff]
            refine regionD_intro (lb := [72]) (by kernel_rfl) ?_
            try simp only [go_sem, Nat.reduceBEq]
            refine (l15N_c _ _ _ _ _ _).mono ?_
            rintro _ _ ⟨rfl, rfl⟩
            try simp only [go_sem, Nat.reduceBEq]
            refine (l15Func_c hl 55 0 ⟨#[109]⟩ (by decide) false m349).mono ?_
            rintro _ h351 ⟨H351, x351, a351, c351, rfl, e351, b351, r351, m351⟩
            try simp only [go_sem, Nat.reduceBEq]
            refine cur_nodes [((Nd.mk 52 0 ⟨#[65]⟩ []), .slice none 0 0), (x351, .slice a351 x351.kids.length c351)] [(Nd.mk 52 0 ⟨#[65]⟩ []), x351] rfl slT24 rfl rfl rfl (by decide) (by decide) (allc ((rdn_nil _).mono e351) (all1 r351)) m351 fun H352 a352 c352 h352 e352 r352 m352 => ?_
            try simp only [go_sem, Nat.reduceBEq]
            refine (l15N_c _ _ _ _ _ _).mono ?_
            rintro _ _ ⟨rfl, rfl⟩
            try simp only [go_sem, Nat.reduceBEq]
            refine cur_nodes [((Nd.mk 50 0 ⟨#[66]⟩ [(Nd.mk 52 0 ⟨#[65]⟩ []), x351]), .slice a352 2 c352)] [(Nd.mk 50 0 ⟨#[66]⟩ [(Nd.mk 52 0 ⟨#[65]⟩ []), x351])] rfl slT24 rfl rfl rfl (by decide) (by decide) (all1 r352) m352 fun H353 a353 c353 h353 e353 r353 m353 => ?_
            try simp only [go_sem, Nat.reduceBEq]
            refine cur_nadd (es := ((([] ++ [x295]) ++ [(Nd.mk 51 0 ⟨#[84]⟩ [x302])]) ++ [(Nd.mk 50 0 ⟨#[65]⟩ (([(Nd.mk 53 0 ⟨#[84]⟩ []), (Nd.mk 54 n337 ⟨#[112]⟩ [(Nd.mk 1 2 ⟨#[]⟩ [])])] ++ [x341]) ++ [x344]))])) slT24 rfl rfl (by decide) m353 (((r349.mono e351).mono e352).mono e353) r353 (Nat.le_of_ble_eq_true rfl) (Nat.le_of_ble_eq_true rfl) fun u354 a354 c354 h354 r354 m354 => ?_
            try simp only [go_sem, Nat.reduceBEq, Nat.reduceAdd, Nat.reduceLeDiff]
            refine (l15N_c _ _ _ _ _ _).mono ?_
            rintro _ _ ⟨rfl, rfl⟩
            try simp only [go_sem, Nat.reduceBEq, Nat.reduceAdd, Nat.reduceLeDiff]
            refine regionD_intro (lb := [83, 84]) (by kernel_rfl) ?_
            try simp only [go_sem, Nat.reduceBEq, Nat.reduceAdd, Nat.reduceLeDiff]
            refine cur_strs [⟨#[65]⟩, ⟨#[66]⟩] slT47 rfl rfl rfl (by decide) (by decide) m354 fun v356 h356 m356 => ?_
            try simp only [go_sem, Nat.reduceBEq]
            refine (l1Str_c hl m356 (by decide) (by decide)).mono ?_
            rintro _ g356 ⟨s356, t356, rfl, m356⟩
            have z356 := (by decide : ∀ s ∈ ([⟨#[65]⟩, ⟨#[66]⟩] : List ByteArray), s.size ≤ 1) s356 t356
            clear t356
            have m356 := m356.drop
            try simp only [go_sem, Nat.reduceBEq]
            refine (l15N_c _ _ _ _ _ _).mono ?_
            rintro _ _ ⟨rfl, rfl⟩
            try simp only [go_sem, Nat.reduceBEq]
            refine cur_nodes [((Nd.mk 4 0 ⟨#[111]⟩ []), .slice none 0 0), ((Nd.mk 22 0 s356 []), .slice none 0 0)] [(Nd.mk 4 0 ⟨#[111]⟩ []), (Nd.mk 22 0 s356 [])] rfl slT24 rfl rfl rfl (by decide) (by decide) (allc (rdn_nil _) (all1 (rdn_nil _))) m356 fun H358 a358 c358 h358 e358 r358 m358 => ?_
            try simp only [go_sem, Nat.reduceBEq]
            refine (l15N_c _ _ _ _ _ _).mono ?_
            rintro _ _ ⟨rfl, rfl⟩
            try simp only [go_sem, Nat.reduceBEq]
            refine cur_nodes [((Nd.mk 15 0 ⟨#[]⟩ [(Nd.mk 4 0 ⟨#[111]⟩ []), (Nd.mk 22 0 s356 [])]), .slice a358 2 c358)] [(Nd.mk 15 0 ⟨#[]⟩ [(Nd.mk 4 0 ⟨#[111]⟩ []), (Nd.mk 22 0 s356 [])])] rfl slT24 rfl rfl rfl (by decide) (by decide) (all1 r358) m358 fun H359 a359 c359 h359 e359 r359 m359 => ?_
            try simp only [go_sem, Nat.reduceBEq]
            refine (l15N_c _ _ _ _ _ _).mono ?_
            rintro _ _ ⟨rfl, rfl⟩
            try simp only [go_sem, Nat.reduceBEq]
            refine cur_nodes [((Nd.mk 33 0 ⟨#[]⟩ [(Nd.mk 15 0 ⟨#[]⟩ [(Nd.mk 4 0 ⟨#[111]⟩ []), (Nd.mk 22 0 s356 [])])]), .slice a359 1 c359)] [(Nd.mk 33 0 ⟨#[]⟩ [(Nd.mk 15 0 ⟨#[]⟩ [(Nd.mk 4 0 ⟨#[111]⟩ []), (Nd.mk 22 0 s356 [])])])] rfl slT24 rfl rfl rfl (by decide) (by decide) (all1 r359) m359 fun H360 a360 c360 h360 e360 r360 m360 => ?_
            try simp only [go_sem, Nat.reduceBEq]
            refine cur_nadd (es := (((([] ++ [x295]) ++ [(Nd.mk 51 0 ⟨#[84]⟩ [x302])]) ++ [(Nd.mk 50 0 ⟨#[65]⟩ (([(Nd.mk 53 0 ⟨#[84]⟩ []), (Nd.mk 54 n337 ⟨#[112]⟩ [(Nd.mk 1 2 ⟨#[]⟩ [])])] ++ [x341]) ++ [x344]))]) ++ [(Nd.mk 50 0 ⟨#[66]⟩ [(Nd.mk 52 0 ⟨#[65]⟩ []), x351])])) slT24 rfl rfl (by decide) m360 (((r354.mono e358).mono e359).mono e360) r360 (Nat.le_of_ble_eq_true rfl) (Nat.le_of_ble_eq_true rfl) fun u361 a361 c361 h361 r361 m361 => ?_
            try simp only [go_sem, Nat.reduceBEq, Nat.reduceAdd, Nat.reduceLeDiff]
            refine (l1Below_c hl m361 5 (by decide) (by decide)).mono ?_
            rintro _ h362 ⟨n362, rfl, p362, q362, m362⟩
            try simp only [go_sem, Nat.reduceBEq]
            obtain ⟨i, rfl⟩ : ∃ i : Nat, n362 = i := ⟨n362.toNat, by omega⟩
            have w1 : IntKind.i64.wrap (1 + (i : Int)) = ((i + 1 : Nat) : Int) := by rw [IntWalk.i64_in _ (by omega)]; omega
            simp only [w1, go_sem]
            refine aloop (ι := Hp × Nat × List Nd × List Value × Option Addr × Nat) (fun x => [(7, .val (.int .i64 (x.2.1 : Nat))), (3, .box 3 0), (2, .box 2 0), (0, .val (pv p))])
              (fun x => [(3, [.int .i64 56, .int .i64 0, .string ⟨#[]⟩, .slice x.2.2.2.2.1 x.2.2.1.length x.2.2.2.2.2]), (2, [.int .i64 0, .int .i64 0, .string ⟨#[]⟩, .slice none 0 0])])
              (fun x h' => x.2.2.1.length + x.2.1 ≤ 20 ∧ Ext h0 x.1 ∧ Nd.bulks x.2.2.1 + x.2.1 * 6343 ≤ 199000 ∧ RdL x.1 (x.2.2.1.flatMap Nd.dt) x.2.2.2.1 ∧ CurM x.1 h' l p ((.row 4 (x.2.2.2.1.map .raw), .slice x.2.2.2.2.1 x.2.2.1.length x.2.2.2.2.2) :: bag))
              (fun x => x.2.1) (H360, i + 1, ((((([] ++ [x295]) ++ [(Nd.mk 51 0 ⟨#[84]⟩ [x302])]) ++ [(Nd.mk 50 0 ⟨#[65]⟩ (([(Nd.mk 53 0 ⟨#[84]⟩ []), (Nd.mk 54 n337 ⟨#[112]⟩ [(Nd.mk 1 2 ⟨#[]⟩ [])])] ++ [x341]) ++ [x344]))]) ++ [(Nd.mk 50 0 ⟨#[66]⟩ [(Nd.mk 52 0 ⟨#[65]⟩ []), x351])]) ++ [(Nd.mk 33 0 ⟨#[]⟩ [(Nd.mk 15 0 ⟨#[]⟩ [(Nd.mk 4 0 ⟨#[111]⟩ []), (Nd.mk 22 0 s356 [])])])]), u361, a361, c361) ⟨(by show List.length ((((([] ++ [x295]) ++ [(Nd.mk 51 0 ⟨#[84]⟩ [x302])]) ++ [(Nd.mk 50 0 ⟨#[65]⟩ (([(Nd.mk 53 0 ⟨#[84]⟩ []), (Nd.mk 54 n337 ⟨#[112]⟩ [(Nd.mk 1 2 ⟨#[]⟩ [])])] ++ [x341]) ++ [x344]))]) ++ [(Nd.mk 50 0 ⟨#[66]⟩ [(Nd.mk 52 0 ⟨#[65]⟩ []), x351])]) ++ [(Nd.mk 33 0 ⟨#[]⟩ [(Nd.mk 15 0 ⟨#[]⟩ [(Nd.mk 4 0 ⟨#[111]⟩ []), (Nd.mk 22 0 s356 [])])])]) + (i + 1) ≤ 20; simp only [List.length_append, List.length_cons, List.length_nil]; omega), (((((((((((((((((e295.trans e296).trans e302).trans e303).trans e304).trans e336).trans e341).trans e342).trans e344).trans e345).trans e347).trans e348).trans e351).trans e352).trans e353).trans e358).trans e359).trans e360), (by show Nd.bulks ((((([] ++ [x295]) ++ [(Nd.mk 51 0 ⟨#[84]⟩ [x302])]) ++ [(Nd.mk 50 0 ⟨#[65]⟩ (([(Nd.mk 53 0 ⟨#[84]⟩ []), (Nd.mk 54 n337 ⟨#[112]⟩ [(Nd.mk 1 2 ⟨#[]⟩ [])])] ++ [x341]) ++ [x344]))]) ++ [(Nd.mk 50 0 ⟨#[66]⟩ [(Nd.mk 52 0 ⟨#[65]⟩ []), x351])]) ++ [(Nd.mk 33 0 ⟨#[]⟩ [(Nd.mk 15 0 ⟨#[]⟩ [(Nd.mk 4 0 ⟨#[111]⟩ []), (Nd.mk 22 0 s356 [])])])]) + (i + 1) * 6343 ≤ 199000; simp only [bsz, Nd.bulk_mk, Nd.bulks_cons, Nd.bulks_nil, Nd.bulks_app, List.size_toArray, List.length_cons, List.length_nil]; omega), r361, m362⟩ (by repeat (first | exact wkF_e | refine wkF_c rfl ?_)) (wkB_c rfl (wkB_c rfl wkB_e)) rfl ?_
            rintro ⟨H, k, es, us, a, c⟩ h3 ⟨hk, e0, hb, hr, m3⟩
            have hk : es.length + k ≤ 20 := hk
            have e0 : Ext h0 H := e0
            have hb : Nd.bulks es + k * 6343 ≤ 199000 := hb
            have hr : RdL H (es.flatMap Nd.dt) us := hr
            have m3 : CurM H h3 l p ((.row 4 (us.map .raw), .slice a es.length c) :: bag) := m3
            try simp only [go_sem, Nat.reduceBEq]
            cases k with
            | zero =>
              simp only [show decide ((0 : Int) < ((0 : Nat) : Int)) = false from rfl, go_sem, Nat.reduceBEq, Nat.reduceAdd, Nat.reduceLeDiff]
              obtain ⟨H4, e4, r4, m4⟩ := cur_fix m3 hr
              exact NodP.base (e0.trans e4) (NodP.mk 56 0 ⟨#[]⟩ r4 rfl (by rw [show (ByteArray.mk #[]).size = 0 from rfl, Nat.zero_add]; exact Nat.le_trans (Nat.le_add_right _ _) hb) m4)
            | succ k =>
            have w2 : IntKind.i64.wrap (((k + 1 : Nat) : Int) - 1) = (k : Nat) := by rw [IntWalk.i64_in _ (by omega)]; omega
            simp only [show decide ((0 : Int) < ((k + 1 : Nat) : Int)) = true from decide_eq_true (by omega), go_sem]
            refine regionD_intro (lb := [104]) (by kernel_rfl) ?_
            try simp only [go_sem, Nat.reduceBEq]
            refine (l15Step_c hl 2 (by decide) 2 (by decide) (by decide) false false m3).mono ?_
            rintro _ h4 ⟨H4, x, a4, c4, rfl, e4, b4, r4, m4⟩
            try simp only [go_sem, Nat.reduceBEq]
            refine cur_nodes [(x, .slice a4 x.kids.length c4)] [x] rfl slT24 rfl rfl rfl (by decide) (by decide) (all1 r4) m4 fun H5 a5 c5 h5 e5 r5 m5 => ?_
            try simp only [go_sem, Nat.reduceBEq]
            refine cur_nadd (es := es) slT24 rfl rfl (by decide) m5 (hr.mono (e4.trans e5)) r5 (by omega) (Nat.le_of_ble_eq_true rfl) fun us6 a6 c6 h6 hr6 m6 => ?_
            simp only [w2, go_sem, Nat.reduceBEq, Nat.reduceAdd, Nat.reduceLeDiff]
            exact Again.intro (H5, k, es ++ [x], us6, a6, c6) (by first | omega | (simp only; omega)) ⟨(by show (es ++ [x]).length + k ≤ 20; rw [List.length_append, List.length_cons, List.length_nil]; omega), e0.trans (e4.trans e5), (by show Nd.bulks (es ++ [x]) + k * 6343 ≤ _; rw [Nd.bulks_app, Nd.bulks_cons, Nd.bulks_nil]; omega), hr6, m6⟩ (by repeat (first | exact wkF_e | refine wkF_c rfl ?_)) (wkB_c rfl (wkB_c rfl wkB_e)) rfl
        · try simp only [go_sem, Nat.reduceBEq]
          refine cur_nodes [((Nd.mk 1 2 ⟨#[]⟩ []), .slice none 0 0)] [(Nd.mk 1 2 ⟨#[]⟩ [])] rfl slT24 rfl rfl rfl (by decide) (by decide) (all1 (rdn_nil _)) m305 fun H364 a364 c364 h364 e364 r364 m364 => ?_
          try simp only [go_sem]
          refine (l15N_c _ _ _ _ _ _).mono ?_
          rintro _ _ ⟨rfl, rfl⟩
          try simp only [go_sem, Nat.reduceBEq]
          refine (l1Below_c hl m364 2 (by decide) (by decide)).mono ?_
          rintro _ h366 ⟨n366, rfl, p366, q366, m366⟩
          try simp only [go_sem, Nat.reduceBEq, Nat.reduceAdd, Nat.reduceLeDiff]
          refine cur_own [((Nd.mk 53 0 ⟨#[84]⟩ []), .slice none 0 0), ((Nd.mk 54 n366 ⟨#[112]⟩ [(Nd.mk 1 2 ⟨#[]⟩ [])]), .slice a364 1 c364)] [(Nd.mk 53 0 ⟨#[84]⟩ []), (Nd.mk 54 n366 ⟨#[112]⟩ [(Nd.mk 1 2 ⟨#[]⟩ [])])] rfl slT24 rfl rfl rfl (by decide) (by decide) (allc (rdn_nil _) (all1 r364)) m366 fun u367 a367 c367 h367 r367 m367 => ?_
          try simp only [go_sem, Nat.reduceBEq]
          refine cur_strs [⟨#[109]⟩, ⟨#[95, 95, 99, 111, 110, 115, 116, 114, 117, 99, 116]⟩, ⟨#[95, 95, 100, 101, 115, 116, 114, 117, 99, 116]⟩] slT47 rfl rfl rfl (by decide) (by decide) m367 fun v368 h368 m368 => ?_
          try simp only [go_sem, Nat.reduceBEq]
          refine (l1Str_c hl m368 (by decide) (by decide)).mono ?_
          rintro _ g368 ⟨s368, t368, rfl, m368⟩
          have z368 := (by decide : ∀ s ∈ ([⟨#[109]⟩, ⟨#[95, 95, 99, 111, 110, 115, 116, 114, 117, 99, 116]⟩, ⟨#[95, 95, 100, 101, 115, 116, 114, 117, 99, 116]⟩] : List ByteArray), s.size ≤ 11) s368 t368
          clear t368
          have m368 := m368.drop
          try simp only [go_sem, Nat.reduceBEq]
          refine (l1Below_c hl m368 2 (by decide) (by decide)).mono ?_
          rintro _ h369 ⟨n369, rfl, p369, q369, m369⟩
          try simp only [go_sem, Nat.reduceBEq]
          refine (l15Func_c hl 55 n369 s368 (by omega) false m369).mono ?_
          rintro _ h370 ⟨H370, x370, a370, c370, rfl, e370, b370, r370, m370⟩
          try simp only [go_sem, Nat.reduceBEq]
          refine cur_nodes [(x370, .slice a370 x370.kids.length c370)] [x370] rfl slT24 rfl rfl rfl (by decide) (by decide) (all1 r370) m370 fun H371 a371 c371 h371 e371 r371 m371 => ?_
          try simp only [go_sem, Nat.reduceBEq]
          refine cur_nadd (es := [(Nd.mk 53 0 ⟨#[84]⟩ []), (Nd.mk 54 n366 ⟨#[112]⟩ [(Nd.mk 1 2 ⟨#[]⟩ [])])]) slT24 rfl rfl (by decide) m371 ((r367.mono e370).mono e371) r371 (Nat.le_of_ble_eq_true rfl) (Nat.le_of_ble_eq_true rfl) fun u372 a372 c372 h372 r372 m372 => ?_
          try simp only [go_sem, Nat.reduceBEq, Nat.reduceAdd]
          refine (l15Func_c hl 55 2 ⟨#[115]⟩ (by decide) false m372).mono ?_
          rintro _ h373 ⟨H373, x373, a373, c373, rfl, e373, b373, r373, m373⟩
          try simp only [go_sem, Nat.reduceBEq]
          refine cur_nodes [(x373, .slice a373 x373.kids.length c373)] [x373] rfl slT24 rfl rfl rfl (by decide) (by decide) (all1 r373) m373 fun H374 a374 c374 h374 e374 r374 m374 => ?_
          try simp only [go_sem, Nat.reduceBEq]
          refine cur_nadd (es := ([(Nd.mk 53 0 ⟨#[84]⟩ []), (Nd.mk 54 n366 ⟨#[112]⟩ [(Nd.mk 1 2 ⟨#[]⟩ [])])] ++ [x370])) slT24 rfl rfl (by decide) m374 ((r372.mono e373).mono e374) r374 (Nat.le_of_ble_eq_true rfl) (Nat.le_of_ble_eq_true rfl) fun u375 a375 c375 h375 r375 m375 => ?_
          try simp only [go_sem, Nat.reduceBEq, Nat.reduceAdd]
          refine regionD_intro (lb := [65]) (by kernel_rfl) ?_
          try simp only [go_sem, Nat.reduceBEq]
          obtain ⟨H376, e376, r376, m376⟩ := cur_fix m375 r375
          refine (l15N_c _ _ _ _ _ _).mono ?_
          rintro _ _ ⟨rfl, rfl⟩
          try simp only [go_sem, Nat.reduceBEq]
          refine cur_nodes [((Nd.mk 50 0 ⟨#[65]⟩ (([(Nd.mk 53 0 ⟨#[84]⟩ []), (Nd.mk 54 n366 ⟨#[112]⟩ [(Nd.mk 1 2 ⟨#[]⟩ [])])] ++ [x370]) ++ [x373])), .slice a375 (([(Nd.mk 53 0 ⟨#[84]⟩ []), (Nd.mk 54 n366 ⟨#[112]⟩ [(Nd.mk 1 2 ⟨#[]⟩ [])])] ++ [x370]) ++ [x373]).length c375)] [(Nd.mk 50 0 ⟨#[65]⟩ (([(Nd.mk 53 0 ⟨#[84]⟩ []), (Nd.mk 54 n366 ⟨#[112]⟩ [(Nd.mk 1 2 ⟨#[]⟩ [])])] ++ [x370]) ++ [x373]))] rfl slT24 rfl rfl rfl (by decide) (by decide) (all1 r376) m376 fun H377 a377 c377 h377 e377 r377 m377 => ?_
          try simp only [go_sem, Nat.reduceBEq]
          refine cur_nadd (es := (([] ++ [x295]) ++ [(Nd.mk 51 0 ⟨#[84]⟩ [x302])])) slT24 rfl rfl (by decide) m377 (((((((r305.mono e364).mono e370).mono e371).mono e373).mono e374).mono e376).mono e377) r377 (Nat.le_of_ble_eq_true rfl) (Nat.le_of_ble_eq_true rfl) fun u378 a378 c378 h378 r378 m378 => ?_
          try simp only [go_sem, Nat.reduceBEq, Nat.reduceAdd, Nat.reduceLeDiff]
          refine regionD_intro (lb := [72]) (by kernel_rfl) ?_
          try simp only [go_sem, Nat.reduceBEq]
          refine (l15N_c _ _ _ _ _ _).mono ?_
          rintro _ _ ⟨rfl, rfl⟩
          try simp only [go_sem, Nat.reduceBEq]
          refine (l15Func_c hl 55 0 ⟨#[109]⟩ (by decide) false m378).mono ?_
          rintro _ h380 ⟨H380, x380, a380, c380, rfl, e380, b380, r380, m380⟩
          try simp only [go_sem, Nat.reduceBEq]
          refine cur_nodes [((Nd.mk 52 0 ⟨#[65]⟩ []), .slice none 0 0), (x380, .slice a380 x380.kids.length c380)] [(Nd.mk 52 0 ⟨#[65]⟩ []), x380] rfl slT24 rfl rfl rfl (by decide) (by decide) (allc ((rdn_nil _).mono e380) (all1 r380)) m380 fun H381 a381 c381 h381 e381 r381 m381 => ?_
          try simp only [go_sem, Nat.reduceBEq]
          refine (l15N_c _ _ _ _ _ _).mono ?_
          rintro _ _ ⟨rfl, rfl⟩
          try simp only [go_sem, Nat.reduceBEq]
          refine cur_nodes [((Nd.mk 50 0 ⟨#[66]⟩ [(Nd.mk 52 0 ⟨#[65]⟩ []), x380]), .slice a381 2 c381)] [(Nd.mk 50 0 ⟨#[66]⟩ [(Nd.mk 52 0 ⟨#[65]⟩ []), x380])] rfl slT24 rfl rfl rfl (by decide) (by decide) (all1 r381) m381 fun H382 a382 c382 h382 e382 r382 m382 => ?_
          try simp only [go_sem, Nat.reduceBEq]
          refine cur_nadd (es := ((([] ++ [x295]) ++ [(Nd.mk 51 0 ⟨#[84]⟩ [x302])]) ++ [(Nd.mk 50 0 ⟨#[65]⟩ (([(Nd.mk 53 0 ⟨#[84]⟩ []), (Nd.mk 54 n366 ⟨#[112]⟩ [(Nd.mk 1 2 ⟨#[]⟩ [])])] ++ [x370]) ++ [x373]))])) slT24 rfl rfl (by decide) m382 (((r378.mono e380).mono e381).mono e382) r382 (Nat.le_of_ble_eq_true rfl) (Nat.le_of_ble_eq_true rfl) fun u383 a383 c383 h383 r383 m383 => ?_
          try simp only [go_sem, Nat.reduceBEq, Nat.reduceAdd, Nat.reduceLeDiff]
          refine (l15N_c _ _ _ _ _ _).mono ?_
          rintro _ _ ⟨rfl, rfl⟩
          try simp only [go_sem, Nat.reduceBEq, Nat.reduceAdd, Nat.reduceLeDiff]
          refine regionD_intro (lb := [83, 84]) (by kernel_rfl) ?_
          try simp only [go_sem, Nat.reduceBEq, Nat.reduceAdd, Nat.reduceLeDiff]
          refine cur_strs [⟨#[65]⟩, ⟨#[66]⟩] slT47 rfl rfl rfl (by decide) (by decide) m383 fun v385 h385 m385 => ?_
          try simp only [go_sem, Nat.reduceBEq]
          refine (l1Str_c hl m385 (by decide) (by decide)).mono ?_
          rintro _ g385 ⟨s385, t385, rfl, m385⟩
          have z385 := (by decide : ∀ s ∈ ([⟨#[65]⟩, ⟨#[66]⟩] : List ByteArray), s.size ≤ 1) s385 t385
          clear t385
          have m385 := m385.drop
          try simp only [go_sem, Nat.reduceBEq]
          refine (l15N_c _ _ _ _ _ _).mono ?_
          rintro _ _ ⟨rfl, rfl⟩
          try simp only [go_sem, Nat.reduceBEq]
          refine cur_nodes [((Nd.mk 4 0 ⟨#[111]⟩ []), .slice none 0 0), ((Nd.mk 22 0 s385 []), .slice none 0 0)] [(Nd.mk 4 0 ⟨#[111]⟩ []), (Nd.mk 22 0 s385 [])] rfl slT24 rfl rfl rfl (by decide) (by decide) (allc (rdn_nil _) (all1 (rdn_nil _))) m385 fun H387 a387 c387 h387 e387 r387 m387 => ?_
          try simp only [go_sem, Nat.reduceBEq]
          refine (l15N_c _ _ _ _ _ _).mono ?_
          rintro _ _ ⟨rfl, rfl⟩
          try simp only [go_sem, Nat.reduceBEq]
          refine cur_nodes [((Nd.mk 15 0 ⟨#[]⟩ [(Nd.mk 4 0 ⟨#[111]⟩ []), (Nd.mk 22 0 s385 [])]), .slice a387 2 c387)] [(Nd.mk 15 0 ⟨#[]⟩ [(Nd.mk 4 0 ⟨#[111]⟩ []), (Nd.mk 22 0 s385 [])])] rfl slT24 rfl rfl rfl (by decide) (by decide) (all1 r387) m387 fun H388 a388 c388 h388 e388 r388 m388 => ?_
          try simp only [go_sem, Nat.reduceBEq]
          refine (l15N_c _ _ _ _ _ _).mono ?_
          rintro _ _ ⟨rfl, rfl⟩
          try simp only [go_sem, Nat.reduceBEq]
          refine cur_nodes [((Nd.mk 33 0 ⟨#[]⟩ [(Nd.mk 15 0 ⟨#[]⟩ [(Nd.mk 4 0 ⟨#[111]⟩ []), (Nd.mk 22 0 s385 [])])]), .slice a388 1 c388)] [(Nd.mk 33 0 ⟨#[]⟩ [(Nd.mk 15 0 ⟨#[]⟩ [(Nd.mk 4 0 ⟨#[111]⟩ []), (Nd.mk 22 0 s385 [])])])] rfl slT24 rfl rfl rfl (by decide) (by decide) (all1 r388) m388 fun H389 a389 c389 h389 e389 r389 m389 => ?_
          try simp only [go_sem, Nat.reduceBEq]
          refine cur_nadd (es := (((([] ++ [x295]) ++ [(Nd.mk 51 0 ⟨#[84]⟩ [x302])]) ++ [(Nd.mk 50 0 ⟨#[65]⟩ (([(Nd.mk 53 0 ⟨#[84]⟩ []), (Nd.mk 54 n366 ⟨#[112]⟩ [(Nd.mk 1 2 ⟨#[]⟩ [])])] ++ [x370]) ++ [x373]))]) ++ [(Nd.mk 50 0 ⟨#[66]⟩ [(Nd.mk 52 0 ⟨#[65]⟩ []), x380])])) slT24 rfl rfl (by decide) m389 (((r383.mono e387).mono e388).mono e389) r389 (Nat.le_of_ble_eq_true rfl) (Nat.le_of_ble_eq_true rfl) fun u390 a390 c390 h390 r390 m390 => ?_
          try simp only [go_sem, Nat.reduceBEq, Nat.reduceAdd, Nat.reduceLeDiff]
          refine (l1Below_c hl m390 5 (by decide) (by decide)).mono ?_
          rintro _ h391 ⟨n391, rfl, p391, q391, m391⟩
          try simp only [go_sem, Nat.reduceBEq]
          obtain ⟨i, rfl⟩ : ∃ i : Nat, n391 = i := ⟨n391.toNat, by omega⟩
          have w1 : IntKind.i64.wrap (1 + (i : Int)) = ((i + 1 : Nat) : Int) := by rw [IntWalk.i64_in _ (by omega)]; omega
          simp only [w1, go_sem]
          refine aloop (ι := Hp × Nat × List Nd × List Value × Option Addr × Nat) (fun x => [(7, .val (.int .i64 (x.2.1 : Nat))), (3, .box 3 0), (2, .box 2 0), (0, .val (pv p))])
            (fun x => [(3, [.int .i64 56, .int .i64 0, .string ⟨#[]⟩, .slice x.2.2.2.2.1 x.2.2.1.length x.2.2.2.2.2]), (2, [.int .i64 0, .int .i64 0, .string ⟨#[]⟩, .slice none 0 0])])
            (fun x h' => x.2.2.1.length + x.2.1 ≤ 20 ∧ Ext h0 x.1 ∧ Nd.bulks x.2.2.1 + x.2.1 * 6343 ≤ 199000 ∧ RdL x.1 (x.2.2.1.flatMap Nd.dt) x.2.2.2.1 ∧ CurM x.1 h' l p ((.row 4 (x.2.2.2.1.map .raw), .slice x.2.2.2.2.1 x.2.2.1.length x.2.2.2.2.2) :: bag))
            (fun x => x.2.1) (H389, i + 1, ((((([] ++ [x295]) ++ [(Nd.mk 51 0 ⟨#[84]⟩ [x302])]) ++ [(Nd.mk 50 0 ⟨#[65]⟩ (([(Nd.mk 53 0 ⟨#[84]⟩ []), (Nd.mk 54 n366 ⟨#[112]⟩ [(Nd.mk 1 2 ⟨#[]⟩ [])])] ++ [x370]) ++ [x373]))]) ++ [(Nd.mk 50 0 ⟨#[66]⟩ [(Nd.mk 52 0 ⟨#[65]⟩ []), x380])]) ++ [(Nd.mk 33 0 ⟨#[]⟩ [(Nd.mk 15 0 ⟨#[]⟩ [(Nd.mk 4 0 ⟨#[111]⟩ []), (Nd.mk 22 0 s385 [])])])]), u390, a390, c390) ⟨(by show List.length ((((([] ++ [x295]) ++ [(Nd.mk 51 0 ⟨#[84]⟩ [x302])]) ++ [(Nd.mk 50 0 ⟨#[65]⟩ (([(Nd.mk 53 0 ⟨#[84]⟩ []), (Nd.mk 54 n366 ⟨#[112]⟩ [(Nd.mk 1 2 ⟨#[]⟩ [])])] ++ [x370]) ++ [x373]))]) ++ [(Nd.mk 50 0 ⟨#[66]⟩ [(Nd.mk 52 0 ⟨#[65]⟩ []), x380])]) ++ [(Nd.mk 33 0 ⟨#[]⟩ [(Nd.mk 15 0 ⟨#[]⟩ [(Nd.mk 4 0 ⟨#[111]⟩ []), (Nd.mk 22 0 s385 [])])])]) + (i + 1) ≤ 20; simp only [List.length_append, List.length_cons, List.length_nil]; omega), (((((((((((((((((e295.trans e296).trans e302).trans e303).trans e304).trans e364).trans e370).trans e371).trans e373).trans e374).trans e376).trans e377).trans e380).trans e381).trans e382).trans e387).trans e388).trans e389), (by show Nd.bulks ((((([] ++ [x295]) ++ [(Nd.mk 51 0 ⟨#[84]⟩ [x302])]) ++ [(Nd.mk 50 0 ⟨#[65]⟩ (([(Nd.mk 53 0 ⟨#[84]⟩ []), (Nd.mk 54 n366 ⟨#[112]⟩ [(Nd.mk 1 2 ⟨#[]⟩ [])])] ++ [x370]) ++ [x373]))]) ++ [(Nd.mk 50 0 ⟨#[66]⟩ [(Nd.mk 52 0 ⟨#[65]⟩ []), x380])]) ++ [(Nd.mk 33 0 ⟨#[]⟩ [(Nd.mk 15 0 ⟨#[]⟩ [(Nd.mk 4 0 ⟨#[111]⟩ []), (Nd.mk 22 0 s385 [])])])]) + (i + 1) * 6343 ≤ 199000; simp only [bsz, Nd.bulk_mk, Nd.bulks_cons, Nd.bulks_nil, Nd.bulks_app, List.size_toArray, List.length_cons, List.length_nil]; omega), r390, m391⟩ (by repeat (first | exact wkF_e | refine wkF_c rfl ?_)) (wkB_c rfl (wkB_c rfl wkB_e)) rfl ?_
          rintro ⟨H, k, es, us, a, c⟩ h3 ⟨hk, e0, hb, hr, m3⟩
          have hk : es.length + k ≤ 20 := hk
          have e0 : Ext h0 H := e0
          have hb : Nd.bulks es + k * 6343 ≤ 199000 := hb
          have hr : RdL H (es.flatMap Nd.dt) us := hr
          have m3 : CurM H h3 l p ((.row 4 (us.map .raw), .slice a es.length c) :: bag) := m3
          try simp only [go_sem, Nat.reduceBEq]
          cases k with
          | zero =>
            simp only [show decide ((0 : Int) < ((0 : Nat) : Int)) = false from rfl, go_sem, Nat.reduceBEq, Nat.reduceAdd, Nat.reduceLeDiff]
            obtain ⟨H4, e4, r4, m4⟩ := cur_fix m3 hr
            exact NodP.base (e0.trans e4) (NodP.mk 56 0 ⟨#[]⟩ r4 rfl (by rw [show (ByteArray.mk #[]).size = 0 from rfl, Nat.zero_add]; exact Nat.le_trans (Nat.le_add_right _ _) hb) m4)
          | succ k =>
          have w2 : IntKind.i64.wrap (((k + 1 : Nat) : Int) - 1) = (k : Nat) := by rw [IntWalk.i64_in _ (by omega)]; omega
          simp only [show decide ((0 : Int) < ((k + 1 : Nat) : Int)) = true from decide_eq_true (by omega), go_sem]
          refine regionD_intro (lb := [104]) (by kernel_rfl) ?_
          try simp only [go_sem, Nat.reduceBEq]
          refine (l15Step_c hl 2 (by decide) 2 (by decide) (by decide) false false m3).mono ?_
          rintro _ h4 ⟨H4, x, a4, c4, rfl, e4, b4, r4, m4⟩
          try simp only [go_sem, Nat.reduceBEq]
          refine cur_nodes [(x, .slice a4 x.kids.length c4)] [x] rfl slT24 rfl rfl rfl (by decide) (by decide) (all1 r4) m4 fun H5 a5 c5 h5 e5 r5 m5 => ?_
          try simp only [go_sem, Nat.reduceBEq]
          refine cur_nadd (es := es) slT24 rfl rfl (by decide) m5 (hr.mono (e4.trans e5)) r5 (by omega) (Nat.le_of_ble_eq_true rfl) fun us6 a6 c6 h6 hr6 m6 => ?_
          simp only [w2, go_sem, Nat.reduceBEq, Nat.reduceAdd, Nat.reduceLeDiff]
          exact Again.intro (H5, k, es ++ [x], us6, a6, c6) (by first | omega | (simp only; omega)) ⟨(by show (es ++ [x]).length + k ≤ 20; rw [List.length_append, List.length_cons, List.length_nil]; omega), e0.trans (e4.trans e5), (by show Nd.bulks (es ++ [x]) + k * 6343 ≤ _; rw [Nd.bulks_app, Nd.bulks_cons, Nd.bulks_nil]; omega), hr6, m6⟩ (by repeat (first | exact wkF_e | refine wkF_c rfl ?_)) (wkB_c rfl (wkB_c rfl wkB_e)) rfl
  | true =>
    try simp only [go_sem]
    refine regionD_intro (lb := [12]) (by kernel_rfl) ?_
    try simp only [go_sem, Nat.reduceBEq]
    refine (l15Func_c hl 49 0 ⟨#[102]⟩ (by decide) false m198).mono ?_
    rintro _ h393 ⟨H393, x393, a393, c393, rfl, e393, b393, r393, m393⟩
    try simp only [go_sem, Nat.reduceBEq]
    refine cur_nodes [(x393, .slice a393 x393.kids.length c393)] [x393] rfl slT24 rfl rfl rfl (by decide) (by decide) (all1 r393) m393 fun H394 a394 c394 h394 e394 r394 m394 => ?_
    try simp only [go_sem, Nat.reduceBEq]
    refine cur_nadd (es := []) slT24 rfl rfl (by decide) m394 (((RdL_nil.2 rfl).mono e393).mono e394) r394 (Nat.le_of_ble_eq_true rfl) (Nat.le_of_ble_eq_true rfl) fun u395 a395 c395 h395 r395 m395 => ?_
    try simp only [go_sem, Nat.reduceBEq, Nat.reduceAdd, Nat.reduceLeDiff]
    refine (l1Once_c hl m395 3 (by decide) (by decide)).mono ?_
    rintro _ h396 ⟨y396, rfl, m396⟩
    try simp only [go_sem, Nat.reduceBEq]
    cases y396 with
    | false =>
      try simp only [go_sem, Nat.reduceBEq]
      refine (l1Once_c hl m396 3 (by decide) (by decide)).mono ?_
      rintro _ h397 ⟨y397, rfl, m397⟩
      try simp only [go_sem, Nat.reduceBEq]
      cases y397 with
      | false =>
        try simp only [go_sem, Nat.reduceBEq]
        refine (l1Below_c hl m397 5 (by decide) (by decide)).mono ?_
        rintro _ h398 ⟨n398, rfl, p398, q398, m398⟩
        try simp only [go_sem, Nat.reduceBEq]
        obtain ⟨i, rfl⟩ : ∃ i : Nat, n398 = i := ⟨n398.toNat, by omega⟩
        have w1 : IntKind.i64.wrap (1 + (i : Int)) = ((i + 1 : Nat) : Int) := by rw [IntWalk.i64_in _ (by omega)]; omega
        simp only [w1, go_sem]
        refine aloop (ι := Hp × Nat × List Nd × List Value × Option Addr × Nat) (fun x => [(7, .val (.int .i64 (x.2.1 : Nat))), (3, .box 3 0), (2, .box 2 0), (0, .val (pv p))])
          (fun x => [(3, [.int .i64 56, .int .i64 0, .string ⟨#[]⟩, .slice x.2.2.2.2.1 x.2.2.1.length x.2.2.2.2.2]), (2, [.int .i64 0, .int .i64 0, .string ⟨#[]⟩, .slice none 0 0])])
          (fun x h' => x.2.2.1.length + x.2.1 ≤ 20 ∧ Ext h0 x.1 ∧ Nd.bulks x.2.2.1 + x.2.1 * 6343 ≤ 199000 ∧ RdL x.1 (x.2.2.1.flatMap Nd.dt) x.2.2.2.1 ∧ CurM x.1 h' l p ((.row 4 (x.2.2.2.1.map .raw), .slice x.2.2.2.2.1 x.2.2.1.length x.2.2.2.2.2) :: bag))
          (fun x => x.2.1) (H394, i + 1, ([] ++ [x393]), u395, a395, c395) ⟨(by show List.length ([] ++ [x393]) + (i + 1) ≤ 20; simp only [List.length_append, List.length_cons, List.length_nil]; omega), (e393.trans e394), (by show Nd.bulks ([] ++ [x393]) + (i + 1) * 6343 ≤ 199000; simp only [Nd.bulks_cons, Nd.bulks_nil, Nd.bulks_app]; omega), r395, m398⟩ (by repeat (first | exact wkF_e | refine wkF_c rfl ?_)) (wkB_c rfl (wkB_c rfl wkB_e)) rfl ?_
        rintro ⟨H, k, es, us, a, c⟩ h3 ⟨hk, e0, hb, hr, m3⟩
        have hk : es.length + k ≤ 20 := hk
        have e0 : Ext h0 H := e0
        have hb : Nd.bulks es + k * 6343 ≤ 199000 := hb
        have hr : RdL H (es.flatMap Nd.dt) us := hr
        have m3 : CurM H h3 l p ((.row 4 (us.map .raw), .slice a es.length c) :: bag) := m3
        try simp only [go_sem, Nat.reduceBEq]
        cases k with
        | zero =>
          simp only [show decide ((0 : Int) < ((0 : Nat) : Int)) = false from rfl, go_sem, Nat.reduceBEq, Nat.reduceAdd, Nat.reduceLeDiff]
          obtain ⟨H4, e4, r4, m4⟩ := cur_fix m3 hr
          exact NodP.base (e0.trans e4) (NodP.mk 56 0 ⟨#[]⟩ r4 rfl (by rw [show (ByteArray.mk #[]).size = 0 from rfl, Nat.zero_add]; exact Nat.le_trans (Nat.le_add_right _ _) hb) m4)
        | succ k =>
        have w2 : IntKind.i64.wrap (((k + 1 : Nat) : Int) - 1) = (k : Nat) := by rw [IntWalk.i64_in _ (by omega)]; omega
        simp only [show decide ((0 : Int) < ((k + 1 : Nat) : Int)) = true from decide_eq_true (by omega), go_sem]
        refine regionD_intro (lb := [104]) (by kernel_rfl) ?_
        try simp only [go_sem, Nat.reduceBEq]
        refine (l15Step_c hl 2 (by decide) 2 (by decide) (by decide) false false m3).mono ?_
        rintro _ h4 ⟨H4, x, a4, c4, rfl, e4, b4, r4, m4⟩
        try simp only [go_sem, Nat.reduceBEq]
        refine cur_nodes [(x, .slice a4 x.kids.length c4)] [x] rfl slT24 rfl rfl rfl (by decide) (by decide) (all1 r4) m4 fun H5 a5 c5 h5 e5 r5 m5 => ?_
        try simp only [go_sem, Nat.reduceBEq]
        refine cur_nadd (es := es) slT24 rfl rfl (by decide) m5 (hr.mono (e4.trans e5)) r5 (by omega) (Nat.le_of_ble_eq_true rfl) fun us6 a6 c6 h6 hr6 m6 => ?_
        simp only [w2, go_sem, Nat.reduceBEq, Nat.reduceAdd, Nat.reduceLeDiff]
        exact Again.intro (H5, k, es ++ [x], us6, a6, c6) (by first | omega | (simp only; omega)) ⟨(by show (es ++ [x]).length + k ≤ 20; rw [List.length_append, List.length_cons, List.length_nil]; omega), e0.trans (e4.trans e5), (by show Nd.bulks (es ++ [x]) + k * 6343 ≤ _; rw [Nd.bulks_app, Nd.bulks_cons, Nd.bulks_nil]; omega), hr6, m6⟩ (by repeat (first | exact wkF_e | refine wkF_c rfl ?_)) (wkB_c rfl (wkB_c rfl wkB_e)) rfl
      | true =>
        try simp only [go_sem]
        refine regionD_intro (lb := [30]) (by kernel_rfl) ?_
        try simp only [go_sem, Nat.reduceBEq]
        refine cur_strs [⟨#[109]⟩, ⟨#[116]⟩, ⟨#[95, 95, 103, 101, 116]⟩, ⟨#[95, 95, 99, 97, 108, 108]⟩] slT47 rfl rfl rfl (by decide) (by decide) m397 fun v400 h400 m400 => ?_
        try simp only [go_sem, Nat.reduceBEq]
        refine (l1Str_c hl m400 (by decide) (by decide)).mono ?_
        rintro _ g400 ⟨s400, t400, rfl, m400⟩
        have z400 := (by decide : ∀ s ∈ ([⟨#[109]⟩, ⟨#[116]⟩, ⟨#[95, 95, 103, 101, 116]⟩, ⟨#[95, 95, 99, 97, 108, 108]⟩] : List ByteArray), s.size ≤ 6) s400 t400
        clear t400
        have m400 := m400.drop
        try simp only [go_sem, Nat.reduceBEq]
        refine (l15Func_c hl 55 0 s400 (by omega) false m400).mono ?_
        rintro _ h401 ⟨H401, x401, a401, c401, rfl, e401, b401, r401, m401⟩
        try simp only [go_sem, Nat.reduceBEq]
        refine cur_nodes [(x401, .slice a401 x401.kids.length c401)] [x401] rfl slT24 rfl rfl rfl (by decide) (by decide) (all1 r401) m401 fun H402 a402 c402 h402 e402 r402 m402 => ?_
        try simp only [go_sem, Nat.reduceBEq]
        refine (l15N_c _ _ _ _ _ _).mono ?_
        rintro _ _ ⟨rfl, rfl⟩
        try simp only [go_sem, Nat.reduceBEq]
        refine cur_nodes [((Nd.mk 51 0 ⟨#[84]⟩ [x401]), .slice a402 1 c402)] [(Nd.mk 51 0 ⟨#[84]⟩ [x401])] rfl slT24 rfl rfl rfl (by decide) (by decide) (all1 r402) m402 fun H403 a403 c403 h403 e403 r403 m403 => ?_
        try simp only [go_sem, Nat.reduceBEq]
        refine cur_nadd (es := ([] ++ [x393])) slT24 rfl rfl (by decide) m403 (((r395.mono e401).mono e402).mono e403) r403 (Nat.le_of_ble_eq_true rfl) (Nat.le_of_ble_eq_true rfl) fun u404 a404 c404 h404 r404 m404 => ?_
        try simp only [go_sem, Nat.reduceBEq, Nat.reduceAdd, Nat.reduceLeDiff]
        refine regionT_intro (lb := [45]) (.two [1, 3] 0 (.two [] 2 (.one [4, 5, 6, 7]) 4 (.one [2, 5, 6, 7])) 4 (.one [0, 2, 5, 6, 7])) (by kernel_rfl) ?_
        simp only [runPlan_two, runPlan_one, plk_c, plk_n, plk_s, List.getElem?_toArray, List.getElem?_cons_succ, List.getElem?_cons_zero, go_sem, Nat.reduceBEq, Nat.reduceAdd, Nat.reduceLeDiff]
        refine bothK_mk ?_ ?_
        · try simp only [go_sem]
          refine (l15N_c _ _ _ _ _ _).mono ?_
          rintro _ _ ⟨rfl, rfl⟩
          try simp only [go_sem]
          refine bothK_mk ?_ ?_
          · try simp only [go_sem, Nat.reduceBEq]
            refine (l1Below_c hl m404 2 (by decide) (by decide)).mono ?_
            rintro _ h407 ⟨n407, rfl, p407, q407, m407⟩
            try simp only [go_sem, Nat.reduceBEq]
            refine cur_nodes [((Nd.mk 1 2 ⟨#[]⟩ []), .slice none 0 0)] [(Nd.mk 1 2 ⟨#[]⟩ [])] rfl slT24 rfl rfl rfl (by decide) (by decide) (all1 (rdn_nil _)) m407 fun H408 a408 c408 h408 e408 r408 m408 => ?_
            try simp only [go_sem, Nat.reduceBEq, Nat.reduceAdd, Nat.reduceLeDiff]
            refine cur_own [((Nd.mk 53 0 ⟨#[84]⟩ []), .slice none 0 0), ((Nd.mk 54 n407 ⟨#[112]⟩ [(Nd.mk 1 2 ⟨#[]⟩ [])]), .slice a408 1 c408)] [(Nd.mk 53 0 ⟨#[84]⟩ []), (Nd.mk 54 n407 ⟨#[112]⟩ [(Nd.mk 1 2 ⟨#[]⟩ [])])] rfl slT24 rfl rfl rfl (by decide) (by decide) (allc ((rdn_nil _).mono e408) (all1 r408)) m408 fun u409 a409 c409 h409 r409 m409 => ?_
            try simp only [go_sem, Nat.reduceBEq]
            refine cur_strs [⟨#[109]⟩, ⟨#[95, 95, 99, 111, 110, 115, 116, 114, 117, 99, 116]⟩, ⟨#[95, 95, 100, 101, 115, 116, 114, 117, 99, 116]⟩] slT47 rfl rfl rfl (by decide) (by decide) m409 fun v410 h410 m410 => ?_
            try simp only [go_sem, Nat.reduceBEq]
            refine (l1Str_c hl m410 (by decide) (by decide)).mono ?_
            rintro _ g410 ⟨s410, t410, rfl, m410⟩
            have z410 := (by decide : ∀ s ∈ ([⟨#[109]⟩, ⟨#[95, 95, 99, 111, 110, 115, 116, 114, 117, 99, 116]⟩, ⟨#[95, 95, 100, 101, 115, 116, 114, 117, 99, 116]⟩] : List ByteArray), s.size ≤ 11) s410 t410
            clear t410
            have m410 := m410.drop
            try simp only [go_sem, Nat.reduceBEq]
            refine (l1Below_c hl m410 2 (by decide) (by decide)).mono ?_
            rintro _ h411 ⟨n411, rfl, p411, q411, m411⟩
            try simp only [go_sem, Nat.reduceBEq]
            refine (l15Func_c hl 55 n411 s410 (by omega) false m411).mono ?_
            rintro _ h412 ⟨H412, x412, a412, c412, rfl, e412, b412, r412, m412⟩
            try simp only [go_sem, Nat.reduceBEq]
            refine cur_nodes [(x412, .slice a412 x412.kids.length c412)] [x412] rfl slT24 rfl rfl rfl (by decide) (by decide) (all1 r412) m412 fun H413 a413 c413 h413 e413 r413 m413 => ?_
            try simp only [go_sem, Nat.reduceBEq]
            refine cur_nadd (es := [(Nd.mk 53 0 ⟨#[84]⟩ []), (Nd.mk 54 n407 ⟨#[112]⟩ [(Nd.mk 1 2 ⟨#[]⟩ [])])]) slT24 rfl rfl (by decide) m413 ((r409.mono e412).mono e413) r413 (Nat.le_of_ble_eq_true rfl) (Nat.le_of_ble_eq_true rfl) fun u414 a414 c414 h414 r414 m414 => ?_
            try simp only [go_sem, Nat.reduceBEq, Nat.reduceAdd]
            refine (l15Func_c hl 55 2 ⟨#[115]⟩ (by decide) false m414).mono ?_
            rintro _ h415 ⟨H415, x415, a415, c415, rfl, e415, b415, r415, m415⟩
            try simp only [go_sem, Nat.reduceBEq]
            refine cur_nodes [(x415, .slice a415 x415.kids.length c415)] [x415] rfl slT24 rfl rfl rfl (by decide) (by decide) (all1 r415) m415 fun H416 a416 c416 h416 e416 r416 m416 => ?_
            try simp only [go_sem, Nat.reduceBEq]
            refine cur_nadd (es := ([(Nd.mk 53 0 ⟨#[84]⟩ []), (Nd.mk 54 n407 ⟨#[112]⟩ [(Nd.mk 1 2 ⟨#[]⟩ [])])] ++ [x412])) slT24 rfl rfl (by decide) m416 ((r414.mono e415).mono e416) r416 (Nat.le_of_ble_eq_true rfl) (Nat.le_of_ble_eq_true rfl) fun u417 a417 c417 h417 r417 m417 => ?_
            try simp only [go_sem, Nat.reduceBEq, Nat.reduceAdd]
            refine regionD_intro (lb := [65]) (by kernel_rfl) ?_
            try simp only [go_sem, Nat.reduceBEq]
            obtain ⟨H418, e418, r418, m418⟩ := cur_fix m417 r417
            refine (l15N_c _ _ _ _ _ _).mono ?_
            rintro _ _ ⟨rfl, rfl⟩
            try simp only [go_sem, Nat.reduceBEq]
            refine cur_nodes [((Nd.mk 50 0 ⟨#[65]⟩ (([(Nd.mk 53 0 ⟨#[84]⟩ []), (Nd.mk 54 n407 ⟨#[112]⟩ [(Nd.mk 1 2 ⟨#[]⟩ [])])] ++ [x412]) ++ [x415])), .slice a417 (([(Nd.mk 53 0 ⟨#[84]⟩ []), (Nd.mk 54 n407 ⟨#[112]⟩ [(Nd.mk 1 2 ⟨#[]⟩ [])])] ++ [x412]) ++ [x415]).length c417)] [(Nd.mk 50 0 ⟨#[65]⟩ (([(Nd.mk 53 0 ⟨#[84]⟩ []), (Nd.mk 54 n407 ⟨#[112]⟩ [(Nd.mk 1 2 ⟨#[]⟩ [])])] ++ [x412]) ++ [x415]))] rfl slT24 rfl rfl rfl (by decide) (by decide) (all1 r418) m418 fun H419 a419 c419 h419 e419 r419 m419 => ?_
            try simp only [go_sem, Nat.reduceBEq]
            refine cur_nadd (es := (([] ++ [x393]) ++ [(Nd.mk 51 0 ⟨#[84]⟩ [x401])])) slT24 rfl rfl (by decide) m419 (((((((r404.mono e408).mono e412).mono e413).mono e415).mono e416).mono e418).mono e419) r419 (Nat.le_of_ble_eq_true rfl) (Nat.le_of_ble_eq_true rfl) fun u420 a420 c420 h420 r420 m420 => ?_
            try simp only [go_sem, Nat.reduceBEq, Nat.reduceAdd, Nat.reduceLeDiff]
            refine regionD_intro (lb := [72]) (by kernel_rfl) ?_
            try simp only [go_sem, Nat.reduceBEq]
            refine (l15N_c _ _ _ _ _ _).mono ?_
            rintro _ _ ⟨rfl, rfl⟩
            try simp only [go_sem, Nat.reduceBEq]
            refine (l15Func_c hl 55 0 ⟨#[109]⟩ (by decide) false m420).mono ?_
            rintro _ h422 ⟨H422, x422, a422, c422, rfl, e422, b422, r422, m422⟩
            try simp only [go_sem, Nat.reduceBEq]
            refine cur_nodes [((Nd.mk 52 0 ⟨#[65]⟩ []), .slice none 0 0), (x422, .slice a422 x422.kids.length c422)] [(Nd.mk 52 0 ⟨#[65]⟩ []), x422] rfl slT24 rfl rfl rfl (by decide) (by decide) (allc ((rdn_nil _).mono e422) (all1 r422)) m422 fun H423 a423 c423 h423 e423 r423 m423 => ?_
            try simp only [go_sem, Nat.reduceBEq]
            refine (l15N_c _ _ _ _ _ _).mono ?_
            rintro _ _ ⟨rfl, rfl⟩
            try simp only [go_sem, Nat.reduceBEq]
            refine cur_nodes [((Nd.mk 50 0 ⟨#[66]⟩ [(Nd.mk 52 0 ⟨#[65]⟩ []), x422]), .slice a423 2 c423)] [(Nd.mk 50 0 ⟨#[66]⟩ [(Nd.mk 52 0 ⟨#[65]⟩ []), x422])] rfl slT24 rfl rfl rfl (by decide) (by decide) (all1 r423) m423 fun H424 a424 c424 h424 e424 r424 m424 => ?_
            try simp only [go_sem, Nat.reduceBEq]
            refine cur_nadd (es := ((([] ++ [x393]) ++ [(Nd.mk 51 0 ⟨#[84]⟩ [x401])]) ++ [(Nd.mk 50 0 ⟨#[65]⟩ (([(Nd.mk 53 0 ⟨#[84]⟩ []), (Nd.mk 54 n407 ⟨#[112]⟩ [(Nd.mk 1 2 ⟨#[]⟩ [])])] ++ [x412]) ++ [x415]))])) slT24 rfl rfl (by decide) m424 (((r420.mono e422).mono e423).mono e424) r424 (Nat.le_of_ble_eq_true rfl) (Nat.le_of_ble_eq_true rfl) fun u425 a425 c425 h425 r425 m425 => ?_
            try simp only [go_sem, Nat.reduceBEq, Nat.reduceAdd, Nat.reduceLeDiff]
            refine (l15N_c _ _ _ _ _ _).mono ?_
            rintro _ _ ⟨rfl, rfl⟩
            try simp only [go_sem, Nat.reduceBEq, Nat.reduceAdd, Nat.reduceLeDiff]
            refine regionD_intro (lb := [83, 84]) (by kernel_rfl) ?_
            try simp only [go_sem, Nat.reduceBEq, Nat.reduceAdd, Nat.reduceLeDiff]
            refine cur_strs [⟨#[65]⟩, ⟨#[66]⟩] slT47 rfl rfl rfl (by decide) (by decide) m425 fun v427 h427 m427 => ?_
            try simp only [go_sem, Nat.reduceBEq]
            refine (l1Str_c hl m427 (by decide) (by decide)).mono ?_
            rintro _ g427 ⟨s427, t427, rfl, m427⟩
            have z427 := (by decide : ∀ s ∈ ([⟨#[65]⟩, ⟨#[66]⟩] : List ByteArray), s.size ≤ 1) s427 t427
            clear t427
            have m427 := m427.drop
            try simp only [go_sem, Nat.reduceBEq]
            refine (l15N_c _ _ _ _ _ _).mono ?_
            rintro _ _ ⟨rfl, rfl⟩
            try simp only [go_sem, Nat.reduceBEq]
            refine cur_nodes [((Nd.mk 4 0 ⟨#[111]⟩ []), .slice none 0 0), ((Nd.mk 22 0 s427 []), .slice none 0 0)] [(Nd.mk 4 0 ⟨#[111]⟩ []), (Nd.mk 22 0 s427 [])] rfl slT24 rfl rfl rfl (by decide) (by decide) (allc (rdn_nil _) (all1 (rdn_nil _))) m427 fun H429 a429 c429 h429 e429 r429 m429 => ?_
            try simp only [go_sem, Nat.reduceBEq]
            refine (l15N_c _ _ _ _ _ _).mono ?_
            rintro _ _ ⟨rfl, rfl⟩
            try simp only [go_sem, Nat.reduceBEq]
            refine cur_nodes [((Nd.mk 15 0 ⟨#[]⟩ [(Nd.mk 4 0 ⟨#[111]⟩ []), (Nd.mk 22 0 s427 [])]), .slice a429 2 c429)] [(Nd.mk 15 0 ⟨#[]⟩ [(Nd.mk 4 0 ⟨#[111]⟩ []), (Nd.mk 22 0 s427 [])])] rfl slT24 rfl rfl rfl (by decide) (by decide) (all1 r429) m429 fun H430 a430 c430 h430 e430 r430 m430 => ?_
            try simp only [go_sem, Nat.reduceBEq]
            refine (l15N_c _ _ _ _ _ _).mono ?_
            rintro _ _ ⟨rfl, rfl⟩
            try simp only [go_sem, Nat.reduceBEq]
            refine cur_nodes [((Nd.mk 33 0 ⟨#[]⟩ [(Nd.mk 15 0 ⟨#[]⟩ [(Nd.mk 4 0 ⟨#[111]⟩ []), (Nd.mk 22 0 s427 [])])]), .slice a430 1 c430)] [(Nd.mk 33 0 ⟨#[]⟩ [(Nd.mk 15 0 ⟨#[]⟩ [(Nd.mk 4 0 ⟨#[111]⟩ []), (Nd.mk 22 0 s427 [])])])] rfl slT24 rfl rfl rfl (by decide) (by decide) (all1 r430) m430 fun H431 a431 c431 h431 e431 r431 m431 => ?_
            try simp only [go_sem, Nat.reduceBEq]
            refine cur_nadd (es := (((([] ++ [x393]) ++ [(Nd.mk 51 0 ⟨#[84]⟩ [x401])]) ++ [(Nd.mk 50 0 ⟨#[65]⟩ (([(Nd.mk 53 0 ⟨#[84]⟩ []), (Nd.mk 54 n407 ⟨#[112]⟩ [(Nd.mk 1 2 ⟨#[]⟩ [])])] ++ [x412]) ++ [x415]))]) ++ [(Nd.mk 50 0 ⟨#[66]⟩ [(Nd.mk 52 0 ⟨#[65]⟩ []), x422])])) slT24 rfl rfl (by decide) m431 (((r425.mono e429).mono e430).mono e431) r431 (Nat.le_of_ble_eq_true rfl) (Nat.le_of_ble_eq_true rfl) fun u432 a432 c432 h432 r432 m432 => ?_
            try simp only [go_sem, Nat.reduceBEq, Nat.reduceAdd, Nat.reduceLeDiff]
            refine (l1Below_c hl m432 5 (by decide) (by decide)).mono ?_
            rintro _ h433 ⟨n433, rfl, p433, q433, m433⟩
            try simp only [go_sem, Nat.reduceBEq]
            obtain ⟨i, rfl⟩ : ∃ i : Nat, n433 = i := ⟨n433.toNat, by omega⟩
            have w1 : IntKind.i64.wrap (1 + (i : Int)) = ((i + 1 : Nat) : Int) := by rw [IntWalk.i64_in _ (by omega)]; omega
            simp only [w1, go_sem]
            refine aloop (ι := Hp × Nat × List Nd × List Value × Option Addr × Nat) (fun x => [(7, .val (.int .i64 (x.2.1 : Nat))), (3, .box 3 0), (2, .box 2 0), (0, .val (pv p))])
              (fun x => [(3, [.int .i64 56, .int .i64 0, .string ⟨#[]⟩, .slice x.2.2.2.2.1 x.2.2.1.length x.2.2.2.2.2]), (2, [.int .i64 0, .int .i64 0, .string ⟨#[]⟩, .slice none 0 0])])
              (fun x h' => x.2.2.1.length + x.2.1 ≤ 20 ∧ Ext h0 x.1 ∧ Nd.bulks x.2.2.1 + x.2.1 * 6343 ≤ 199000 ∧ RdL x.1 (x.2.2.1.flatMap Nd.dt) x.2.2.2.1 ∧ CurM x.1 h' l p ((.row 4 (x.2.2.2.1.map .raw), .slice x.2.2.2.2.1 x.2.2.1.length x.2.2.2.2.2) :: bag))
              (fun x => x.2.1) (H431, i + 1, ((((([] ++ [x393]) ++ [(Nd.mk 51 0 ⟨#[84]⟩ [x401])]) ++ [(Nd.mk 50 0 ⟨#[65]⟩ (([(Nd.mk 53 0 ⟨#[84]⟩ []), (Nd.mk 54 n407 ⟨#[112]⟩ [(Nd.mk 1 2 ⟨#[]⟩ [])])] ++ [x412]) ++ [x415]))]) ++ [(Nd.mk 50 0 ⟨#[66]⟩ [(Nd.mk 52 0 ⟨#[65]⟩ []), x422])]) ++ [(Nd.mk 33 0 ⟨#[]⟩ [(Nd.mk 15 0 ⟨#[]⟩ [(Nd.mk 4 0 ⟨#[111]⟩ []), (Nd.mk 22 0 s427 [])])])]), u432, a432, c432) ⟨(by show List.length ((((([] ++ [x393]) ++ [(Nd.mk 51 0 ⟨#[84]⟩ [x401])]) ++ [(Nd.mk 50 0 ⟨#[65]⟩ (([(Nd.mk 53 0 ⟨#[84]⟩ []), (Nd.mk 54 n407 ⟨#[112]⟩ [(Nd.mk 1 2 ⟨#[]⟩ [])])] ++ [x412]) ++ [x415]))]) ++ [(Nd.mk 50 0 ⟨#[66]⟩ [(Nd.mk 52 0 ⟨#[65]⟩ []), x422])]) ++ [(Nd.mk 33 0 ⟨#[]⟩ [(Nd.mk 15 0 ⟨#[]⟩ [(Nd.mk 4 0 ⟨#[111]⟩ []), (Nd.mk 22 0 s427 [])])])]) + (i + 1) ≤ 20; simp only [List.length_append, List.length_cons, List.length_nil]; omega), (((((((((((((((((e393.trans e394).trans e401).trans e402).trans e403).trans e408).trans e412).trans e413).trans e415).trans e416).trans e418).trans e419).trans e422).trans e423).trans e424).trans e429).trans e430).trans e431), (by show Nd.bulks ((((([] ++ [x393]) ++ [(Nd.mk 51 0 ⟨#[84]⟩ [x401])]) ++ [(Nd.mk 50 0 ⟨#[65]⟩ (([(Nd.mk 53 0 ⟨#[84]⟩ []), (Nd.mk 54 n407 ⟨#[112]⟩ [(Nd.mk 1 2 ⟨#[]⟩ [])])] ++ [x412]) ++ [x415]))]) ++ [(Nd.mk 50 0 ⟨#[66]⟩ [(Nd.mk 52 0 ⟨#[65]⟩ []), x422])]) ++ [(Nd.mk 33 0 ⟨#[]⟩ [(Nd.mk 15 0 ⟨#[]⟩ [(Nd.mk 4 0 ⟨#[111]⟩ []), (Nd.mk 22 0 s427 [])])])]) + (i + 1) * 6343 ≤ 199000; simp only [bsz, Nd.bulk_mk, Nd.bulks_cons, Nd.bulks_nil, Nd.bulks_app, List.size_toArray, List.length_cons, List.length_nil]; omega), r432, m433⟩ (by repeat (first | exact wkF_e | refine wkF_c rfl ?_)) (wkB_c rfl (wkB_c rfl wkB_e)) rfl ?_
            rintro ⟨H, k, es, us, a, c⟩ h3 ⟨hk, e0, hb, hr, m3⟩
            have hk : es.length + k ≤ 20 := hk
            have e0 : Ext h0 H := e0
            have hb : Nd.bulks es + k * 6343 ≤ 199000 := hb
            have hr : RdL H (es.flatMap Nd.dt) us := hr
            have m3 : CurM H h3 l p ((.row 4 (us.map .raw), .slice a es.length c) :: bag) := m3
            try simp only [go_sem, Nat.reduceBEq]
            cases k with
            | zero =>
              simp only [show decide ((0 : Int) < ((0 : Nat) : Int)) = false from rfl, go_sem, Nat.reduceBEq, Nat.reduceAdd, Nat.reduceLeDiff]
              obtain ⟨H4, e4, r4, m4⟩ := cur_fix m3 hr
              exact NodP.base (e0.trans e4) (NodP.mk 56 0 ⟨#[]⟩ r4 rfl (by rw [show (ByteArray.mk #[]).size = 0 from rfl, Nat.zero_add]; exact Nat.le_trans (Nat.le_add_right _ _) hb) m4)
            | succ k =>
            have w2 : IntKind.i64.wrap (((k + 1 : Nat) : Int) - 1) = (k : Nat) := by rw [IntWalk.i64_in _ (by omega)]; omega
            simp only [show decide ((0 : Int) < ((k + 1 : Nat) : Int)) = true from decide_eq_true (by omega), go_sem]
            refine regionD_intro (lb := [104]) (by kernel_rfl) ?_
            try simp only [go_sem, Nat.reduceBEq]
            refine (l15Step_c hl 2 (by decide) 2 (by decide) (by decide) false false m3).mono ?_
            rintro _ h4 ⟨H4, x, a4, c4, rfl, e4, b4, r4, m4⟩
            try simp only [go_sem, Nat.reduceBEq]
            refine cur_nodes [(x, .slice a4 x.kids.length c4)] [x] rfl slT24 rfl rfl rfl (by decide) (by decide) (all1 r4) m4 fun H5 a5 c5 h5 e5 r5 m5 => ?_
            try simp only [go_sem, Nat.reduceBEq]
            refine cur_nadd (es := es) slT24 rfl rfl (by decide) m5 (hr.mono (e4.trans e5)) r5 (by omega) (Nat.le_of_ble_eq_true rfl) fun us6 a6 c6 h6 hr6 m6 => ?_
            simp only [w2, go_sem, Nat.reduceBEq, Nat.reduceAdd, Nat.reduceLeDiff]
            exact Again.intro (H5, k, es ++ [x], us6, a6, c6) (by first | omega | (simp only; omega)) ⟨(by show (es ++ [x]).length + k ≤ 20; rw [List.length_append, List.length_cons, List.length_nil]; omega), e0.trans (e4.trans e5), (by show Nd.bulks (es ++ [x]) + k * 6343 ≤ _; rw [Nd.bulks_app, Nd.bulks_cons, Nd.bulks_nil]; omega), hr6, m6⟩ (by repeat (first | exact wkF_e | refine wkF_c rfl ?_)) (wkB_c rfl (wkB_c rfl wkB_e)) rfl
          · try simp only [go_sem, Nat.reduceBEq]
            refine cur_nodes [((Nd.mk 1 2 ⟨#[]⟩ []), .slice none 0 0)] [(Nd.mk 1 2 ⟨#[]⟩ [])] rfl slT24 rfl rfl rfl (by decide) (by decide) (all1 (rdn_nil _)) m404 fun H435 a435 c435 h435 e435 r435 m435 => ?_
            try simp only [go_sem, Nat.reduceBEq]
            refine (l1Below_c hl m435 2 (by decide) (by decide)).mono ?_
            rintro _ h436 ⟨n436, rfl, p436, q436, m436⟩
            try simp only [go_sem, Nat.reduceBEq, Nat.reduceAdd, Nat.reduceLeDiff]
            refine cur_own [((Nd.mk 53 0 ⟨#[84]⟩ []), .slice none 0 0), ((Nd.mk 54 n436 ⟨#[112]⟩ [(Nd.mk 1 2 ⟨#[]⟩ [])]), .slice a435 1 c435)] [(Nd.mk 53 0 ⟨#[84]⟩ []), (Nd.mk 54 n436 ⟨#[112]⟩ [(Nd.mk 1 2 ⟨#[]⟩ [])])] rfl slT24 rfl rfl rfl (by decide) (by decide) (allc ((rdn_nil _).mono e435) (all1 r435)) m436 fun u437 a437 c437 h437 r437 m437 => ?_
            try simp only [go_sem, Nat.reduceBEq]
            refine cur_strs [⟨#[109]⟩, ⟨#[95, 95, 99, 111, 110, 115, 116, 114, 117, 99, 116]⟩, ⟨#[95, 95, 100, 101, 115, 116, 114, 117, 99, 116]⟩] slT47 rfl rfl rfl (by decide) (by decide) m437 fun v438 h438 m438 => ?_
            try simp only [go_sem, Nat.reduceBEq]
            refine (l1Str_c hl m438 (by decide) (by decide)).mono ?_
            rintro _ g438 ⟨s438, t438, rfl, m438⟩
            have z438 := (by decide : ∀ s ∈ ([⟨#[109]⟩, ⟨#[95, 95, 99, 111, 110, 115, 116, 114, 117, 99, 116]⟩, ⟨#[95, 95, 100, 101, 115, 116, 114, 117, 99, 116]⟩] : List ByteArray), s.size ≤ 11) s438 t438
            clear t438
            have m438 := m438.drop
            try simp only [go_sem, Nat.reduceBEq]
            refine (l1Below_c hl m438 2 (by decide) (by decide)).mono ?_
            rintro _ h439 ⟨n439, rfl, p439, q439, m439⟩
            try simp only [go_sem, Nat.reduceBEq]
            refine (l15Func_c hl 55 n439 s438 (by omega) false m439).mono ?_
            rintro _ h440 ⟨H440, x440, a440, c440, rfl, e440, b440, r440, m440⟩
            try simp only [go_sem, Nat.reduceBEq]
            refine cur_nodes [(x440, .slice a440 x440.kids.length c440)] [x440] rfl slT24 rfl rfl rfl (by decide) (by decide) (all1 r440) m440 fun H441 a441 c441 h441 e441 r441 m441 => ?_
            try simp only [go_sem, Nat.reduceBEq]
            refine cur_nadd (es := [(Nd.mk 53 0 ⟨#[84]⟩ []), (Nd.mk 54 n436 ⟨#[112]⟩ [(Nd.mk 1 2 ⟨#[]⟩ [])])]) slT24 rfl rfl (by decide) m441 ((r437.mono e440).mono e441) r441 (Nat.le_of_ble_eq_true rfl) (Nat.le_of_ble_eq_true rfl) fun u442 a442 c442 h442 r442 m442 => ?_
            try simp only [go_sem, Nat.reduceBEq, Nat.reduceAdd]
            refine (l15Func_c hl 55 2 ⟨#[115]⟩ (by decide) false m442).mono ?_
            rintro _ h443 ⟨H443, x443, a443, c443, rfl, e443, b443, r443, m443⟩
            try simp only [go_sem, Nat.reduceBEq]
            refine cur_nodes [(x443, .slice a443 x443.kids.length c443)] [x443] rfl slT24 rfl rfl rfl (by decide) (by decide) (all1 r443) m443 fun H444 a444 c444 h444 e444 r444 m444 => ?_
            try simp only [go_sem, Nat.reduceBEq]
            refine cur_nadd (es := ([(Nd.mk 53 0 ⟨#[84]⟩ []), (Nd.mk 54 n436 ⟨#[112]⟩ [(Nd.mk 1 2 ⟨#[]⟩ [])])] ++ [x440])) slT24 rfl rfl (by decide) m444 ((r442.mono e443).mono e444) r444 (Nat.le_of_ble_eq_true rfl) (Nat.le_of_ble_eq_true rfl) fun u445 a445 c445 h445 r445 m445 => ?_
            try simp only [go_sem, Nat.reduceBEq, Nat.reduceAdd]
            refine regionD_intro (lb := [65]) (by kernel_rfl) ?_
            try simp only [go_sem, Nat.reduceBEq]
            obtain ⟨H446, e446, r446, m446⟩ := cur_fix m445 r445
            refine (l15N_c _ _ _ _ _ _).mono ?_
            rintro _ _ ⟨rfl, rfl⟩
            try simp only [go_sem, Nat.reduceBEq]
            refine cur_nodes [((Nd.mk 50 0 ⟨#[65]⟩ (([(Nd.mk 53 0 ⟨#[84]⟩ []), (Nd.mk 54 n436 ⟨#[112]⟩ [(Nd.mk 1 2 ⟨#[]⟩ [])])] ++ [x440]) ++ [x443])), .slice a445 (([(Nd.mk 53 0 ⟨#[84]⟩ []), (Nd.mk 54 n436 ⟨#[112]⟩ [(Nd.mk 1 2 ⟨#[]⟩ [])])] ++ [x440]) ++ [x443]).length c445)] [(Nd.mk 50 0 ⟨#[65]⟩ (([(Nd.mk 53 0 ⟨#[84]⟩ []), (Nd.mk 54 n436 ⟨#[112]⟩ [(Nd.mk 1 2 ⟨#[]⟩ [])])] ++ [x440]) ++ [x443]))] rfl slT24 rfl rfl rfl (by decide) (by decide) (all1 r446) m446 fun H447 a447 c447 h447 e447 r447 m447 => ?_
            try simp only [go_sem, Nat.reduceBEq]
            refine cur_nadd (es := (([] ++ [x393]) ++ [(Nd.mk 51 0 ⟨#[84]⟩ [x401])])) slT24 rfl rfl (by decide) m447 (((((((r404.mono e435).mono e440).mono e441).mono e443).mono e444).mono e446).mono e447) r447 (Nat.le_of_ble_eq_true rfl) (Nat.le_of_ble_eq_true rfl) fun u448 a448 c448 h448 r448 m448 => ?_
            try simp only [go_sem, Nat.reduceBEq, Nat.reduceAdd, Nat.reduceLeDiff]
            refine regionD_intro (lb := [72]) (by kernel_rfl) ?_
            try simp only [go_sem, Nat.reduceBEq]
            refine (l15N_c _ _ _ _ _ _).mono ?_
            rintro _ _ ⟨rfl, rfl⟩
            try simp only [go_sem, Nat.reduceBEq]
            refine (l15Func_c hl 55 0 ⟨#[109]⟩ (by decide) false m448).mono ?_
            rintro _ h450 ⟨H450, x450, a450, c450, rfl, e450, b450, r450, m450⟩
            try simp only [go_sem, Nat.reduceBEq]
            refine cur_nodes [((Nd.mk 52 0 ⟨#[65]⟩ []), .slice none 0 0), (x450, .slice a450 x450.kids.length c450)] [(Nd.mk 52 0 ⟨#[65]⟩ []), x450] rfl slT24 rfl rfl rfl (by decide) (by decide) (allc ((rdn_nil _).mono e450) (all1 r450)) m450 fun H451 a451 c451 h451 e451 r451 m451 => ?_
            try simp only [go_sem, Nat.reduceBEq]
            refine (l15N_c _ _ _ _ _ _).mono ?_
            rintro _ _ ⟨rfl, rfl⟩
            try simp only [go_sem, Nat.reduceBEq]
            refine cur_nodes [((Nd.mk 50 0 ⟨#[66]⟩ [(Nd.mk 52 0 ⟨#[65]⟩ []), x450]), .slice a451 2 c451)] [(Nd.mk 50 0 ⟨#[66]⟩ [(Nd.mk 52 0 ⟨#[65]⟩ []), x450])] rfl slT24 rfl rfl rfl (by decide) (by decide) (all1 r451) m451 fun H452 a452 c452 h452 e452 r452 m452 => ?_
            try simp only [go_sem, Nat.reduceBEq]
            refine cur_nadd (es := ((([] ++ [x393]) ++ [(Nd.mk 51 0 ⟨#[84]⟩ [x401])]) ++ [(Nd.mk 50 0 ⟨#[65]⟩ (([(Nd.mk 53 0 ⟨#[84]⟩ []), (Nd.mk 54 n436 ⟨#[112]⟩ [(Nd.mk 1 2 ⟨#[]⟩ [])])] ++ [x440]) ++ [x443]))])) slT24 rfl rfl (by decide) m452 (((r448.mono e450).mono e451).mono e452) r452 (Nat.le_of_ble_eq_true rfl) (Nat.le_of_ble_eq_true rfl) fun u453 a453 c453 h453 r453 m453 => ?_
            try simp only [go_sem, Nat.reduceBEq, Nat.reduceAdd, Nat.reduceLeDiff]
            refine (l15N_c _ _ _ _ _ _).mono ?_
            rintro _ _ ⟨rfl, rfl⟩
            try simp only [go_sem, Nat.reduceBEq, Nat.reduceAdd, Nat.reduceLeDiff]
            refine regionD_intro (lb := [83, 84]) (by kernel_rfl) ?_
            try simp only [go_sem, Nat.reduceBEq, Nat.reduceAdd, Nat.reduceLeDiff]
            refine cur_strs [⟨#[65]⟩, ⟨#[66]⟩] slT47 rfl rfl rfl (by decide) (by decide) m453 fun v455 h455 m455 => ?_
            try simp only [go_sem, Nat.reduceBEq]
            refine (l1Str_c hl m455 (by decide) (by decide)).mono ?_
            rintro _ g455 ⟨s455, t455, rfl, m455⟩
            have z455 := (by decide : ∀ s ∈ ([⟨#[65]⟩, ⟨#[66]⟩] : List ByteArray), s.size ≤ 1) s455 t455
            clear t455
            have m455 := m455.drop
            try simp only [go_sem, Nat.reduceBEq]
            refine (l15N_c _ _ _ _ _ _).mono ?_
            rintro _ _ ⟨rfl, rfl⟩
            try simp only [go_sem, Nat.reduceBEq]
            refine cur_nodes [((Nd.mk 4 0 ⟨#[111]⟩ []), .slice none 0 0), ((Nd.mk 22 0 s455 []), .slice none 0 0)] [(Nd.mk 4 0 ⟨#[111]⟩ []), (Nd.mk 22 0 s455 [])] rfl slT24 rfl rfl rfl (by decide) (by decide) (allc (rdn_nil _) (all1 (rdn_nil _))) m455 fun H457 a457 c457 h457 e457 r457 m457 => ?_
            try simp only [go_sem, Nat.reduceBEq]
            refine (l15N_c _ _ _ _ _ _).mono ?_
            rintro _ _ ⟨rfl, rfl⟩
            try simp only [go_sem, Nat.reduceBEq]
            refine cur_nodes [((Nd.mk 15 0 ⟨#[]⟩ [(Nd.mk 4 0 ⟨#[111]⟩ []), (Nd.mk 22 0 s455 [])]), .slice a457 2 c457)] [(Nd.mk 15 0 ⟨#[]⟩ [(Nd.mk 4 0 ⟨#[111]⟩ []), (Nd.mk 22 0 s455 [])])] rfl slT24 rfl rfl rfl (by decide) (by decide) (all1 r457) m457 fun H458 a458 c458 h458 e458 r458 m458 => ?_
            try simp only [go_sem, Nat.reduceBEq]
            refine (l15N_c _ _ _ _ _ _).mono ?_
            rintro _ _ ⟨rfl, rfl⟩
            try simp only [go_sem, Nat.reduceBEq]
            refine cur_nodes [((Nd.mk 33 0 ⟨#[]⟩ [(Nd.mk 15 0 ⟨#[]⟩ [(Nd.mk 4 0 ⟨#[111]⟩ []), (Nd.mk 22 0 s455 [])])]), .slice a458 1 c458)] [(Nd.mk 33 0 ⟨#[]⟩ [(Nd.mk 15 0 ⟨#[]⟩ [(Nd.mk 4 0 ⟨#[111]⟩ []), (Nd.mk 22 0 s455 [])])])] rfl slT24 rfl rfl rfl (by decide) (by decide) (all1 r458) m458 fun H459 a459 c459 h459 e459 r459 m459 => ?_
            try simp only [go_sem, Nat.reduceBEq]
            refine cur_nadd (es := (((([] ++ [x393]) ++ [(Nd.mk 51 0 ⟨#[84]⟩ [x401])]) ++ [(Nd.mk 50 0 ⟨#[65]⟩ (([(Nd.mk 53 0 ⟨#[84]⟩ []), (Nd.mk 54 n436 ⟨#[112]⟩ [(Nd.mk 1 2 ⟨#[]⟩ [])])] ++ [x440]) ++ [x443]))]) ++ [(Nd.mk 50 0 ⟨#[66]⟩ [(Nd.mk 52 0 ⟨#[65]⟩ []), x450])])) slT24 rfl rfl (by decide) m459 (((r453.mono e457).mono e458).mono e459) r459 (Nat.le_of_ble_eq_true rfl) (Nat.le_of_ble_eq_true rfl) fun u460 a460 c460 h460 r460 m460 => ?_
            try simp only [go_sem, Nat.reduceBEq, Nat.reduceAdd, Nat.reduceLeDiff]
            refine (l1Below_c hl m460 5 (by decide) (by decide)).mono ?_
            rintro _ h461 ⟨n461, rfl, p461, q461, m461⟩
            try simp only [go_sem, Nat.reduceBEq]
            obtain ⟨i, rfl⟩ : ∃ i : Nat, n461 = i := ⟨n461.toNat, by omega⟩
            have w1 : IntKind.i64.wrap (1 + (i : Int)) = ((i + 1 : Nat) : Int) := by rw [IntWalk.i64_in _ (by omega)]; omega
            simp only [w1, go_sem]
            refine aloop (ι := Hp × Nat × List Nd × List Value × Option Addr × Nat) (fun x => [(7, .val (.int .i64 (x.2.1 : Nat))), (3, .box 3 0), (2, .box 2 0), (0, .val (pv p))])
              (fun x => [(3, [.int .i64 56, .int .i64 0, .string ⟨#[]⟩, .slice x.2.2.2.2.1 x.2.2.1.length x.2.2.2.2.2]), (2, [.int .i64 0, .int .i64 0, .string ⟨#[]⟩, .slice none 0 0])])
              (fun x h' => x.2.2.1.length + x.2.1 ≤ 20 ∧ Ext h0 x.1 ∧ Nd.bulks x.2.2.1 + x.2.1 * 6343 ≤ 199000 ∧ RdL x.1 (x.2.2.1.flatMap Nd.dt) x.2.2.2.1 ∧ CurM x.1 h' l p ((.row 4 (x.2.2.2.1.map .raw), .slice x.2.2.2.2.1 x.2.2.1.length x.2.2.2.2.2) :: bag))
              (fun x => x.2.1) (H459, i + 1, ((((([] ++ [x393]) ++ [(Nd.mk 51 0 ⟨#[84]⟩ [x401])]) ++ [(Nd.mk 50 0 ⟨#[65]⟩ (([(Nd.mk 53 0 ⟨#[84]⟩ []), (Nd.mk 54 n436 ⟨#[112]⟩ [(Nd.mk 1 2 ⟨#[]⟩ [])])] ++ [x440]) ++ [x443]))]) ++ [(Nd.mk 50 0 ⟨#[66]⟩ [(Nd.mk 52 0 ⟨#[65]⟩ []), x450])]) ++ [(Nd.mk 33 0 ⟨#[]⟩ [(Nd.mk 15 0 ⟨#[]⟩ [(Nd.mk 4 0 ⟨#[111]⟩ []), (Nd.mk 22 0 s455 [])])])]), u460, a460, c460) ⟨(by show List.length ((((([] ++ [x393]) ++ [(Nd.mk 51 0 ⟨#[84]⟩ [x401])]) ++ [(Nd.mk 50 0 ⟨#[65]⟩ (([(Nd.mk 53 0 ⟨#[84]⟩ []), (Nd.mk 54 n436 ⟨#[112]⟩ [(Nd.mk 1 2 ⟨#[]⟩ [])])] ++ [x440]) ++ [x443]))]) ++ [(Nd.mk 50 0 ⟨#[66]⟩ [(Nd.mk 52 0 ⟨#[65]⟩ []), x450])]) ++ [(Nd.mk 33 0 ⟨#[]⟩ [(Nd.mk 15 0 ⟨#[]⟩ [(Nd.mk 4 0 ⟨#[111]⟩ []), (Nd.mk 22 0 s455 [])])])]) + (i + 1) ≤ 20; simp only [List.length_append, List.length_cons, List.length_nil]; omega), (((((((((((((((((e393.trans e394).trans e401).trans e402).trans e403).trans e435).trans e440).trans e441).trans e443).trans e444).trans e446).trans e447).trans e450).trans e451).trans e452).trans e457).trans e458).trans e459), (by show Nd.bulks ((((([] ++ [x393]) ++ [(Nd.mk 51 0 ⟨#[84]⟩ [x401])]) ++ [(Nd.mk 50 0 ⟨#[65]⟩ (([(Nd.mk 53 0 ⟨#[84]⟩ []), (Nd.mk 54 n436 ⟨#[112]⟩ [(Nd.mk 1 2 ⟨#[]⟩ [])])] ++ [x440]) ++ [x443]))]) ++ [(Nd.mk 50 0 ⟨#[66]⟩ [(Nd.mk 52 0 ⟨#[65]⟩ []), x450])]) ++ [(Nd.mk 33 0 ⟨#[]⟩ [(Nd.mk 15 0 ⟨#[]⟩ [(Nd.mk 4 0 ⟨#[111]⟩ []), (Nd.mk 22 0 s455 [])])])]) + (i + 1) * 6343 ≤ 199000; simp only [bsz, Nd.bulk_mk, Nd.bulks_cons, Nd.bulks_nil, Nd.bulks_app, List.size_toArray, List.length_cons, List.length_nil]; omega), r460, m461⟩ (by repeat (first | exact wkF_e | refine wkF_c rfl ?_)) (wkB_c rfl (wkB_c rfl wkB_e)) rfl ?_
            rintro ⟨H, k, es, us, a, c⟩ h3 ⟨hk, e0, hb, hr, m3⟩
            have hk : es.length + k ≤ 20 := hk
            have e0 : Ext h0 H := e0
            have hb : Nd.bulks es + k * 6343 ≤ 199000 := hb
            have hr : RdL H (es.flatMap Nd.dt) us := hr
            have m3 : CurM H h3 l p ((.row 4 (us.map .raw), .slice a es.length c) :: bag) := m3
            try simp only [go_sem, Nat.reduceBEq]
            cases k with
            | zero =>
              simp only [show decide ((0 : Int) < ((0 : Nat) : Int)) = false from rfl, go_sem, Nat.reduceBEq, Nat.reduceAdd, Nat.reduceLeDiff]
              obtain ⟨H4, e4, r4, m4⟩ := cur_fix m3 hr
              exact NodP.base (e0.trans e4) (NodP.mk 56 0 ⟨#[]⟩ r4 rfl (by rw [show (ByteArray.mk #[]).size = 0 from rfl, Nat.zero_add]; exact Nat.le_trans (Nat.le_add_right _ _) hb) m4)
            | succ k =>
            have w2 : IntKind.i64.wrap (((k + 1 : Nat) : Int) - 1) = (k : Nat) := by rw [IntWalk.i64_in _ (by omega)]; omega
            simp only [show decide ((0 : Int) < ((k + 1 : Nat) : Int)) = true from decide_eq_true (by omega), go_sem]
            refine regionD_intro (lb := [104]) (by kernel_rfl) ?_
            try simp only [go_sem, Nat.reduceBEq]
            refine (l15Step_c hl 2 (by decide) 2 (by decide) (by decide) false false m3).mono ?_
            rintro _ h4 ⟨H4, x, a4, c4, rfl, e4, b4, r4, m4⟩
            try simp only [go_sem, Nat.reduceBEq]
            refine cur_nodes [(x, .slice a4 x.kids.length c4)] [x] rfl slT24 rfl rfl rfl (by decide) (by decide) (all1 r4) m4 fun H5 a5 c5 h5 e5 r5 m5 => ?_
            try simp only [go_sem, Nat.reduceBEq]
            refine cur_nadd (es := es) slT24 rfl rfl (by decide) m5 (hr.mono (e4.trans e5)) r5 (by omega) (Nat.le_of_ble_eq_true rfl) fun us6 a6 c6 h6 hr6 m6 => ?_
            simp only [w2, go_sem, Nat.reduceBEq, Nat.reduceAdd, Nat.reduceLeDiff]
            exact Again.intro (H5, k, es ++ [x], us6, a6, c6) (by first | omega | (simp only; omega)) ⟨(by show (es ++ [x]).length + k ≤ 20; rw [List.length_append, List.length_cons, List.length_nil]; omega), e0.trans (e4.trans e5), (by show Nd.bulks (es ++ [x]) + k * 6343 ≤ _; rw [Nd.bulks_app, Nd.bulks_cons, Nd.bulks_nil]; omega), hr6, m6⟩ (by repeat (first | exact wkF_e | refine wkF_c rfl ?_)) (wkB_c rfl (wkB_c rfl wkB_e)) rfl
        · try simp only [go_sem, Nat.reduceBEq]
          refine cur_nodes [((Nd.mk 1 2 ⟨#[]⟩ []), .slice none 0 0)] [(Nd.mk 1 2 ⟨#[]⟩ [])] rfl slT24 rfl rfl rfl (by decide) (by decide) (all1 (rdn_nil _)) m404 fun H463 a463 c463 h463 e463 r463 m463 => ?_
          try simp only [go_sem]
          refine (l15N_c _ _ _ _ _ _).mono ?_
          rintro _ _ ⟨rfl, rfl⟩
          try simp only [go_sem, Nat.reduceBEq]
          refine (l1Below_c hl m463 2 (by decide) (by decide)).mono ?_
          rintro _ h465 ⟨n465, rfl, p465, q465, m465⟩
          try simp only [go_sem, Nat.reduceBEq, Nat.reduceAdd, Nat.reduceLeDiff]
          refine cur_own [((Nd.mk 53 0 ⟨#[84]⟩ []), .slice none 0 0), ((Nd.mk 54 n465 ⟨#[112]⟩ [(Nd.mk 1 2 ⟨#[]⟩ [])]), .slice a463 1 c463)] [(Nd.mk 53 0 ⟨#[84]⟩ []), (Nd.mk 54 n465 ⟨#[112]⟩ [(Nd.mk 1 2 ⟨#[]⟩ [])])] rfl slT24 rfl rfl rfl (by decide) (by decide) (allc (rdn_nil _) (all1 r463)) m465 fun u466 a466 c466 h466 r466 m466 => ?_
          try simp only [go_sem, Nat.reduceBEq]
          refine cur_strs [⟨#[109]⟩, ⟨#[95, 95, 99, 111, 110, 115, 116, 114, 117, 99, 116]⟩, ⟨#[95, 95, 100, 101, 115, 116, 114, 117, 99, 116]⟩] slT47 rfl rfl rfl (by decide) (by decide) m466 fun v467 h467 m467 => ?_
          try simp only [go_sem, Nat.reduceBEq]
          refine (l1Str_c hl m467 (by decide) (by decide)).mono ?_
          rintro _ g467 ⟨s467, t467, rfl, m467⟩
          have z467 := (by decide : ∀ s ∈ ([⟨#[109]⟩, ⟨#[95, 95, 99, 111, 110, 115, 116, 114, 117, 99, 116]⟩, ⟨#[95, 95, 100, 101, 115, 116, 114, 117, 99, 116]⟩] : List ByteArray), s.size ≤ 11) s467 t467
          clear t467
          have m467 := m467.drop
          try simp only [go_sem, Nat.reduceBEq]
          refine (l1Below_c hl m467 2 (by decide) (by decide)).mono ?_
          rintro _ h468 ⟨n468, rfl, p468, q468, m468⟩
          try simp only [go_sem, Nat.reduceBEq]
          refine (l15Func_c hl 55 n468 s467 (by omega) false m468).mono ?_
          rintro _ h469 ⟨H469, x469, a469, c469, rfl, e469, b469, r469, m469⟩
          try simp only [go_sem, Nat.reduceBEq]
          refine cur_nodes [(x469, .slice a469 x469.kids.length c469)] [x469] rfl slT24 rfl rfl rfl (by decide) (by decide) (all1 r469) m469 fun H470 a470 c470 h470 e470 r470 m470 => ?_
          try simp only [go_sem, Nat.reduceBEq]
          refine cur_nadd (es := [(Nd.mk 53 0 ⟨#[84]⟩ []), (Nd.mk 54 n465 ⟨#[112]⟩ [(Nd.mk 1 2 ⟨#[]⟩ [])])]) slT24 rfl rfl (by decide) m470 ((r466.mono e469).mono e470) r470 (Nat.le_of_ble_eq_true rfl) (Nat.le_of_ble_eq_true rfl) fun u471 a471 c471 h471 r471 m471 => ?_
          try simp only [go_sem, Nat.reduceBEq, Nat.reduceAdd]
          refine (l15Func_c hl 55 2 ⟨#[115]⟩ (by decide) false m471).mono ?_
          rintro _ h472 ⟨H472, x472, a472, c472, rfl, e472, b472, r472, m472⟩
          try simp only [go_sem, Nat.reduceBEq]
          refine cur_nodes [(x472, .slice a472 x472.kids.length c472)] [x472] rfl slT24 rfl rfl rfl (by decide) (by decide) (all1 r472) m472 fun H473 a473 c473 h473 e473 r473 m473 => ?_
          try simp only [go_sem, Nat.reduceBEq]
          refine cur_nadd (es := ([(Nd.mk 53 0 ⟨#[84]⟩ []), (Nd.mk 54 n465 ⟨#[112]⟩ [(Nd.mk 1 2 ⟨#[]⟩ [])])] ++ [x469])) slT24 rfl rfl (by decide) m473 ((r471.mono e472).mono e473) r473 (Nat.le_of_ble_eq_true rfl) (Nat.le_of_ble_eq_true rfl) fun u474 a474 c474 h474 r474 m474 => ?_
          try simp only [go_sem, Nat.reduceBEq, Nat.reduceAdd]
          refine regionD_intro (lb := [65]) (by kernel_rfl) ?_
          try simp only [go_sem, Nat.reduceBEq]
          obtain ⟨H475, e475, r475, m475⟩ := cur_fix m474 r474
          refine (l15N_c _ _ _ _ _ _).mono ?_
          rintro _ _ ⟨rfl, rfl⟩
          try simp only [go_sem, Nat.reduceBEq]
          refine cur_nodes [((Nd.mk 50 0 ⟨#[65]⟩ (([(Nd.mk 53 0 ⟨#[84]⟩ []), (Nd.mk 54 n465 ⟨#[112]⟩ [(Nd.mk 1 2 ⟨#[]⟩ [])])] ++ [x469]) ++ [x472])), .slice a474 (([(Nd.mk 53 0 ⟨#[84]⟩ []), (Nd.mk 54 n465 ⟨#[112]⟩ [(Nd.mk 1 2 ⟨#[]⟩ [])])] ++ [x469]) ++ [x472]).length c474)] [(Nd.mk 50 0 ⟨#[65]⟩ (([(Nd.mk 53 0 ⟨#[84]⟩ []), (Nd.mk 54 n465 ⟨#[112]⟩ [(Nd.mk 1 2 ⟨#[]⟩ [])])] ++ [x469]) ++ [x472]))] rfl slT24 rfl rfl rfl (by decide) (by decide) (all1 r475) m475 fun H476 a476 c476 h476 e476 r476 m476 => ?_
          try simp only [go_sem, Nat.reduceBEq]
          refine cur_nadd (es := (([] ++ [x393]) ++ [(Nd.mk 51 0 ⟨#[84]⟩ [x401])])) slT24 rfl rfl (by decide) m476 (((((((r404.mono e463).mono e469).mono e470).mono e472).mono e473).mono e475).mono e476) r476 (Nat.le_of_ble_eq_true rfl) (Nat.le_of_ble_eq_true rfl) fun u477 a477 c477 h477 r477 m477 => ?_
          try simp only [go_sem, Nat.reduceBEq, Nat.reduceAdd, Nat.reduceLeDiff]
          refine regionD_intro (lb := [72]) (by kernel_rfl) ?_
          try simp only [go_sem, Nat.reduceBEq]
          refine (l15N_c _ _ _ _ _ _).mono ?_
          rintro _ _ ⟨rfl, rfl⟩
          try simp only [go_sem, Nat.reduceBEq]
          refine (l15Func_c hl 55 0 ⟨#[109]⟩ (by decide) false m477).mono ?_
          rintro _ h479 ⟨H479, x479, a479, c479, rfl, e479, b479, r479, m479⟩
          try simp only [go_sem, Nat.reduceBEq]
          refine cur_nodes [((Nd.mk 52 0 ⟨#[65]⟩ []), .slice none 0 0), (x479, .slice a479 x479.kids.length c479)] [(Nd.mk 52 0 ⟨#[65]⟩ []), x479] rfl slT24 rfl rfl rfl (by decide) (by decide) (allc ((rdn_nil _).mono e479) (all1 r479)) m479 fun H480 a480 c480 h480 e480 r480 m480 => ?_
          try simp only [go_sem, Nat.reduceBEq]
          refine (l15N_c _ _ _ _ _ _).mono ?_
          rintro _ _ ⟨rfl, rfl⟩
          try simp only [go_sem, Nat.reduceBEq]
          refine cur_nodes [((Nd.mk 50 0 ⟨#[66]⟩ [(Nd.mk 52 0 ⟨#[65]⟩ []), x479]), .slice a480 2 c480)] [(Nd.mk 50 0 ⟨#[66]⟩ [(Nd.mk 52 0 ⟨#[65]⟩ []), x479])] rfl slT24 rfl rfl rfl (by decide) (by decide) (all1 r480) m480 fun H481 a481 c481 h481 e481 r481 m481 => ?_
          try simp only [go_sem, Nat.reduceBEq]
          refine cur_nadd (es := ((([] ++ [x393]) ++ [(Nd.mk 51 0 ⟨#[84]⟩ [x401])]) ++ [(Nd.mk 50 0 ⟨#[65]⟩ (([(Nd.mk 53 0 ⟨#[84]⟩ []), (Nd.mk 54 n465 ⟨#[112]⟩ [(Nd.mk 1 2 ⟨#[]⟩ [])])] ++ [x469]) ++ [x472]))])) slT24 rfl rfl (by decide) m481 (((r477.mono e479).mono e480).mono e481) r481 (Nat.le_of_ble_eq_true rfl) (Nat.le_of_ble_eq_true rfl) fun u482 a482 c482 h482 r482 m482 => ?_
          try simp only [go_sem, Nat.reduceBEq, Nat.reduceAdd, Nat.reduceLeDiff]
          refine (l15N_c _ _ _ _ _ _).mono ?_
          rintro _ _ ⟨rfl, rfl⟩
          try simp only [go_sem, Nat.reduceBEq, Nat.reduceAdd, Nat.reduceLeDiff]
          refine regionD_intro (lb := [83, 84]) (by kernel_rfl) ?_
          try simp only [go_sem, Nat.reduceBEq, Nat.reduceAdd, Nat.reduceLeDiff]
          refine cur_strs [⟨#[65]⟩, ⟨#[66]⟩] slT47 rfl rfl rfl (by decide) (by decide) m482 fun v484 h484 m484 => ?_
          try simp only [go_sem, Nat.reduceBEq]
          refine (l1Str_c hl m484 (by decide) (by decide)).mono ?_
          rintro _ g484 ⟨s484, t484, rfl, m484⟩
          have z484 := (by decide : ∀ s ∈ ([⟨#[65]⟩, ⟨#[66]⟩] : List ByteArray), s.size ≤ 1) s484 t484
          clear t484
          have m484 := m484.drop
          try simp only [go_sem, Nat.reduceBEq]
          refine (l15N_c _ _ _ _ _ _).mono ?_
          rintro _ _ ⟨rfl, rfl⟩
          try simp only [go_sem, Nat.reduceBEq]
          refine cur_nodes [((Nd.mk 4 0 ⟨#[111]⟩ []), .slice none 0 0), ((Nd.mk 22 0 s484 []), .slice none 0 0)] [(Nd.mk 4 0 ⟨#[111]⟩ []), (Nd.mk 22 0 s484 [])] rfl slT24 rfl rfl rfl (by decide) (by decide) (allc (rdn_nil _) (all1 (rdn_nil _))) m484 fun H486 a486 c486 h486 e486 r486 m486 => ?_
          try simp only [go_sem, Nat.reduceBEq]
          refine (l15N_c _ _ _ _ _ _).mono ?_
          rintro _ _ ⟨rfl, rfl⟩
          try simp only [go_sem, Nat.reduceBEq]
          refine cur_nodes [((Nd.mk 15 0 ⟨#[]⟩ [(Nd.mk 4 0 ⟨#[111]⟩ []), (Nd.mk 22 0 s484 [])]), .slice a486 2 c486)] [(Nd.mk 15 0 ⟨#[]⟩ [(Nd.mk 4 0 ⟨#[111]⟩ []), (Nd.mk 22 0 s484 [])])] rfl slT24 rfl rfl rfl (by decide) (by decide) (all1 r486) m486 fun H487 a487 c487 h487 e487 r487 m487 => ?_
          try simp only [go_sem, Nat.reduceBEq]
          refine (l15N_c _ _ _ _ _ _).mono ?_
          rintro _ _ ⟨rfl, rfl⟩
          try simp only [go_sem, Nat.reduceBEq]
          refine cur_nodes [((Nd.mk 33 0 ⟨#[]⟩ [(Nd.mk 15 0 ⟨#[]⟩ [(Nd.mk 4 0 ⟨#[111]⟩ []), (Nd.mk 22 0 s484 [])])]), .slice a487 1 c487)] [(Nd.mk 33 0 ⟨#[]⟩ [(Nd.mk 15 0 ⟨#[]⟩ [(Nd.mk 4 0 ⟨#[111]⟩ []), (Nd.mk 22 0 s484 [])])])] rfl slT24 rfl rfl rfl (by decide) (by decide) (all1 r487) m487 fun H488 a488 c488 h488 e488 r488 m488 => ?_
          try simp only [go_sem, Nat.reduceBEq]
          refine cur_nadd (es := (((([] ++ [x393]) ++ [(Nd.mk 51 0 ⟨#[84]⟩ [x401])]) ++ [(Nd.mk 50 0 ⟨#[65]⟩ (([(Nd.mk 53 0 ⟨#[84]⟩ []), (Nd.mk 54 n465 ⟨#[112]⟩ [(Nd.mk 1 2 ⟨#[]⟩ [])])] ++ [x469]) ++ [x472]))]) ++ [(Nd.mk 50 0 ⟨#[66]⟩ [(Nd.mk 52 0 ⟨#[65]⟩ []), x479])])) slT24 rfl rfl (by decide) m488 (((r482.mono e486).mono e487).mono e488) r488 (Nat.le_of_ble_eq_true rfl) (Nat.le_of_ble_eq_true rfl) fun u489 a489 c489 h489 r489 m489 => ?_
          try simp only [go_sem, Nat.reduceBEq, Nat.reduceAdd, Nat.reduceLeDiff]
          refine (l1Below_c hl m489 5 (by decide) (by decide)).mono ?_
          rintro _ h490 ⟨n490, rfl, p490, q490, m490⟩
          try simp only [go_sem, Nat.reduceBEq]
          obtain ⟨i, rfl⟩ : ∃ i : Nat, n490 = i := ⟨n490.toNat, by omega⟩
          have w1 : IntKind.i64.wrap (1 + (i : Int)) = ((i + 1 : Nat) : Int) := by rw [IntWalk.i64_in _ (by omega)]; omega
          simp only [w1, go_sem]
          refine aloop (ι := Hp × Nat × List Nd × List Value × Option Addr × Nat) (fun x => [(7, .val (.int .i64 (x.2.1 : Nat))), (3, .box 3 0), (2, .box 2 0), (0, .val (pv p))])
            (fun x => [(3, [.int .i64 56, .int .i64 0, .string ⟨#[]⟩, .slice x.2.2.2.2.1 x.2.2.1.length x.2.2.2.2.2]), (2, [.int .i64 0, .int .i64 0, .string ⟨#[]⟩, .slice none 0 0])])
            (fun x h' => x.2.2.1.length + x.2.1 ≤ 20 ∧ Ext h0 x.1 ∧ Nd.bulks x.2.2.1 + x.2.1 * 6343 ≤ 199000 ∧ RdL x.1 (x.2.2.1.flatMap Nd.dt) x.2.2.2.1 ∧ CurM x.1 h' l p ((.row 4 (x.2.2.2.1.map .raw), .slice x.2.2.2.2.1 x.2.2.1.length x.2.2.2.2.2) :: bag))
            (fun x => x.2.1) (H488, i + 1, ((((([] ++ [x393]) ++ [(Nd.mk 51 0 ⟨#[84]⟩ [x401])]) ++ [(Nd.mk 50 0 ⟨#[65]⟩ (([(Nd.mk 53 0 ⟨#[84]⟩ []), (Nd.mk 54 n465 ⟨#[112]⟩ [(Nd.mk 1 2 ⟨#[]⟩ [])])] ++ [x469]) ++ [x472]))]) ++ [(Nd.mk 50 0 ⟨#[66]⟩ [(Nd.mk 52 0 ⟨#[65]⟩ []), x479])]) ++ [(Nd.mk 33 0 ⟨#[]⟩ [(Nd.mk 15 0 ⟨#[]⟩ [(Nd.mk 4 0 ⟨#[111]⟩ []), (Nd.mk 22 0 s484 [])])])]), u489, a489, c489) ⟨(by show List.length ((((([] ++ [x393]) ++ [(Nd.mk 51 0 ⟨#[84]⟩ [x401])]) ++ [(Nd.mk 50 0 ⟨#[65]⟩ (([(Nd.mk 53 0 ⟨#[84]⟩ []), (Nd.mk 54 n465 ⟨#[112]⟩ [(Nd.mk 1 2 ⟨#[]⟩ [])])] ++ [x469]) ++ [x472]))]) ++ [(Nd.mk 50 0 ⟨#[66]⟩ [(Nd.mk 52 0 ⟨#[65]⟩ []), x479])]) ++ [(Nd.mk 33 0 ⟨#[]⟩ [(Nd.mk 15 0 ⟨#[]⟩ [(Nd.mk 4 0 ⟨#[111]⟩ []), (Nd.mk 22 0 s484 [])])])]) + (i + 1) ≤ 20; simp only [List.length_append, List.length_cons, List.length_nil]; omega), (((((((((((((((((e393.trans e394).trans e401).trans e402).trans e403).trans e463).trans e469).trans e470).trans e472).trans e473).trans e475).trans e476).trans e479).trans e480).trans e481).trans e486).trans e487).trans e488), (by show Nd.bulks ((((([] ++ [x393]) ++ [(Nd.mk 51 0 ⟨#[84]⟩ [x401])]) ++ [(Nd.mk 50 0 ⟨#[65]⟩ (([(Nd.mk 53 0 ⟨#[84]⟩ []), (Nd.mk 54 n465 ⟨#[112]⟩ [(Nd.mk 1 2 ⟨#[]⟩ [])])] ++ [x469]) ++ [x472]))]) ++ [(Nd.mk 50 0 ⟨#[66]⟩ [(Nd.mk 52 0 ⟨#[65]⟩ []), x479])]) ++ [(Nd.mk 33 0 ⟨#[]⟩ [(Nd.mk 15 0 ⟨#[]⟩ [(Nd.mk 4 0 ⟨#[111]⟩ []), (Nd.mk 22 0 s484 [])])])]) + (i + 1) * 6343 ≤ 199000; simp only [bsz, Nd.bulk_mk, Nd.bulks_cons, Nd.bulks_nil, Nd.bulks_app, List.size_toArray, List.length_cons, List.length_nil]; omega), r489, m490⟩ (by repeat (first | exact wkF_e | refine wkF_c rfl ?_)) (wkB_c rfl (wkB_c rfl wkB_e)) rfl ?_
          rintro ⟨H, k, es, us, a, c⟩ h3 ⟨hk, e0, hb, hr, m3⟩
          have hk : es.length + k ≤ 20 := hk
          have e0 : Ext h0 H := e0
          have hb : Nd.bulks es + k * 6343 ≤ 199000 := hb
          have hr : RdL H (es.flatMap Nd.dt) us := hr
          have m3 : CurM H h3 l p ((.row 4 (us.map .raw), .slice a es.length c) :: bag) := m3
          try simp only [go_sem, Nat.reduceBEq]
          cases k with
          | zero =>
            simp only [show decide ((0 : Int) < ((0 : Nat) : Int)) = false from rfl, go_sem, Nat.reduceBEq, Nat.reduceAdd, Nat.reduceLeDiff]
            obtain ⟨H4, e4, r4, m4⟩ := cur_fix m3 hr
            exact NodP.base (e0.trans e4) (NodP.mk 56 0 ⟨#[]⟩ r4 rfl (by rw [show (ByteArray.mk #[]).size = 0 from rfl, Nat.zero_add]; exact Nat.le_trans (Nat.le_add_right _ _) hb) m4)
          | succ k =>
          have w2 : IntKind.i64.wrap (((k + 1 : Nat) : Int) - 1) = (k : Nat) := by rw [IntWalk.i64_in _ (by omega)]; omega
          simp only [show decide ((0 : Int) < ((k + 1 : Nat) : Int)) = true from decide_eq_true (by omega), go_sem]
          refine regionD_intro (lb := [104]) (by kernel_rfl) ?_
          try simp only [go_sem, Nat.reduceBEq]
          refine (l15Step_c hl 2 (by decide) 2 (by decide) (by decide) false false m3).mono ?_
          rintro _ h4 ⟨H4, x, a4, c4, rfl, e4, b4, r4, m4⟩
          try simp only [go_sem, Nat.reduceBEq]
          refine cur_nodes [(x, .slice a4 x.kids.length c4)] [x] rfl slT24 rfl rfl rfl (by decide) (by decide) (all1 r4) m4 fun H5 a5 c5 h5 e5 r5 m5 => ?_
          try simp only [go_sem, Nat.reduceBEq]
          refine cur_nadd (es := es) slT24 rfl rfl (by decide) m5 (hr.mono (e4.trans e5)) r5 (by omega) (Nat.le_of_ble_eq_true rfl) fun us6 a6 c6 h6 hr6 m6 => ?_
          simp only [w2, go_sem, Nat.reduceBEq, Nat.reduceAdd, Nat.reduceLeDiff]
          exact Again.intro (H5, k, es ++ [x], us6, a6, c6) (by first | omega | (simp only; omega)) ⟨(by show (es ++ [x]).length + k ≤ 20; rw [List.length_append, List.length_cons, List.length_nil]; omega), e0.trans (e4.trans e5), (by show Nd.bulks (es ++ [x]) + k * 6343 ≤ _; rw [Nd.bulks_app, Nd.bulks_cons, Nd.bulks_nil]; omega), hr6, m6⟩ (by repeat (first | exact wkF_e | refine wkF_c rfl ?_)) (wkB_c rfl (wkB_c rfl wkB_e)) rfl
    | true =>
      try simp only [go_sem]
      refine regionD_intro (lb := [21]) (by kernel_rfl) ?_
      try simp only [go_sem, Nat.reduceBEq]
      refine (l15Func_c hl 49 0 ⟨#[103, 101, 110]⟩ (by decide) true m396).mono ?_
      rintro _ h492 ⟨H492, x492, a492, c492, rfl, e492, b492, r492, m492⟩
      try simp only [go_sem, Nat.reduceBEq]
      refine cur_nodes [(x492, .slice a492 x492.kids.length c492)] [x492] rfl slT24 rfl rfl rfl (by decide) (by decide) (all1 r492) m492 fun H493 a493 c493 h493 e493 r493 m493 => ?_
      try simp only [go_sem, Nat.reduceBEq]
      refine cur_nadd (es := ([] ++ [x393])) slT24 rfl rfl (by decide) m493 ((r395.mono e492).mono e493) r493 (Nat.le_of_ble_eq_true rfl) (Nat.le_of_ble_eq_true rfl) fun u494 a494 c494 h494 r494 m494 => ?_
      try simp only [go_sem, Nat.reduceBEq, Nat.reduceAdd, Nat.reduceLeDiff]
      refine (l1Once_c hl m494 3 (by decide) (by decide)).mono ?_
      rintro _ h495 ⟨y495, rfl, m495⟩
      try simp only [go_sem, Nat.reduceBEq]
      cases y495 with
      | false =>
        try simp only [go_sem, Nat.reduceBEq]
        refine (l1Below_c hl m495 5 (by decide) (by decide)).mono ?_
        rintro _ h496 ⟨n496, rfl, p496, q496, m496⟩
        try simp only [go_sem, Nat.reduceBEq]
        obtain ⟨i, rfl⟩ : ∃ i : Nat, n496 = i := ⟨n496.toNat, by omega⟩
        have w1 : IntKind.i64.wrap (1 + (i : Int)) = ((i + 1 : Nat) : Int) := by rw [IntWalk.i64_in _ (by omega)]; omega
        simp only [w1, go_sem]
        refine aloop (ι := Hp × Nat × List Nd × List Value × Option Addr × Nat) (fun x => [(7, .val (.int .i64 (x.2.1 : Nat))), (3, .box 3 0), (2, .box 2 0), (0, .val (pv p))])
          (fun x => [(3, [.int .i64 56, .int .i64 0, .string ⟨#[]⟩, .slice x.2.2.2.2.1 x.2.2.1.length x.2.2.2.2.2]), (2, [.int .i64 0, .int .i64 0, .string ⟨#[]⟩, .slice none 0 0])])
          (fun x h' => x.2.2.1.length + x.2.1 ≤ 20 ∧ Ext h0 x.1 ∧ Nd.bulks x.2.2.1 + x.2.1 * 6343 ≤ 199000 ∧ RdL x.1 (x.2.2.1.flatMap Nd.dt) x.2.2.2.1 ∧ CurM x.1 h' l p ((.row 4 (x.2.2.2.1.map .raw), .slice x.2.2.2.2.1 x.2.2.1.length x.2.2.2.2.2) :: bag))
          (fun x => x.2.1) (H493, i + 1, (([] ++ [x393]) ++ [x492]), u494, a494, c494) ⟨(by show List.length (([] ++ [x393]) ++ [x492]) + (i + 1) ≤ 20; simp only [List.length_append, List.length_cons, List.length_nil]; omega), (((e393.trans e394).trans e492).trans e493), (by show Nd.bulks (([] ++ [x393]) ++ [x492]) + (i + 1) * 6343 ≤ 199000; simp only [Nd.bulks_cons, Nd.bulks_nil, Nd.bulks_app]; omega), r494, m496⟩ (by repeat (first | exact wkF_e | refine wkF_c rfl ?_)) (wkB_c rfl (wkB_c rfl wkB_e)) rfl ?_
        rintro ⟨H, k, es, us, a, c⟩ h3 ⟨hk, e0, hb, hr, m3⟩
        have hk : es.length + k ≤ 20 := hk
        have e0 : Ext h0 H := e0
        have hb : Nd.bulks es + k * 6343 ≤ 199000 := hb
        have hr : RdL H (es.flatMap Nd.dt) us := hr
        have m3 : CurM H h3 l p ((.row 4 (us.map .raw), .slice a es.length c) :: bag) := m3
        try simp only [go_sem, Nat.reduceBEq]
        cases k with
        | zero =>
          simp only [show decide ((0 : Int) < ((0 : Nat) : Int)) = false from rfl, go_sem, Nat.reduceBEq, Nat.reduceAdd, Nat.reduceLeDiff]
          obtain ⟨H4, e4, r4, m4⟩ := cur_fix m3 hr
          exact NodP.base (e0.trans e4) (NodP.mk 56 0 ⟨#[]⟩ r4 rfl (by rw [show (ByteArray.mk #[]).size = 0 from rfl, Nat.zero_add]; exact Nat.le_trans (Nat.le_add_right _ _) hb) m4)
        | succ k =>
        have w2 : IntKind.i64.wrap (((k + 1 : Nat) : Int) - 1) = (k : Nat) := by rw [IntWalk.i64_in _ (by omega)]; omega
        simp only [show decide ((0 : Int) < ((k + 1 : Nat) : Int)) = true from decide_eq_true (by omega), go_sem]
        refine regionD_intro (lb := [104]) (by kernel_rfl) ?_
        try simp only [go_sem, Nat.reduceBEq]
        refine (l15Step_c hl 2 (by decide) 2 (by decide) (by decide) false false m3).mono ?_
        rintro _ h4 ⟨H4, x, a4, c4, rfl, e4, b4, r4, m4⟩
        try simp only [go_sem, Nat.reduceBEq]
        refine cur_nodes [(x, .slice a4 x.kids.length c4)] [x] rfl slT24 rfl rfl rfl (by decide) (by decide) (all1 r4) m4 fun H5 a5 c5 h5 e5 r5 m5 => ?_
        try simp only [go_sem, Nat.reduceBEq]
        refine cur_nadd (es := es) slT24 rfl rfl (by decide) m5 (hr.mono (e4.trans e5)) r5 (by omega) (Nat.le_of_ble_eq_true rfl) fun us6 a6 c6 h6 hr6 m6 => ?_
        simp only [w2, go_sem, Nat.reduceBEq, Nat.reduceAdd, Nat.reduceLeDiff]
        exact Again.intro (H5, k, es ++ [x], us6, a6, c6) (by first | omega | (simp only; omega)) ⟨(by show (es ++ [x]).length + k ≤ 20; rw [List.length_append, List.length_cons, List.length_nil]; omega), e0.trans (e4.trans e5), (by show Nd.bulks (es ++ [x]) + k * 6343 ≤ _; rw [Nd.bulks_app, Nd.bulks_cons, Nd.bulks_nil]; omega), hr6, m6⟩ (by repeat (first | exact wkF_e | refine wkF_c rfl ?_)) (wkB_c rfl (wkB_c rfl wkB_e)) rfl
      | true =>
        try simp only [go_sem]
        refine regionD_intro (lb := [30]) (by kernel_rfl) ?_
        try simp only [go_sem, Nat.reduceBEq]
        refine cur_strs [⟨#[109]⟩, ⟨#[116]⟩, ⟨#[95, 95, 103, 101, 116]⟩, ⟨#[95, 95, 99, 97, 108, 108]⟩] slT47 rfl rfl rfl (by decide) (by decide) m495 fun v498 h498 m498 => ?_
        try simp only [go_sem, Nat.reduceBEq]
        refine (l1Str_c hl m498 (by decide) (by decide)).mono ?_
        rintro _ g498 ⟨s498, t498, rfl, m498⟩
        have z498 := (by decide : ∀ s ∈ ([⟨#[109]⟩, ⟨#[116]⟩, ⟨#[95, 95, 103, 101, 116]⟩, ⟨#[95, 95, 99, 97, 108, 108]⟩] : List ByteArray), s.size ≤ 6) s498 t498
        clear t498
        have m498 := m498.drop
        try simp only [go_sem, Nat.reduceBEq]
        refine (l15Func_c hl 55 0 s498 (by omega) false m498).mono ?_
        rintro _ h499 ⟨H499, x499, a499, c499, rfl, e499, b499, r499, m499⟩
        try simp only [go_sem, Nat.reduceBEq]
        refine cur_nodes [(x499, .slice a499 x499.kids.length c499)] [x499] rfl slT24 rfl rfl rfl (by decide) (by decide) (all1 r499) m499 fun H500 a500 c500 h500 e500 r500 m500 => ?_
        try simp only [go_sem, Nat.reduceBEq]
        refine (l15N_c _ _ _ _ _ _).mono ?_
        rintro _ _ ⟨rfl, rfl⟩
        try simp only [go_sem, Nat.reduceBEq]
        refine cur_nodes [((Nd.mk 51 0 ⟨#[84]⟩ [x499]), .slice a500 1 c500)] [(Nd.mk 51 0 ⟨#[84]⟩ [x499])] rfl slT24 rfl rfl rfl (by decide) (by decide) (all1 r500) m500 fun H501 a501 c501 h501 e501 r501 m501 => ?_
        try simp only [go_sem, Nat.reduceBEq]
        refine cur_nadd (es := (([] ++ [x393]) ++ [x492])) slT24 rfl rfl (by decide) m501 (((r494.mono e499).mono e500).mono e501) r501 (Nat.le_of_ble_eq_true rfl) (Nat.le_of_ble_eq_true rfl) fun u502 a502 c502 h502 r502 m502 => ?_
        try simp only [go_sem, Nat.reduceBEq, Nat.reduceAdd, Nat.reduceLeDiff]
        refine regionT_intro (lb := [45]) (.two [1, 3] 0 (.two [] 2 (.one [4, 5, 6, 7]) 4 (.one [2, 5, 6, 7])) 4 (.one [0, 2, 5, 6, 7])) (by kernel_rfl) ?_
        simp only [runPlan_two, runPlan_one, plk_c, plk_n, plk_s, List.getElem?_toArray, List.getElem?_cons_succ, List.getElem?_cons_zero, go_sem, Nat.reduceBEq, Nat.reduceAdd, Nat.reduceLeDiff]
        refine bothK_mk ?_ ?_
        · try simp only [go_sem]
          refine (l15N_c _ _ _ _ _ _).mono ?_
          rintro _ _ ⟨rfl, rfl⟩
          try simp only [go_sem]
          refine bothK_mk ?_ ?_
          · try simp only [go_sem, Nat.reduceBEq]
            refine (l1Below_c hl m502 2 (by decide) (by decide)).mono ?_
            rintro _ h505 ⟨n505, rfl, p505, q505, m505⟩
            try simp only [go_sem, Nat.reduceBEq]
            refine cur_nodes [((Nd.mk 1 2 ⟨#[]⟩ []), .slice none 0 0)] [(Nd.mk 1 2 ⟨#[]⟩ [])] rfl slT24 rfl rfl rfl (by decide) (by decide) (all1 (rdn_nil _)) m505 fun H506 a506 c506 h506 e506 r506 m506 => ?_
            try simp only [go_sem, Nat.reduceBEq, Nat.reduceAdd, Nat.reduceLeDiff]
            refine cur_own [((Nd.mk 53 0 ⟨#[84]⟩ []), .slice none 0 0), ((Nd.mk 54 n505 ⟨#[112]⟩ [(Nd.mk 1 2 ⟨#[]⟩ [])]), .slice a506 1 c506)] [(Nd.mk 53 0 ⟨#[84]⟩ []), (Nd.mk 54 n505 ⟨#[112]⟩ [(Nd.mk 1 2 ⟨#[]⟩ [])])] rfl slT24 rfl rfl rfl (by decide) (by decide) (allc ((rdn_nil _).mono e506) (all1 r506)) m506 fun u507 a507 c507 h507 r507 m507 => ?_
            try simp only [go_sem, Nat.reduceBEq]
            refine cur_strs [⟨#[109]⟩, ⟨#[95, 95, 99, 111, 110, 115, 116, 114, 117, 99, 116]⟩, ⟨#[95, 95, 100, 101, 115, 116, 114, 117, 99, 116]⟩] slT47 rfl rfl rfl (by decide) (by decide) m507 fun v508 h508 m508 => ?_
            try simp only [go_sem, Nat.reduceBEq]
            refine (l1Str_c hl m508 (by decide) (by decide)).mono ?_
            rintro _ g508 ⟨s508, t508, rfl, m508⟩
            have z508 := (by decide : ∀ s ∈ ([⟨#[109]⟩, ⟨#[95, 95, 99, 111, 110, 115, 116, 114, 117, 99, 116]⟩, ⟨#[95, 95, 100, 101, 115, 116, 114, 117, 99, 116]⟩] : List ByteArray), s.size ≤ 11) s508 t508
            clear t508
            have m508 := m508.drop
            try simp only [go_sem, Nat.reduceBEq]
            refine (l1Below_c hl m508 2 (by decide) (by decide)).mono ?_
            rintro _ h509 ⟨n509, rfl, p509, q509, m509⟩
            try simp only [go_sem, Nat.reduceBEq]
            refine (l15Func_c hl 55 n509 s508 (by omega) false m509).mono ?_
            rintro _ h510 ⟨H510, x510, a510, c510, rfl, e510, b510, r510, m510⟩
            try simp only [go_sem, Nat.reduceBEq]
            refine cur_nodes [(x510, .slice a510 x510.kids.length c510)] [x510] rfl slT24 rfl rfl rfl (by decide) (by decide) (all1 r510) m510 fun H511 a511 c511 h511 e511 r511 m511 => ?_
            try simp only [go_sem, Nat.reduceBEq]
            refine cur_nadd (es := [(Nd.mk 53 0 ⟨#[84]⟩ []), (Nd.mk 54 n505 ⟨#[112]⟩ [(Nd.mk 1 2 ⟨#[]⟩ [])])]) slT24 rfl rfl (by decide) m511 ((r507.mono e510).mono e511) r511 (Nat.le_of_ble_eq_true rfl) (Nat.le_of_ble_eq_true rfl) fun u512 a512 c512 h512 r512 m512 => ?_
            try simp only [go_sem, Nat.reduceBEq, Nat.reduceAdd]
            refine (l15Func_c hl 55 2 ⟨#[115]⟩ (by decide) false m512).mono ?_
            rintro _ h513 ⟨H513, x513, a513, c513, rfl, e513, b513, r513, m513⟩
            try simp only [go_sem, Nat.reduceBEq]
            refine cur_nodes [(x513, .slice a513 x513.kids.length c513)] [x513] rfl slT24 rfl rfl rfl (by decide) (by decide) (all1 r513) m513 fun H514 a514 c514 h514 e514 r514 m514 => ?_
            try simp only [go_sem, Nat.reduceBEq]
            refine cur_nadd (es := ([(Nd.mk 53 0 ⟨#[84]⟩ []), (Nd.mk 54 n505 ⟨#[112]⟩ [(Nd.mk 1 2 ⟨#[]⟩ [])])] ++ [x510])) slT24 rfl rfl (by decide) m514 ((r512.mono e513).mono e514) r514 (Nat.le_of_ble_eq_true rfl) (Nat.le_of_ble_eq_true rfl) fun u515 a515 c515 h515 r515 m515 => ?_
            try simp only [go_sem, Nat.reduceBEq, Nat.reduceAdd]
            refine regionD_intro (lb := [65]) (by kernel_rfl) ?_
            try simp only [go_sem, Nat.reduceBEq]
            obtain ⟨H516, e516, r516, m516⟩ := cur_fix m515 r515
            refine (l15N_c _ _ _ _ _ _).mono ?_
            rintro _ _ ⟨rfl, rfl⟩
            try simp only [go_sem, Nat.reduceBEq]
            refine cur_nodes [((Nd.mk 50 0 ⟨#[65]⟩ (([(Nd.mk 53 0 ⟨#[84]⟩ []), (Nd.mk 54 n505 ⟨#[112]⟩ [(Nd.mk 1 2 ⟨#[]⟩ [])])] ++ [x510]) ++ [x513])), .slice a515 (([(Nd.mk 53 0 ⟨#[84]⟩ []), (Nd.mk 54 n505 ⟨#[112]⟩ [(Nd.mk 1 2 ⟨#[]⟩ [])])] ++ [x510]) ++ [x513]).length c515)] [(Nd.mk 50 0 ⟨#[65]⟩ (([(Nd.mk 53 0 ⟨#[84]⟩ []), (Nd.mk 54 n505 ⟨#[112]⟩ [(Nd.mk 1 2 ⟨#[]⟩ [])])] ++ [x510]) ++ [x513]))] rfl slT24 rfl rfl rfl (by decide) (by decide) (all1 r516) m516 fun H517 a517 c517 h517 e517 r517 m517 => ?_
            try simp only [go_sem, Nat.reduceBEq]
            refine cur_nadd (es := ((([] ++ [x393]) ++ [x492]) ++ [(Nd.mk 51 0 ⟨#[84]⟩ [x499])])) slT24 rfl rfl (by decide) m517 (((((((r502.mono e506).mono e510).mono e511).mono e513).mono e514).mono e516).mono e517) r517 (Nat.le_of_ble_eq_true rfl) (Nat.le_of_ble_eq_true rfl) fun u518 a518 c518 h518 r518 m518 => ?_
            try simp only [go_sem, Nat.reduceBEq, Nat.reduceAdd, Nat.reduceLeDiff]
            refine regionD_intro (lb := [72]) (by kernel_rfl) ?_
            try simp only [go_sem, Nat.reduceBEq]
            refine (l15N_c _ _ _ _ _ _).mono ?_
            rintro _ _ ⟨rfl, rfl⟩
            try simp only [go_sem, Nat.reduceBEq]
            refine (l15Func_c hl 55 0 ⟨#[109]⟩ (by decide) false m518).mono ?_
            rintro _ h520 ⟨H520, x520, a520, c520, rfl, e520, b520, r520, m520⟩
            try simp only [go_sem, Nat.reduceBEq]
            refine cur_nodes [((Nd.mk 52 0 ⟨#[65]⟩ []), .slice none 0 0), (x520, .slice a520 x520.kids.length c520)] [(Nd.mk 52 0 ⟨#[65]⟩ []), x520] rfl slT24 rfl rfl rfl (by decide) (by decide) (allc ((rdn_nil _).mono e520) (all1 r520)) m520 fun H521 a521 c521 h521 e521 r521 m521 => ?_
            try simp only [go_sem, Nat.reduceBEq]
            refine (l15N_c _ _ _ _ _ _).mono ?_
            rintro _ _ ⟨rfl, rfl⟩
            try simp only [go_sem, Nat.reduceBEq]
            refine cur_nodes [((Nd.mk 50 0 ⟨#[66]⟩ [(Nd.mk 52 0 ⟨#[65]⟩ []), x520]), .slice a521 2 c521)] [(Nd.mk 50 0 ⟨#[66]⟩ [(Nd.mk 52 0 ⟨#[65]⟩ []), x520])] rfl slT24 rfl rfl rfl (by decide) (by decide) (all1 r521) m521 fun H522 a522 c522 h522 e522 r522 m522 => ?_
            try simp only [go_sem, Nat.reduceBEq]
            refine cur_nadd (es := (((([] ++ [x393]) ++ [x492]) ++ [(Nd.mk 51 0 ⟨#[84]⟩ [x499])]) ++ [(Nd.mk 50 0 ⟨#[65]⟩ (([(Nd.mk 53 0 ⟨#[84]⟩ []), (Nd.mk 54 n505 ⟨#[112]⟩ [(Nd.mk 1 2 ⟨#[]⟩ [])])] ++ [x510]) ++ [x513]))])) slT24 rfl rfl (by decide) m522 (((r518.mono e520).mono e521).mono e522) r522 (Nat.le_of_ble_eq_true rfl) (Nat.le_of_ble_eq_true rfl) fun u523 a523 c523 h523 r523 m523 => ?_
            try simp only [go_sem, Nat.reduceBEq, Nat.reduceAdd, Nat.reduceLeDiff]
            refine (l15N_c _ _ _ _ _ _).mono ?_
            rintro _ _ ⟨rfl, rfl⟩
            try simp only [go_sem, Nat.reduceBEq, Nat.reduceAdd, Nat.reduceLeDiff]
            refine regionD_intro (lb := [83, 84]) (by kernel_rfl) ?_
            try simp only [go_sem, Nat.reduceBEq, Nat.reduceAdd, Nat.reduceLeDiff]
            refine cur_strs [⟨#[65]⟩, ⟨#[66]⟩] slT47 rfl rfl rfl (by decide) (by decide) m523 fun v525 h525 m525 => ?_
            try simp only [go_sem, Nat.reduceBEq]
            refine (l1Str_c hl m525 (by decide) (by decide)).mono ?_
            rintro _ g525 ⟨s525, t525, rfl, m525⟩
            have z525 := (by decide : ∀ s ∈ ([⟨#[65]⟩, ⟨#[66]⟩] : List ByteArray), s.size ≤ 1) s525 t525
            clear t525
            have m525 := m525.drop
            try simp only [go_sem, Nat.reduceBEq]
            refine (l15N_c _ _ _ _ _ _).mono ?_
            rintro _ _ ⟨rfl, rfl⟩
            try simp only [go_sem, Nat.reduceBEq]
            refine cur_nodes [((Nd.mk 4 0 ⟨#[111]⟩ []), .slice none 0 0), ((Nd.mk 22 0 s525 []), .slice none 0 0)] [(Nd.mk 4 0 ⟨#[111]⟩ []), (Nd.mk 22 0 s525 [])] rfl slT24 rfl rfl rfl (by decide) (by decide) (allc (rdn_nil _) (all1 (rdn_nil _))) m525 fun H527 a527 c527 h527 e527 r527 m527 => ?_
            try simp only [go_sem, Nat.reduceBEq]
            refine (l15N_c _ _ _ _ _ _).mono ?_
            rintro _ _ ⟨rfl, rfl⟩
            try simp only [go_sem, Nat.reduceBEq]
            refine cur_nodes [((Nd.mk 15 0 ⟨#[]⟩ [(Nd.mk 4 0 ⟨#[111]⟩ []), (Nd.mk 22 0 s525 [])]), .slice a527 2 c527)] [(Nd.mk 15 0 ⟨#[]⟩ [(Nd.mk 4 0 ⟨#[111]⟩ []), (Nd.mk 22 0 s525 [])])] rfl slT24 rfl rfl rfl (by decide) (by decide) (all1 r527) m527 fun H528 a528 c528 h528 e528 r528 m528 => ?_
            try simp only [go_sem, Nat.reduceBEq]
            refine (l15N_c _ _ _ _ _ _).mono ?_
            rintro _ _ ⟨rfl, rfl⟩
            try simp only [go_sem, Nat.reduceBEq]
            refine cur_nodes [((Nd.mk 33 0 ⟨#[]⟩ [(Nd.mk 15 0 ⟨#[]⟩ [(Nd.mk 4 0 ⟨#[111]⟩ []), (Nd.mk 22 0 s525 [])])]), .slice a528 1 c528)] [(Nd.mk 33 0 ⟨#[]⟩ [(Nd.mk 15 0 ⟨#[]⟩ [(Nd.mk 4 0 ⟨#[111]⟩ []), (Nd.mk 22 0 s525 [])])])] rfl slT24 rfl rfl rfl (by decide) (by decide) (all1 r528) m528 fun H529 a529 c529 h529 e529 r529 m529 => ?_
            try simp only [go_sem, Nat.reduceBEq]
            refine cur_nadd (es := ((((([] ++ [x393]) ++ [x492]) ++ [(Nd.mk 51 0 ⟨#[84]⟩ [x499])]) ++ [(Nd.mk 50 0 ⟨#[65]⟩ (([(Nd.mk 53 0 ⟨#[84]⟩ []), (Nd.mk 54 n505 ⟨#[112]⟩ [(Nd.mk 1 2 ⟨#[]⟩ [])])] ++ [x510]) ++ [x513]))]) ++ [(Nd.mk 50 0 ⟨#[66]⟩ [(Nd.mk 52 0 ⟨#[65]⟩ []), x520])])) slT24 rfl rfl (by decide) m529 (((r523.mono e527).mono e528).mono e529) r529 (Nat.le_of_ble_eq_true rfl) (Nat.le_of_ble_eq_true rfl) fun u530 a530 c530 h530 r530 m530 => ?_
            try simp only [go_sem, Nat.reduceBEq, Nat.reduceAdd, Nat.reduceLeDiff]
            refine (l1Below_c hl m530 5 (by decide) (by decide)).mono ?_
            rintro _ h531 ⟨n531, rfl, p531, q531, m531⟩
            try simp only [go_sem, Nat.reduceBEq]
            obtain ⟨i, rfl⟩ : ∃ i : Nat, n531 = i := ⟨n531.toNat, by omega⟩
            have w1 : IntKind.i64.wrap (1 + (i : Int)) = ((i + 1 : Nat) : Int) := by rw [IntWalk.i64_in _ (by omega)]; omega
            simp only [w1, go_sem]
            refine aloop (ι := Hp × Nat × List Nd × List Value × Option Addr × Nat) (fun x => [(7, .val (.int .i64 (x.2.1 : Nat))), (3, .box 3 0), (2, .box 2 0), (0, .val (pv p))])
              (fun x => [(3, [.int .i64 56, .int .i64 0, .string ⟨#[]⟩, .slice x.2.2.2.2.1 x.2.2.1.length x.2.2.2.2.2]), (2, [.int .i64 0, .int .i64 0, .string ⟨#[]⟩, .slice none 0 0])])
              (fun x h' => x.2.2.1.length + x.2.1 ≤ 20 ∧ Ext h0 x.1 ∧ Nd.bulks x.2.2.1 + x.2.1 * 6343 ≤ 199000 ∧ RdL x.1 (x.2.2.1.flatMap Nd.dt) x.2.2.2.1 ∧ CurM x.1 h' l p ((.row 4 (x.2.2.2.1.map .raw), .slice x.2.2.2.2.1 x.2.2.1.length x.2.2.2.2.2) :: bag))
              (fun x => x.2.1) (H529, i + 1, (((((([] ++ [x393]) ++ [x492]) ++ [(Nd.mk 51 0 ⟨#[84]⟩ [x499])]) ++ [(Nd.mk 50 0 ⟨#[65]⟩ (([(Nd.mk 53 0 ⟨#[84]⟩ []), (Nd.mk 54 n505 ⟨#[112]⟩ [(Nd.mk 1 2 ⟨#[]⟩ [])])] ++ [x510]) ++ [x513]))]) ++ [(Nd.mk 50 0 ⟨#[66]⟩ [(Nd.mk 52 0 ⟨#[65]⟩ []), x520])]) ++ [(Nd.mk 33 0 ⟨#[]⟩ [(Nd.mk 15 0 ⟨#[]⟩ [(Nd.mk 4 0 ⟨#[111]⟩ []), (Nd.mk 22 0 s525 [])])])]), u530, a530, c530) ⟨(by show List.length (((((([] ++ [x393]) ++ [x492]) ++ [(Nd.mk 51 0 ⟨#[84]⟩ [x499])]) ++ [(Nd.mk 50 0 ⟨#[65]⟩ (([(Nd.mk 53 0 ⟨#[84]⟩ []), (Nd.mk 54 n505 ⟨#[112]⟩ [(Nd.mk 1 2 ⟨#[]⟩ [])])] ++ [x510]) ++ [x513]))]) ++ [(Nd.mk 50 0 ⟨#[66]⟩ [(Nd.mk 52 0 ⟨#[65]⟩ []), x520])]) ++ [(Nd.mk 33 0 ⟨#[]⟩ [(Nd.mk 15 0 ⟨#[]⟩ [(Nd.mk 4 0 ⟨#[111]⟩ []), (Nd.mk 22 0 s525 [])])])]) + (i + 1) ≤ 20; simp only [List.length_append, List.length_cons, List.length_nil]; omega), (((((((((((((((((((e393.trans e394).trans e492).trans e493).trans e499).trans e500).trans e501).trans e506).trans e510).trans e511).trans e513).trans e514).trans e516).trans e517).trans e520).trans e521).trans e522).trans e527).trans e528).trans e529), (by show Nd.bulks (((((([] ++ [x393]) ++ [x492]) ++ [(Nd.mk 51 0 ⟨#[84]⟩ [x499])]) ++ [(Nd.mk 50 0 ⟨#[65]⟩ (([(Nd.mk 53 0 ⟨#[84]⟩ []), (Nd.mk 54 n505 ⟨#[112]⟩ [(Nd.mk 1 2 ⟨#[]⟩ [])])] ++ [x510]) ++ [x513]))]) ++ [(Nd.mk 50 0 ⟨#[66]⟩ [(Nd.mk 52 0 ⟨#[65]⟩ []), x520])]) ++ [(Nd.mk 33 0 ⟨#[]⟩ [(Nd.mk 15 0 ⟨#[]⟩ [(Nd.mk 4 0 ⟨#[111]⟩ []), (Nd.mk 22 0 s525 [])])])]) + (i + 1) * 6343 ≤ 199000; simp only [bsz, Nd.bulk_mk, Nd.bulks_cons, Nd.bulks_nil, Nd.bulks_app, List.size_toArray, List.length_cons, List.length_nil]; omega), r530, m531⟩ (by repeat (first | exact wkF_e | refine wkF_c rfl ?_)) (wkB_c rfl (wkB_c rfl wkB_e)) rfl ?_
            rintro ⟨H, k, es, us, a, c⟩ h3 ⟨hk, e0, hb, hr, m3⟩
            have hk : es.length + k ≤ 20 := hk
            have e0 : Ext h0 H := e0
            have hb : Nd.bulks es + k * 6343 ≤ 199000 := hb
            have hr : RdL H (es.flatMap Nd.dt) us := hr
            have m3 : CurM H h3 l p ((.row 4 (us.map .raw), .slice a es.length c) :: bag) := m3
            try simp only [go_sem, Nat.reduceBEq]
            cases k with
            | zero =>
              simp only [show decide ((0 : Int) < ((0 : Nat) : Int)) = false from rfl, go_sem, Nat.reduceBEq, Nat.reduceAdd, Nat.reduceLeDiff]
              obtain ⟨H4, e4, r4, m4⟩ := cur_fix m3 hr
              exact NodP.base (e0.trans e4) (NodP.mk 56 0 ⟨#[]⟩ r4 rfl (by rw [show (ByteArray.mk #[]).size = 0 from rfl, Nat.zero_add]; exact Nat.le_trans (Nat.le_add_right _ _) hb) m4)
            | succ k =>
            have w2 : IntKind.i64.wrap (((k + 1 : Nat) : Int) - 1) = (k : Nat) := by rw [IntWalk.i64_in _ (by omega)]; omega
            simp only [show decide ((0 : Int) < ((k + 1 : Nat) : Int)) = true from decide_eq_true (by omega), go_sem]
            refine regionD_intro (lb := [104]) (by kernel_rfl) ?_
            try simp only [go_sem, Nat.reduceBEq]
            refine (l15Step_c hl 2 (by decide) 2 (by decide) (by decide) false false m3).mono ?_
            rintro _ h4 ⟨H4, x, a4, c4, rfl, e4, b4, r4, m4⟩
            try simp only [go_sem, Nat.reduceBEq]
            refine cur_nodes [(x, .slice a4 x.kids.length c4)] [x] rfl slT24 rfl rfl rfl (by decide) (by decide) (all1 r4) m4 fun H5 a5 c5 h5 e5 r5 m5 => ?_
            try simp only [go_sem, Nat.reduceBEq]
            refine cur_nadd (es := es) slT24 rfl rfl (by decide) m5 (hr.mono (e4.trans e5)) r5 (by omega) (Nat.le_of_ble_eq_true rfl) fun us6 a6 c6 h6 hr6 m6 => ?_
            simp only [w2, go_sem, Nat.reduceBEq, Nat.reduceAdd, Nat.reduceLeDiff]
            exact Again.intro (H5, k, es ++ [x], us6, a6, c6) (by first | omega | (simp only; omega)) ⟨(by show (es ++ [x]).length + k ≤ 20; rw [List.length_append, List.length_cons, List.length_nil]; omega), e0.trans (e4.trans e5), (by show Nd.bulks (es ++ [x]) + k * 6343 ≤ _; rw [Nd.bulks_app, Nd.bulks_cons, Nd.bulks_nil]; omega), hr6, m6⟩ (by repeat (first | exact wkF_e | refine wkF_c rfl ?_)) (wkB_c rfl (wkB_c rfl wkB_e)) rfl
          · try simp only [go_sem, Nat.reduceBEq]
            refine cur_nodes [((Nd.mk 1 2 ⟨#[]⟩ []), .slice none 0 0)] [(Nd.mk 1 2 ⟨#[]⟩ [])] rfl slT24 rfl rfl rfl (by decide) (by decide) (all1 (rdn_nil _)) m502 fun H533 a533 c533 h533 e533 r533 m533 => ?_
            try simp only [go_sem, Nat.reduceBEq]
            refine (l1Below_c hl m533 2 (by decide) (by decide)).mono ?_
            rintro _ h534 ⟨n534, rfl, p534, q534, m534⟩
            try simp only [go_sem, Nat.reduceBEq, Nat.reduceAdd, Nat.reduceLeDiff]
            refine cur_own [((Nd.mk 53 0 ⟨#[84]⟩ []), .slice none 0 0), ((Nd.mk 54 n534 ⟨#[112]⟩ [(Nd.mk 1 2 ⟨#[]⟩ [])]), .slice a533 1 c533)] [(Nd.mk 53 0 ⟨#[84]⟩ []), (Nd.mk 54 n534 ⟨#[112]⟩ [(Nd.mk 1 2 ⟨#[]⟩ [])])] rfl slT24 rfl rfl rfl (by decide) (by decide) (allc ((rdn_nil _).mono e533) (all1 r533)) m534 fun u535 a535 c535 h535 r535 m535 => ?_
            try simp only [go_sem, Nat.reduceBEq]
            refine cur_strs [⟨#[109]⟩, ⟨#[95, 95, 99, 111, 110, 115, 116, 114, 117, 99, 116]⟩, ⟨#[95, 95, 100, 101, 115, 116, 114, 117, 99, 116]⟩] slT47 rfl rfl rfl (by decide) (by decide) m535 fun v536 h536 m536 => ?_
            try simp only [go_sem, Nat.reduceBEq]
            refine (l1Str_c hl m536 (by decide) (by decide)).mono ?_
            rintro _ g536 ⟨s536, t536, rfl, m536⟩
            have z536 := (by decide : ∀ s ∈ ([⟨#[109]⟩, ⟨#[95, 95, 99, 111, 110, 115, 116, 114, 117, 99, 116]⟩, ⟨#[95, 95, 100, 101, 115, 116, 114, 117, 99, 116]⟩] : List ByteArray), s.size ≤ 11) s536 t536
            clear t536
            have m536 := m536.drop
            try simp only [go_sem, Nat.reduceBEq]
            refine (l1Below_c hl m536 2 (by decide) (by decide)).mono ?_
            rintro _ h537 ⟨n537, rfl, p537, q537, m537⟩
            try simp only [go_sem, Nat.reduceBEq]
            refine (l15Func_c hl 55 n537 s536 (by omega) false m537).mono ?_
            rintro _ h538 ⟨H538, x538, a538, c538, rfl, e538, b538, r538, m538⟩
            try simp only [go_sem, Nat.reduceBEq]
            refine cur_nodes [(x538, .slice a538 x538.kids.length c538)] [x538] rfl slT24 rfl rfl rfl (by decide) (by decide) (all1 r538) m538 fun H539 a539 c539 h539 e539 r539 m539 => ?_
            try simp only [go_sem, Nat.reduceBEq]
            refine cur_nadd (es := [(Nd.mk 53 0 ⟨#[84]⟩ []), (Nd.mk 54 n534 ⟨#[112]⟩ [(Nd.mk 1 2 ⟨#[]⟩ [])])]) slT24 rfl rfl (by decide) m539 ((r535.mono e538).mono e539) r539 (Nat.le_of_ble_eq_true rfl) (Nat.le_of_ble_eq_true rfl) fun u540 a540 c540 h540 r540 m540 => ?_
            try simp only [go_sem, Nat.reduceBEq, Nat.reduceAdd]
            refine (l15Func_c hl 55 2 ⟨#[115]⟩ (by decide) false m540).mono ?_
            rintro _ h541 ⟨H541, x541, a541, c541, rfl, e541, b541, r541, m541⟩
            try simp only [go_sem, Nat.reduceBEq]
            refine cur_nodes [(x541, .slice a541 x541.kids.length c541)] [x541] rfl slT24 rfl rfl rfl (by decide) (by decide) (all1 r541) m541 fun H542 a542 c542 h542 e542 r542 m542 => ?_
            try simp only [go_sem, Nat.reduceBEq]
            refine cur_nadd (es := ([(Nd.mk 53 0 ⟨#[84]⟩ []), (Nd.mk 54 n534 ⟨#[112]⟩ [(Nd.mk 1 2 ⟨#[]⟩ [])])] ++ [x538])) slT24 rfl rfl (by decide) m542 ((r540.mono e541).mono e542) r542 (Nat.le_of_ble_eq_true rfl) (Nat.le_of_ble_eq_true rfl) fun u543 a543 c543 h543 r543 m543 => ?_
            try simp only [go_sem, Nat.reduceBEq, Nat.reduceAdd]
            refine regionD_intro (lb := [65]) (by kernel_rfl) ?_
            try simp only [go_sem, Nat.reduceBEq]
            obtain ⟨H544, e544, r544, m544⟩ := cur_fix m543 r543
            refine (l15N_c _ _ _ _ _ _).mono ?_
            rintro _ _ ⟨rfl, rfl⟩
            try simp only [go_sem, Nat.reduceBEq]
            refine cur_nodes [((Nd.mk 50 0 ⟨#[65]⟩ (([(Nd.mk 53 0 ⟨#[84]⟩ []), (Nd.mk 54 n534 ⟨#[112]⟩ [(Nd.mk 1 2 ⟨#[]⟩ [])])] ++ [x538]) ++ [x541])), .slice a543 (([(Nd.mk 53 0 ⟨#[84]⟩ []), (Nd.mk 54 n534 ⟨#[112]⟩ [(Nd.mk 1 2 ⟨#[]⟩ [])])] ++ [x538]) ++ [x541]).length c543)] [(Nd.mk 50 0 ⟨#[65]⟩ (([(Nd.mk 53 0 ⟨#[84]⟩ []), (Nd.mk 54 n534 ⟨#[112]⟩ [(Nd.mk 1 2 ⟨#[]⟩ [])])] ++ [x538]) ++ [x541]))] rfl slT24 rfl rfl rfl (by decide) (by decide) (all1 r544) m544 fun H545 a545 c545 h545 e545 r545 m545 => ?_
            try simp only [go_sem, Nat.reduceBEq]
            refine cur_nadd (es := ((([] ++ [x393]) ++ [x492]) ++ [(Nd.mk 51 0 ⟨#[84]⟩ [x499])])) slT24 rfl rfl (by decide) m545 (((((((r502.mono e533).mono e538).mono e539).mono e541).mono e542).mono e544).mono e545) r545 (Nat.le_of_ble_eq_true rfl) (Nat.le_of_ble_eq_true rfl) fun u546 a546 c546 h546 r546 m546 => ?_
            try simp only [go_sem, Nat.reduceBEq, Nat.reduceAdd, Nat.reduceLeDiff]
            refine regionD_intro (lb := [72]) (by kernel_rfl) ?_
            try simp only [go_sem, Nat.reduceBEq]
            refine (l15N_c _ _ _ _ _ _).mono ?_
            rintro _ _ ⟨rfl, rfl⟩
            try simp only [go_sem, Nat.reduceBEq]
            refine (l15Func_c hl 55 0 ⟨#[109]⟩ (by decide) false m546).mono ?_
            rintro _ h548 ⟨H548, x548, a548, c548, rfl, e548, b548, r548, m548⟩
            try simp only [go_sem, Nat.reduceBEq]
            refine cur_nodes [((Nd.mk 52 0 ⟨#[65]⟩ []), .slice none 0 0), (x548, .slice a548 x548.kids.length c548)] [(Nd.mk 52 0 ⟨#[65]⟩ []), x548] rfl slT24 rfl rfl rfl (by decide) (by decide) (allc ((rdn_nil _).mono e548) (all1 r548)) m548 fun H549 a549 c549 h549 e549 r549 m549 => ?_
            try simp only [go_sem, Nat.reduceBEq]
            refine (l15N_c _ _ _ _ _ _).mono ?_
            rintro _ _ ⟨rfl, rfl⟩
            try simp only [go_sem, Nat.reduceBEq]
            refine cur_nodes [((Nd.mk 50 0 ⟨#[66]⟩ [(Nd.mk 52 0 ⟨#[65]⟩ []), x548]), .slice a549 2 c549)] [(Nd.mk 50 0 ⟨#[66]⟩ [(Nd.mk 52 0 ⟨#[65]⟩ []), x548])] rfl slT24 rfl rfl rfl (by decide) (by decide) (all1 r549) m549 fun H550 a550 c550 h550 e550 r550 m550 => ?_
            try simp only [go_sem, Nat.reduceBEq]
            refine cur_nadd (es := (((([] ++ [x393]) ++ [x492]) ++ [(Nd.mk 51 0 ⟨#[84]⟩ [x499])]) ++ [(Nd.mk 50 0 ⟨#[65]⟩ (([(Nd.mk 53 0 ⟨#[84]⟩ []), (Nd.mk 54 n534 ⟨#[112]⟩ [(Nd.mk 1 2 ⟨#[]⟩ [])])] ++ [x538]) ++ [x541]))])) slT24 rfl rfl (by decide) m550 (((r546.mono e548).mono e549).mono e550) r550 (Nat.le_of_ble_eq_true rfl) (Nat.le_of_ble_eq_true rfl) fun u551 a551 c551 h551 r551 m551 => ?_
            try simp only [go_sem, Nat.reduceBEq, Nat.reduceAdd, Nat.reduceLeDiff]
            refine (l15N_c _ _ _ _ _ _).mono ?_
            rintro _ _ ⟨rfl, rfl⟩
            try simp only [go_sem, Nat.reduceBEq, Nat.reduceAdd, Nat.reduceLeDiff]
            refine regionD_intro (lb := [83, 84]) (by kernel_rfl) ?_
            try simp only [go_sem, Nat.reduceBEq, Nat.reduceAdd, Nat.reduceLeDiff]
            refine cur_strs [⟨#[65]⟩, ⟨#[66]⟩] slT47 rfl rfl rfl (by decide) (by decide) m551 fun v553 h553 m553 => ?_
            try simp only [go_sem, Nat.reduceBEq]
            refine (l1Str_c hl m553 (by decide) (by decide)).mono ?_
            rintro _ g553 ⟨s553, t553, rfl, m553⟩
            have z553 := (by decide : ∀ s ∈ ([⟨#[65]⟩, ⟨#[66]⟩] : List ByteArray), s.size ≤ 1) s553 t553
            clear t553
            have m553 := m553.drop
            try simp only [go_sem, Nat.reduceBEq]
            refine (l15N_c _ _ _ _ _ _).mono ?_
            rintro _ _ ⟨rfl, rfl⟩
            try simp only [go_sem, Nat.reduceBEq]
            refine cur_nodes [((Nd.mk 4 0 ⟨#[111]⟩ []), .slice none 0 0), ((Nd.mk 22 0 s553 []), .slice none 0 0)] [(Nd.mk 4 0 ⟨#[111]⟩ []), (Nd.mk 22 0 s553 [])] rfl slT24 rfl rfl rfl (by decide) (by decide) (allc (rdn_nil _) (all1 (rdn_nil _))) m553 fun H555 a555 c555 h555 e555 r555 m555 => ?_
            try simp only [go_sem, Nat.reduceBEq]
            refine (l15N_c _ _ _ _ _ _).mono ?_
            rintro _ _ ⟨rfl, rfl⟩
            try simp only [go_sem, Nat.reduceBEq]
            refine cur_nodes [((Nd.mk 15 0 ⟨#[]⟩ [(Nd.mk 4 0 ⟨#[111]⟩ []), (Nd.mk 22 0 s553 [])]), .slice a555 2 c555)] [(Nd.mk 15 0 ⟨#[]⟩ [(Nd.mk 4 0 ⟨#[111]⟩ []), (Nd.mk 22 0 s553 [])])] rfl slT24 rfl rfl rfl (by decide) (by decide) (all1 r555) m555 fun H556 a556 c556 h556 e556 r556 m556 => ?_
            try simp only [go_sem, Nat.reduceBEq]
            refine (l15N_c _ _ _ _ _ _).mono ?_
            rintro _ _ ⟨rfl, rfl⟩
            try simp only [go_sem, Nat.reduceBEq]
            refine cur_nodes [((Nd.mk 33 0 ⟨#[]⟩ [(Nd.mk 15 0 ⟨#[]⟩ [(Nd.mk 4 0 ⟨#[111]⟩ []), (Nd.mk 22 0 s553 [])])]), .slice a556 1 c556)] [(Nd.mk 33 0 ⟨#[]⟩ [(Nd.mk 15 0 ⟨#[]⟩ [(Nd.mk 4 0 ⟨#[111]⟩ []), (Nd.mk 22 0 s553 [])])])] rfl slT24 rfl rfl rfl (by decide) (by decide) (all1 r556) m556 fun H557 a557 c557 h557 e557 r557 m557 => ?_
            try simp only [go_sem, Nat.reduceBEq]
            refine cur_nadd (es := ((((([] ++ [x393]) ++ [x492]) ++ [(Nd.mk 51 0 ⟨#[84]⟩ [x499])]) ++ [(Nd.mk 50 0 ⟨#[65]⟩ (([(Nd.mk 53 0 ⟨#[84]⟩ []), (Nd.mk 54 n534 ⟨#[112]⟩ [(Nd.mk 1 2 ⟨#[]⟩ [])])] ++ [x538]) ++ [x541]))]) ++ [(Nd.mk 50 0 ⟨#[66]⟩ [(Nd.mk 52 0 ⟨#[65]⟩ []), x548])])) slT24 rfl rfl (by decide) m557 (((r551.mono e555).mono e556).mono e557) r557 (Nat.le_of_ble_eq_true rfl) (Nat.le_of_ble_eq_true rfl) fun u558 a558 c558 h558 r558 m558 => ?_
            try simp only [go_sem, Nat.reduceBEq, Nat.reduceAdd, Nat.reduceLeDiff]
            refine (l1Below_c hl m558 5 (by decide) (by decide)).mono ?_
            rintro _ h559 ⟨n559, rfl, p559, q559, m559⟩
            try simp only [go_sem, Nat.reduceBEq]
            obtain ⟨i, rfl⟩ : ∃ i : Nat, n559 = i := ⟨n559.toNat, by omega⟩
            have w1 : IntKind.i64.wrap (1 + (i : Int)) = ((i + 1 : Nat) : Int) := by rw [IntWalk.i64_in _ (by omega)]; omega
            simp only [w1, go_sem]
            refine aloop (ι := Hp × Nat × List Nd × List Value × Option Addr × Nat) (fun x => [(7, .val (.int .i64 (x.2.1 : Nat))), (3, .box 3 0), (2, .box 2 0), (0, .val (pv p))])
              (fun x => [(3, [.int .i64 56, .int .i64 0, .string ⟨#[]⟩, .slice x.2.2.2.2.1 x.2.2.1.length x.2.2.2.2.2]), (2, [.int .i64 0, .int .i64 0, .string ⟨#[]⟩, .slice none 0 0])])
              (fun x h' => x.2.2.1.length + x.2.1 ≤ 20 ∧ Ext h0 x.1 ∧ Nd.bulks x.2.2.1 + x.2.1 * 6343 ≤ 199000 ∧ RdL x.1 (x.2.2.1.flatMap Nd.dt) x.2.2.2.1 ∧ CurM x.1 h' l p ((.row 4 (x.2.2.2.1.map .raw), .slice x.2.2.2.2.1 x.2.2.1.length x.2.2.2.2.2) :: bag))
              (fun x => x.2.1) (H557, i + 1, (((((([] ++ [x393]) ++ [x492]) ++ [(Nd.mk 51 0 ⟨#[84]⟩ [x499])]) ++ [(Nd.mk 50 0 ⟨#[65]⟩ (([(Nd.mk 53 0 ⟨#[84]⟩ []), (Nd.mk 54 n534 ⟨#[112]⟩ [(Nd.mk 1 2 ⟨#[]⟩ [])])] ++ [x538]) ++ [x541]))]) ++ [(Nd.mk 50 0 ⟨#[66]⟩ [(Nd.mk 52 0 ⟨#[65]⟩ []), x548])]) ++ [(Nd.mk 33 0 ⟨#[]⟩ [(Nd.mk 15 0 ⟨#[]⟩ [(Nd.mk 4 0 ⟨#[111]⟩ []), (Nd.mk 22 0 s553 [])])])]), u558, a558, c558) ⟨(by show List.length (((((([] ++ [x393]) ++ [x492]) ++ [(Nd.mk 51 0 ⟨#[84]⟩ [x499])]) ++ [(Nd.mk 50 0 ⟨#[65]⟩ (([(Nd.mk 53 0 ⟨#[84]⟩ []), (Nd.mk 54 n534 ⟨#[112]⟩ [(Nd.mk 1 2 ⟨#[]⟩ [])])] ++ [x538]) ++ [x541]))]) ++ [(Nd.mk 50 0 ⟨#[66]⟩ [(Nd.mk 52 0 ⟨#[65]⟩ []), x548])]) ++ [(Nd.mk 33 0 ⟨#[]⟩ [(Nd.mk 15 0 ⟨#[]⟩ [(Nd.mk 4 0 ⟨#[111]⟩ []), (Nd.mk 22 0 s553 [])])])]) + (i + 1) ≤ 20; simp only [List.length_append, List.length_cons, List.length_nil]; omega), (((((((((((((((((((e393.trans e394).trans e492).trans e493).trans e499).trans e500).trans e501).trans e533).trans e538).trans e539).trans e541).trans e542).trans e544).trans e545).trans e548).trans e549).trans e550).trans e555).trans e556).trans e557), (by show Nd.bulks (((((([] ++ [x393]) ++ [x492]) ++ [(Nd.mk 51 0 ⟨#[84]⟩ [x499])]) ++ [(Nd.mk 50 0 ⟨#[65]⟩ (([(Nd.mk 53 0 ⟨#[84]⟩ []), (Nd.mk 54 n534 ⟨#[112]⟩ [(Nd.mk 1 2 ⟨#[]⟩ [])])] ++ [x538]) ++ [x541]))]) ++ [(Nd.mk 50 0 ⟨#[66]⟩ [(Nd.mk 52 0 ⟨#[65]⟩ []), x548])]) ++ [(Nd.mk 33 0 ⟨#[]⟩ [(Nd.mk 15 0 ⟨#[]⟩ [(Nd.mk 4 0 ⟨#[111]⟩ []), (Nd.mk 22 0 s553 [])])])]) + (i + 1) * 6343 ≤ 199000; simp only [bsz, Nd.bulk_mk, Nd.bulks_cons, Nd.bulks_nil, Nd.bulks_app, List.size_toArray, List.length_cons, List.length_nil]; omega), r558, m559⟩ (by repeat (first | exact wkF_e | refine wkF_c rfl ?_)) (wkB_c rfl (wkB_c rfl wkB_e)) rfl ?_
            rintro ⟨H, k, es, us, a, c⟩ h3 ⟨hk, e0, hb, hr, m3⟩
            have hk : es.length + k ≤ 20 := hk
            have e0 : Ext h0 H := e0
            have hb : Nd.bulks es + k * 6343 ≤ 199000 := hb
            have hr : RdL H (es.flatMap Nd.dt) us := hr
            have m3 : CurM H h3 l p ((.row 4 (us.map .raw), .slice a es.length c) :: bag) := m3
            try simp only [go_sem, Nat.reduceBEq]
            cases k with
            | zero =>
              simp only [show decide ((0 : Int) < ((0 : Nat) : Int)) = false from rfl, go_sem, Nat.reduceBEq, Nat.reduceAdd, Nat.reduceLeDiff]
              obtain ⟨H4, e4, r4, m4⟩ := cur_fix m3 hr
              exact NodP.base (e0.trans e4) (NodP.mk 56 0 ⟨#[]⟩ r4 rfl (by rw [show (ByteArray.mk #[]).size = 0 from rfl, Nat.zero_add]; exact Nat.le_trans (Nat.le_add_right _ _) hb) m4)
            | succ k =>
            have w2 : IntKind.i64.wrap (((k + 1 : Nat) : Int) - 1) = (k : Nat) := by rw [IntWalk.i64_in _ (by omega)]; omega
            simp only [show decide ((0 : Int) < ((k + 1 : Nat) : Int)) = true from decide_eq_true (by omega), go_sem]
            refine regionD_intro (lb := [104]) (by kernel_rfl) ?_
            try simp only [go_sem, Nat.reduceBEq]
            refine (l15Step_c hl 2 (by decide) 2 (by decide) (by decide) false false m3).mono ?_
            rintro _ h4 ⟨H4, x, a4, c4, rfl, e4, b4, r4, m4⟩
            try simp only [go_sem, Nat.reduceBEq]
            refine cur_nodes [(x, .slice a4 x.kids.length c4)] [x] rfl slT24 rfl rfl rfl (by decide) (by decide) (all1 r4) m4 fun H5 a5 c5 h5 e5 r5 m5 => ?_
            try simp only [go_sem, Nat.reduceBEq]
            refine cur_nadd (es := es) slT24 rfl rfl (by decide) m5 (hr.mono (e4.trans e5)) r5 (by omega) (Nat.le_of_ble_eq_true rfl) fun us6 a6 c6 h6 hr6 m6 => ?_
            simp only [w2, go_sem, Nat.reduceBEq, Nat.reduceAdd, Nat.reduceLeDiff]
            exact Again.intro (H5, k, es ++ [x], us6, a6, c6) (by first | omega | (simp only; omega)) ⟨(by show (es ++ [x]).length + k ≤ 20; rw [List.length_append, List.length_cons, List.length_nil]; omega), e0.trans (e4.trans e5), (by show Nd.bulks (es ++ [x]) + k * 6343 ≤ _; rw [Nd.bulks_app, Nd.bulks_cons, Nd.bulks_nil]; omega), hr6, m6⟩ (by repeat (first | exact wkF_e | refine wkF_c rfl ?_)) (wkB_c rfl (wkB_c rfl wkB_e)) rfl
        · try simp only [go_sem, Nat.reduceBEq]
          refine cur_nodes [((Nd.mk 1 2 ⟨#[]⟩ []), .slice none 0 0)] [(Nd.mk 1 2 ⟨#[]⟩ [])] rfl slT24 rfl rfl rfl (by decide) (by decide) (all1 (rdn_nil _)) m502 fun H561 a561 c561 h561 e561 r561 m561 => ?_
          try simp only [go_sem]
          refine (l15N_c _ _ _ _ _ _).mono ?_
          rintro _ _ ⟨rfl, rfl⟩
          try simp only [go_sem, Nat.reduceBEq]
          refine (l1Below_c hl m561 2 (by decide) (by decide)).mono ?_
          rintro _ h563 ⟨n563, rfl, p563, q563, m563⟩
          try simp only [go_sem, Nat.reduceBEq, Nat.reduceAdd, Nat.reduceLeDiff]
          refine cur_own [((Nd.mk 53 0 ⟨#[84]⟩ []), .slice none 0 0), ((Nd.mk 54 n563 ⟨#[112]⟩ [(Nd.mk 1 2 ⟨#[]⟩ [])]), .slice a561 1 c561)] [(Nd.mk 53 0 ⟨#[84]⟩ []), (Nd.mk 54 n563 ⟨#[112]⟩ [(Nd.mk 1 2 ⟨#[]⟩ [])])] rfl slT24 rfl rfl rfl (by decide) (by decide) (allc (rdn_nil _) (all1 r561)) m563 fun u564 a564 c564 h564 r564 m564 => ?_
          try simp only [go_sem, Nat.reduceBEq]
          refine cur_strs [⟨#[109]⟩, ⟨#[95, 95, 99, 111, 110, 115, 116, 114, 117, 99, 116]⟩, ⟨#[95, 95, 100, 101, 115, 116, 114, 117, 99, 116]⟩] slT47 rfl rfl rfl (by decide) (by decide) m564 fun v565 h565 m565 => ?_
          try simp only [go_sem, Nat.reduceBEq]
          refine (l1Str_c hl m565 (by decide) (by decide)).mono ?_
          rintro _ g565 ⟨s565, t565, rfl, m565⟩
          have z565 := (by decide : ∀ s ∈ ([⟨#[109]⟩, ⟨#[95, 95, 99, 111, 110, 115, 116, 114, 117, 99, 116]⟩, ⟨#[95, 95, 100, 101, 115, 116, 114, 117, 99, 116]⟩] : List ByteArray), s.size ≤ 11) s565 t565
          clear t565
          have m565 := m565.drop
          try simp only [go_sem, Nat.reduceBEq]
          refine (l1Below_c hl m565 2 (by decide) (by decide)).mono ?_
          rintro _ h566 ⟨n566, rfl, p566, q566, m566⟩
          try simp only [go_sem, Nat.reduceBEq]
          refine (l15Func_c hl 55 n566 s565 (by omega) false m566).mono ?_
          rintro _ h567 ⟨H567, x567, a567, c567, rfl, e567, b567, r567, m567⟩
          try simp only [go_sem, Nat.reduceBEq]
          refine cur_nodes [(x567, .slice a567 x567.kids.length c567)] [x567] rfl slT24 rfl rfl rfl (by decide) (by decide) (all1 r567) m567 fun H568 a568 c568 h568 e568 r568 m568 => ?_
          try simp only [go_sem, Nat.reduceBEq]
          refine cur_nadd (es := [(Nd.mk 53 0 ⟨#[84]⟩ []), (Nd.mk 54 n563 ⟨#[112]⟩ [(Nd.mk 1 2 ⟨#[]⟩ [])])]) slT24 rfl rfl (by decide) m568 ((r564.mono e567).mono e568) r568 (Nat.le_of_ble_eq_true rfl) (Nat.le_of_ble_eq_true rfl) fun u569 a569 c569 h569 r569 m569 => ?_
          try simp only [go_sem, Nat.reduceBEq, Nat.reduceAdd]
          refine (l15Func_c hl 55 2 ⟨#[115]⟩ (by decide) false m569).mono ?_
          rintro _ h570 ⟨H570, x570, a570, c570, rfl, e570, b570, r570, m570⟩
          try simp only [go_sem, Nat.reduceBEq]
          refine cur_nodes [(x570, .slice a570 x570.kids.length c570)] [x570] rfl slT24 rfl rfl rfl (by decide) (by decide) (all1 r570) m570 fun H571 a571 c571 h571 e571 r571 m571 => ?_
          try simp only [go_sem, Nat.reduceBEq]
          refine cur_nadd (es := ([(Nd.mk 53 0 ⟨#[84]⟩ []), (Nd.mk 54 n563 ⟨#[112]⟩ [(Nd.mk 1 2 ⟨#[]⟩ [])])] ++ [x567])) slT24 rfl rfl (by decide) m571 ((r569.mono e570).mono e571) r571 (Nat.le_of_ble_eq_true rfl) (Nat.le_of_ble_eq_true rfl) fun u572 a572 c572 h572 r572 m572 => ?_
          try simp only [go_sem, Nat.reduceBEq, Nat.reduceAdd]
          refine regionD_intro (lb := [65]) (by kernel_rfl) ?_
          try simp only [go_sem, Nat.reduceBEq]
          obtain ⟨H573, e573, r573, m573⟩ := cur_fix m572 r572
          refine (l15N_c _ _ _ _ _ _).mono ?_
          rintro _ _ ⟨rfl, rfl⟩
          try simp only [go_sem, Nat.reduceBEq]
          refine cur_nodes [((Nd.mk 50 0 ⟨#[65]⟩ (([(Nd.mk 53 0 ⟨#[84]⟩ []), (Nd.mk 54 n563 ⟨#[112]⟩ [(Nd.mk 1 2 ⟨#[]⟩ [])])] ++ [x567]) ++ [x570])), .slice a572 (([(Nd.mk 53 0 ⟨#[84]⟩ []), (Nd.mk 54 n563 ⟨#[112]⟩ [(Nd.mk 1 2 ⟨#[]⟩ [])])] ++ [x567]) ++ [x570]).length c572)] [(Nd.mk 50 0 ⟨#[65]⟩ (([(Nd.mk 53 0 ⟨#[84]⟩ []), (Nd.mk 54 n563 ⟨#[112]⟩ [(Nd.mk 1 2 ⟨#[]⟩ [])])] ++ [x567]) ++ [x570]))] rfl slT24 rfl rfl rfl (by decide) (by decide) (all1 r573) m573 fun H574 a574 c574 h574 e574 r574 m574 => ?_
          try simp only [go_sem, Nat.reduceBEq]
          refine cur_nadd (es := ((([] ++ [x393]) ++ [x492]) ++ [(Nd.mk 51 0 ⟨#[84]⟩ [x499])])) slT24 rfl rfl (by decide) m574 (((((((r502.mono e561).mono e567).mono e568).mono e570).mono e571).mono e573).mono e574) r574 (Nat.le_of_ble_eq_true rfl) (Nat.le_of_ble_eq_true rfl) fun u575 a575 c575 h575 r575 m575 => ?_
          try simp only [go_sem, Nat.reduceBEq, Nat.reduceAdd, Nat.reduceLeDiff]
          refine regionD_intro (lb := [72]) (by kernel_rfl) ?_
          try simp only [go_sem, Nat.reduceBEq]
          refine (l15N_c _ _ _ _ _ _).mono ?_
          rintro _ _ ⟨rfl, rfl⟩
          try simp only [go_sem, Nat.reduceBEq]
          refine (l15Func_c hl 55 0 ⟨#[109]⟩ (by decide) false m575).mono ?_
          rintro _ h577 ⟨H577, x577, a577, c577, rfl, e577, b577, r577, m577⟩
          try simp only [go_sem, Nat.reduceBEq]
          refine cur_nodes [((Nd.mk 52 0 ⟨#[65]⟩ []), .slice none 0 0), (x577, .slice a577 x577.kids.length c577)] [(Nd.mk 52 0 ⟨#[65]⟩ []), x577] rfl slT24 rfl rfl rfl (by decide) (by decide) (allc ((rdn_nil _).mono e577) (all1 r577)) m577 fun H578 a578 c578 h578 e578 r578 m578 => ?_
          try simp only [go_sem, Nat.reduceBEq]
          refine (l15N_c _ _ _ _ _ _).mono ?_
          rintro _ _ ⟨rfl, rfl⟩
          try simp only [go_sem, Nat.reduceBEq]
          refine cur_nodes [((Nd.mk 50 0 ⟨#[66]⟩ [(Nd.mk 52 0 ⟨#[65]⟩ []), x577]), .slice a578 2 c578)] [(Nd.mk 50 0 ⟨#[66]⟩ [(Nd.mk 52 0 ⟨#[65]⟩ []), x577])] rfl slT24 rfl rfl rfl (by decide) (by decide) (all1 r578) m578 fun H579 a579 c579 h579 e579 r579 m579 => ?_
          try simp only [go_sem, Nat.reduceBEq]
          refine cur_nadd (es := (((([] ++ [x393]) ++ [x492]) ++ [(Nd.mk 51 0 ⟨#[84]⟩ [x499])]) ++ [(Nd.mk 50 0 ⟨#[65]⟩ (([(Nd.mk 53 0 ⟨#[84]⟩ []), (Nd.mk 54 n563 ⟨#[112]⟩ [(Nd.mk 1 2 ⟨#[]⟩ [])])] ++ [x567]) ++ [x570]))])) slT24 rfl rfl (by decide) m579 (((r575.mono e577).mono e578).mono e579) r579 (Nat.le_of_ble_eq_true rfl) (Nat.le_of_ble_eq_true rfl) fun u580 a580 c580 h580 r580 m580 => ?_
          try simp only [go_sem, Nat.reduceBEq, Nat.reduceAdd, Nat.reduceLeDiff]
          refine (l15N_c _ _ _ _ _ _).mono ?_
          rintro _ _ ⟨rfl, rfl⟩
          try simp only [go_sem, Nat.reduceBEq, Nat.reduceAdd, Nat.reduceLeDiff]
          refine regionD_intro (lb := [83, 84]) (by kernel_rfl) ?_
          try simp only [go_sem, Nat.reduceBEq, Nat.reduceAdd, Nat.reduceLeDiff]
          refine cur_strs [⟨#[65]⟩, ⟨#[66]⟩] slT47 rfl rfl rfl (by decide) (by decide) m580 fun v582 h582 m582 => ?_
          try simp only [go_sem, Nat.reduceBEq]
          refine (l1Str_c hl m582 (by decide) (by decide)).mono ?_
          rintro _ g582 ⟨s582, t582, rfl, m582⟩
          have z582 := (by decide : ∀ s ∈ ([⟨#[65]⟩, ⟨#[66]⟩] : List ByteArray), s.size ≤ 1) s582 t582
          clear t582
          have m582 := m582.drop
          try simp only [go_sem, Nat.reduceBEq]
          refine (l15N_c _ _ _ _ _ _).mono ?_
          rintro _ _ ⟨rfl, rfl⟩
          try simp only [go_sem, Nat.reduceBEq]
          refine cur_nodes [((Nd.mk 4 0 ⟨#[111]⟩ []), .slice none 0 0), ((Nd.mk 22 0 s582 []), .slice none 0 0)] [(Nd.mk 4 0 ⟨#[111]⟩ []), (Nd.mk 22 0 s582 [])] rfl slT24 rfl rfl rfl (by decide) (by decide) (allc (rdn_nil _) (all1 (rdn_nil _))) m582 fun H584 a584 c584 h584 e584 r584 m584 => ?_
          try simp only [go_sem, Nat.reduceBEq]
          refine (l15N_c _ _ _ _ _ _).mono ?_
          rintro _ _ ⟨rfl, rfl⟩
          try simp only [go_sem, Nat.reduceBEq]
          refine cur_nodes [((Nd.mk 15 0 ⟨#[]⟩ [(Nd.mk 4 0 ⟨#[111]⟩ []), (Nd.mk 22 0 s582 [])]), .slice a584 2 c584)] [(Nd.mk 15 0 ⟨#[]⟩ [(Nd.mk 4 0 ⟨#[111]⟩ []), (Nd.mk 22 0 s582 [])])] rfl slT24 rfl rfl rfl (by decide) (by decide) (all1 r584) m584 fun H585 a585 c585 h585 e585 r585 m585 => ?_
          try simp only [go_sem, Nat.reduceBEq]
          refine (l15N_c _ _ _ _ _ _).mono ?_
          rintro _ _ ⟨rfl, rfl⟩
          try simp only [go_sem, Nat.reduceBEq]
          refine cur_nodes [((Nd.mk 33 0 ⟨#[]⟩ [(Nd.mk 15 0 ⟨#[]⟩ [(Nd.mk 4 0 ⟨#[111]⟩ []), (Nd.mk 22 0 s582 [])])]), .slice a585 1 c585)] [(Nd.mk 33 0 ⟨#[]⟩ [(Nd.mk 15 0 ⟨#[]⟩ [(Nd.mk 4 0 ⟨#[111]⟩ []), (Nd.mk 22 0 s582 [])])])] rfl slT24 rfl rfl rfl (by decide) (by decide) (all1 r585) m585 fun H586 a586 c586 h586 e586 r586 m586 => ?_
          try simp only [go_sem, Nat.reduceBEq]
          refine cur_nadd (es := ((((([] ++ [x393]) ++ [x492]) ++ [(Nd.mk 51 0 ⟨#[84]⟩ [x499])]) ++ [(Nd.mk 50 0 ⟨#[65]⟩ (([(Nd.mk 53 0 ⟨#[84]⟩ []), (Nd.mk 54 n563 ⟨#[112]⟩ [(Nd.mk 1 2 ⟨#[]⟩ [])])] ++ [x567]) ++ [x570]))]) ++ [(Nd.mk 50 0 ⟨#[66]⟩ [(Nd.mk 52 0 ⟨#[65]⟩ []), x577])])) slT24 rfl rfl (by decide) m586 (((r580.mono e584).mono e585).mono e586) r586 (Nat.le_of_ble_eq_true rfl) (Nat.le_of_ble_eq_true rfl) fun u587 a587 c587 h587 r587 m587 => ?_
          try simp only [go_sem, Nat.reduceBEq, Nat.reduceAdd, Nat.reduceLeDiff]
          refine (l1Below_c hl m587 5 (by decide) (by decide)).mono ?_
          rintro _ h588 ⟨n588, rfl, p588, q588, m588⟩
          try simp only [go_sem, Nat.reduceBEq]
          obtain ⟨i, rfl⟩ : ∃ i : Nat, n588 = i := ⟨n588.toNat, by omega⟩
          have w1 : IntKind.i64.wrap (1 + (i : Int)) = ((i + 1 : Nat) : Int) := by rw [IntWalk.i64_in _ (by omega)]; omega
          simp only [w1, go_sem]
          refine aloop (ι := Hp × Nat × List Nd × List Value × Option Addr × Nat) (fun x => [(7, .val (.int .i64 (x.2.1 : Nat))), (3, .box 3 0), (2, .box 2 0), (0, .val (pv p))])
            (fun x => [(3, [.int .i64 56, .int .i64 0, .string ⟨#[]⟩, .slice x.2.2.2.2.1 x.2.2.1.length x.2.2.2.2.2]), (2, [.int .i64 0, .int .i64 0, .string ⟨#[]⟩, .slice none 0 0])])
            (fun x h' => x.2.2.1.length + x.2.1 ≤ 20 ∧ Ext h0 x.1 ∧ Nd.bulks x.2.2.1 + x.2.1 * 6343 ≤ 199000 ∧ RdL x.1 (x.2.2.1.flatMap Nd.dt) x.2.2.2.1 ∧ CurM x.1 h' l p ((.row 4 (x.2.2.2.1.map .raw), .slice x.2.2.2.2.1 x.2.2.1.length x.2.2.2.2.2) :: bag))
            (fun x => x.2.1) (H586, i + 1, (((((([] ++ [x393]) ++ [x492]) ++ [(Nd.mk 51 0 ⟨#[84]⟩ [x499])]) ++ [(Nd.mk 50 0 ⟨#[65]⟩ (([(Nd.mk 53 0 ⟨#[84]⟩ []), (Nd.mk 54 n563 ⟨#[112]⟩ [(Nd.mk 1 2 ⟨#[]⟩ [])])] ++ [x567]) ++ [x570]))]) ++ [(Nd.mk 50 0 ⟨#[66]⟩ [(Nd.mk 52 0 ⟨#[65]⟩ []), x577])]) ++ [(Nd.mk 33 0 ⟨#[]⟩ [(Nd.mk 15 0 ⟨#[]⟩ [(Nd.mk 4 0 ⟨#[111]⟩ []), (Nd.mk 22 0 s582 [])])])]), u587, a587, c587) ⟨(by show List.length (((((([] ++ [x393]) ++ [x492]) ++ [(Nd.mk 51 0 ⟨#[84]⟩ [x499])]) ++ [(Nd.mk 50 0 ⟨#[65]⟩ (([(Nd.mk 53 0 ⟨#[84]⟩ []), (Nd.mk 54 n563 ⟨#[112]⟩ [(Nd.mk 1 2 ⟨#[]⟩ [])])] ++ [x567]) ++ [x570]))]) ++ [(Nd.mk 50 0 ⟨#[66]⟩ [(Nd.mk 52 0 ⟨#[65]⟩ []), x577])]) ++ [(Nd.mk 33 0 ⟨#[]⟩ [(Nd.mk 15 0 ⟨#[]⟩ [(Nd.mk 4 0 ⟨#[111]⟩ []), (Nd.mk 22 0 s582 [])])])]) + (i + 1) ≤ 20; simp only [List.length_append, List.length_cons, List.length_nil]; omega), (((((((((((((((((((e393.trans e394).trans e492).trans e493).trans e499).trans e500).trans e501).trans e561).trans e567).trans e568).trans e570).trans e571).trans e573).trans e574).trans e577).trans e578).trans e579).trans e584).trans e585).trans e586), (by show Nd.bulks (((((([] ++ [x393]) ++ [x492]) ++ [(Nd.mk 51 0 ⟨#[84]⟩ [x499])]) ++ [(Nd.mk 50 0 ⟨#[65]⟩ (([(Nd.mk 53 0 ⟨#[84]⟩ []), (Nd.mk 54 n563 ⟨#[112]⟩ [(Nd.mk 1 2 ⟨#[]⟩ [])])] ++ [x567]) ++ [x570]))]) ++ [(Nd.mk 50 0 ⟨#[66]⟩ [(Nd.mk 52 0 ⟨#[65]⟩ []), x577])]) ++ [(Nd.mk 33 0 ⟨#[]⟩ [(Nd.mk 15 0 ⟨#[]⟩ [(Nd.mk 4 0 ⟨#[111]⟩ []), (Nd.mk 22 0 s582 [])])])]) + (i + 1) * 6343 ≤ 199000; simp only [bsz, Nd.bulk_mk, Nd.bulks_cons, Nd.bulks_nil, Nd.bulks_app, List.size_toArray, List.length_cons, List.length_nil]; omega), r587, m588⟩ (by repeat (first | exact wkF_e | refine wkF_c rfl ?_)) (wkB_c rfl (wkB_c rfl wkB_e)) rfl ?_
          rintro ⟨H, k, es, us, a, c⟩ h3 ⟨hk, e0, hb, hr, m3⟩
          have hk : es.length + k ≤ 20 := hk
          have e0 : Ext h0 H := e0
          have hb : Nd.bulks es + k * 6343 ≤ 199000 := hb
          have hr : RdL H (es.flatMap Nd.dt) us := hr
          have m3 : CurM H h3 l p ((.row 4 (us.map .raw), .slice a es.length c) :: bag) := m3
          try simp only [go_sem, Nat.reduceBEq]
          cases k with
          | zero =>
            simp only [show decide ((0 : Int) < ((0 : Nat) : Int)) = false from rfl, go_sem, Nat.reduceBEq, Nat.reduceAdd, Nat.reduceLeDiff]
            obtain ⟨H4, e4, r4, m4⟩ := cur_fix m3 hr
            exact NodP.base (e0.trans e4) (NodP.mk 56 0 ⟨#[]⟩ r4 rfl (by rw [show (ByteArray.mk #[]).size = 0 from rfl, Nat.zero_add]; exact Nat.le_trans (Nat.le_add_right _ _) hb) m4)
          | succ k =>
          have w2 : IntKind.i64.wrap (((k + 1 : Nat) : Int) - 1) = (k : Nat) := by rw [IntWalk.i64_in _ (by omega)]; omega
          simp only [show decide ((0 : Int) < ((k + 1 : Nat) : Int)) = true from decide_eq_true (by omega), go_sem]
          refine regionD_intro (lb := [104]) (by kernel_rfl) ?_
          try simp only [go_sem, Nat.reduceBEq]
          refine (l15Step_c hl 2 (by decide) 2 (by decide) (by decide) false false m3).mono ?_
          rintro _ h4 ⟨H4, x, a4, c4, rfl, e4, b4, r4, m4⟩
          try simp only [go_sem, Nat.reduceBEq]
          refine cur_nodes [(x, .slice a4 x.kids.length c4)] [x] rfl slT24 rfl rfl rfl (by decide) (by decide) (all1 r4) m4 fun H5 a5 c5 h5 e5 r5 m5 => ?_
          try simp only [go_sem, Nat.reduceBEq]
          refine cur_nadd (es := es) slT24 rfl rfl (by decide) m5 (hr.mono (e4.trans e5)) r5 (by omega) (Nat.le_of_ble_eq_true rfl) fun us6 a6 c6 h6 hr6 m6 => ?_
          simp only [w2, go_sem, Nat.reduceBEq, Nat.reduceAdd, Nat.reduceLeDiff]
          exact Again.intro (H5, k, es ++ [x], us6, a6, c6) (by first | omega | (simp only; omega)) ⟨(by show (es ++ [x]).length + k ≤ 20; rw [List.length_append, List.length_cons, List.length_nil]; omega), e0.trans (e4.trans e5), (by show Nd.bulks (es ++ [x]) + k * 6343 ≤ _; rw [Nd.bulks_app, Nd.bulks_cons, Nd.bulks_nil]; omega), hr6, m6⟩ (by repeat (first | exact wkF_e | refine wkF_c rfl ?_)) (wkB_c rfl (wkB_c rfl wkB_e)) rfl
end
end Go.Proofs.Ytconhonjkfpfmaa
