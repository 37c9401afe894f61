/-
  Tokens: the laws' szToken and toToken; what TokenText of the program and of the reference return.
-/
import Derived.Test.YtcaljbefchapoaaDoorFmt
import Derived.Test.YtcaljbefchapoaaDoorQuote
import Derived.Test.YtcaljbefchapoaaDoorSxDataT
namespace Go.Proofs.YtcaljbefchapoaaDoor
set_option maxRecDepth 8000
open Go Go.Sx
structure Tk where
  kind : Int
  num : Int
  text : ByteArray
  at_ : Int
def Tk.ok (t : Tk) : Prop := (IntKind.i64.min ≤ t.kind ∧ t.kind ≤ IntKind.i64.max) ∧ (IntKind.i64.min ≤ t.num ∧ t.num ≤ IntKind.i64.max) ∧ t.text.size ≤ maxLen ∧ (IntKind.i64.min ≤ t.at_ ∧ t.at_ ≤ IntKind.i64.max)
theorem szToken_c (t : Tk) (ok : t.ok) (l : Int) (h0 : 0 ≤ l) (h1 : l ≤ 1048576) (h : Hp) : ACalls Tryd.prog 4 #[.agg #[.int .i64 t.kind, .int .i64 t.num, .string t.text, .int .i64 t.at_], .int .i64 l] h (Pu (.int .i64 (less l t.text.size)) h) := by
  (refine enter Tryd.func4 rfl rfl (by kernel_rfl) [] ?_; simp only [go_sem, Nat.reduceBEq])
  simp only [less_wrap h0 h1 ok.2.2.1, go_sem]
  refine Br.intro (fun hb => ?_) (fun hb => ?_) <;> (try simp only [hb, go_sem, Nat.reduceBEq])
  · have hb : l - (t.text.size : Int) < 0 := by simpa using hb
    exact ⟨by unfold less; rw [if_neg (by omega)], rfl⟩
  · have hb : ¬ l - (t.text.size : Int) < 0 := by simpa using hb
    exact ⟨by unfold less; rw [if_pos (by omega)], rfl⟩
theorem toToken_c (t : Tk) (h : Hp) : ACalls Tryd.prog 6 #[.agg #[.int .i64 t.kind, .int .i64 t.num, .string t.text, .int .i64 t.at_]] h (Pu (.agg #[.int .i64 t.kind, .int .i64 t.num, .string t.text, .int .i64 t.at_]) h) := by
  (refine enter Tryd.func6 rfl rfl (by kernel_rfl) [] ?_; simp only [go_sem, Nat.reduceBEq, Nat.reduceAdd, Nat.reduceLeDiff])
  exact ⟨rfl, rfl⟩
def tokText (t : Tk) : ByteArray := if t.kind = 2 then ⟨#[36]⟩ ++ t.text else if t.kind = 4 then ⟨(Lib.itoa t.num).toArray⟩ else if t.kind = 5 then quoted t.text else if t.kind = 1 then t.text else if t.kind = 3 then t.text else if t.kind = 6 then t.text else ⟨#[]⟩
theorem iTokenText (t : Tk) (ok : t.ok) (hs : t.text.size ≤ 1048576) (h : Hp) (hT : Pow h) : ACalls Tryd.prog 7 #[.agg #[.int .i64 t.kind, .int .i64 t.num, .string t.text, .int .i64 t.at_]] h (Is (.string (tokText t)) h) := by
  (refine enter Tryd.func7 rfl rfl (by kernel_rfl) [] ?_; simp only [go_sem, Nat.reduceBEq])
  refine Br.intro (fun k2 => ?_) (fun k2 => ?_) <;> (try simp only [k2, go_sem, Nat.reduceBEq])
  · have k2 := of_decide_eq_true k2
    refine ⟨by rw [i64max, show (#[36] : Array UInt8).size = 1 from rfl]; omega, ?_⟩
    exact ⟨by unfold tokText; rw [if_pos k2], Ext.refl _⟩
  have k2 := of_decide_eq_false k2
  refine Br.intro (fun k4 => ?_) (fun k4 => ?_) <;> (try simp only [k4, go_sem, Nat.reduceBEq])
  · have k4 := of_decide_eq_true k4
    refine (iFormatInt t.num ok.2.1 _ hT).mono ?_
    rintro _ h1 ⟨rfl, e1⟩
    simp only [go_sem, Nat.reduceBEq]
    exact ⟨by unfold tokText; rw [if_neg k2, if_pos k4], e1⟩
  have k4 := of_decide_eq_false k4
  refine Br.intro (fun k5 => ?_) (fun k5 => ?_) <;> (try simp only [k5, go_sem, Nat.reduceBEq])
  · have k5 := of_decide_eq_true k5
    refine (iQuoteText t.text hs _).mono ?_
    rintro _ h1 ⟨rfl, e1⟩
    simp only [go_sem, Nat.reduceBEq]
    exact ⟨by unfold tokText; rw [if_neg k2, if_neg k4, if_pos k5], e1⟩
  have k5 := of_decide_eq_false k5
  refine Br.intro (fun k1 => ?_) (fun k1 => ?_) <;> (try simp only [k1, go_sem, Nat.reduceBEq])
  · exact ⟨by unfold tokText; rw [if_neg k2, if_neg k4, if_neg k5, if_pos (of_decide_eq_true k1)], Ext.refl _⟩
  have k1 := of_decide_eq_false k1
  refine Br.intro (fun k3 => ?_) (fun k3 => ?_) <;> (try simp only [k3, go_sem, Nat.reduceBEq])
  · exact ⟨by unfold tokText; rw [if_neg k2, if_neg k4, if_neg k5, if_neg k1, if_pos (of_decide_eq_true k3)], Ext.refl _⟩
  have k3 := of_decide_eq_false k3
  refine Br.intro (fun k6 => ?_) (fun k6 => ?_) <;> (try simp only [k6, go_sem, Nat.reduceBEq])
  · exact ⟨by unfold tokText; rw [if_neg k2, if_neg k4, if_neg k5, if_neg k1, if_neg k3, if_pos (of_decide_eq_true k6)], Ext.refl _⟩
  have k6 := of_decide_eq_false k6
  exact ⟨by unfold tokText; rw [if_neg k2, if_neg k4, if_neg k5, if_neg k1, if_neg k3, if_neg k6], Ext.refl _⟩
theorem sTokenText (t : Tk) (ok : t.ok) (hs : t.text.size ≤ 1048576) (h : Hp) (hT : Pow h) : ACalls Tryd.prog 5 #[.agg #[.int .i64 t.kind, .int .i64 t.num, .string t.text, .int .i64 t.at_]] h (Is (.string (tokText t)) h) := by
  (refine enter Tryd.func5 rfl rfl (by kernel_rfl) [] ?_; simp only [go_sem, Nat.reduceBEq])
  refine Br.intro (fun k2 => ?_) (fun k2 => ?_) <;> (try simp only [k2, go_sem, Nat.reduceBEq])
  · have k2 := of_decide_eq_true k2
    refine ⟨by rw [i64max, show (#[36] : Array UInt8).size = 1 from rfl]; omega, ?_⟩
    exact ⟨by unfold tokText; rw [if_pos k2], Ext.refl _⟩
  have k2 := of_decide_eq_false k2
  refine Br.intro (fun k4 => ?_) (fun k4 => ?_) <;> (try simp only [k4, go_sem, Nat.reduceBEq])
  · have k4 := of_decide_eq_true k4
    refine (sFormatInt t.num ok.2.1 _).mono ?_
    rintro _ h1 ⟨rfl, e1⟩
    simp only [go_sem, Nat.reduceBEq]
    exact ⟨by unfold tokText; rw [if_neg k2, if_pos k4], e1⟩
  have k4 := of_decide_eq_false k4
  refine Br.intro (fun k5 => ?_) (fun k5 => ?_) <;> (try simp only [k5, go_sem, Nat.reduceBEq])
  · have k5 := of_decide_eq_true k5
    refine (sQuoteText t.text hs _).mono ?_
    rintro _ h1 ⟨rfl, e1⟩
    simp only [go_sem, Nat.reduceBEq]
    exact ⟨by unfold tokText; rw [if_neg k2, if_neg k4, if_pos k5], e1⟩
  have k5 := of_decide_eq_false k5
  refine Br.intro (fun k1 => ?_) (fun k1 => ?_) <;> (try simp only [k1, go_sem, Nat.reduceBEq])
  · exact ⟨by unfold tokText; rw [if_neg k2, if_neg k4, if_neg k5, if_pos (of_decide_eq_true k1)], Ext.refl _⟩
  have k1 := of_decide_eq_false k1
  refine Br.intro (fun k3 => ?_) (fun k3 => ?_) <;> (try simp only [k3, go_sem, Nat.reduceBEq])
  · exact ⟨by unfold tokText; rw [if_neg k2, if_neg k4, if_neg k5, if_neg k1, if_pos (of_decide_eq_true k3)], Ext.refl _⟩
  have k3 := of_decide_eq_false k3
  refine Br.intro (fun k6 => ?_) (fun k6 => ?_) <;> (try simp only [k6, go_sem, Nat.reduceBEq])
  · exact ⟨by unfold tokText; rw [if_neg k2, if_neg k4, if_neg k5, if_neg k1, if_neg k3, if_pos (of_decide_eq_true k6)], Ext.refl _⟩
  have k6 := of_decide_eq_false k6
  exact ⟨by unfold tokText; rw [if_neg k2, if_neg k4, if_neg k5, if_neg k1, if_neg k3, if_neg k6], Ext.refl _⟩
end Go.Proofs.YtcaljbefchapoaaDoor
