/-
  What spec.IsName and impl.IsName return: whether the text is a name, a letter or '_' and then letters, digits and '_', of at most 20 bytes; the text has at most 2^20 bytes.
-/
import Derived.Test.YtconhonjkfpfmaaNum
import Derived.Test.YtconhonjkfpfmaaSxLaw
import Derived.Test.YtconhonjkfpfmaaSxOwn
namespace Go.Proofs.Ytconhonjkfpfmaa
set_option maxRecDepth 8000
open Go Go.Sx
/-- The first place from i on, at or behind which 'p' fails or the list ends. -/
def scanF (p : Nat → UInt8 → Bool) (l : List UInt8) : Nat → Nat → Nat
  | 0, i => i
  | f + 1, i => match l[i]? with
    | some c => if p i c then scanF p l f (i + 1) else i
    | none => i
def scan (p : Nat → UInt8 → Bool) (l : List UInt8) (i : Nat) : Nat := scanF p l (l.length + 1 - i) i
theorem scan_go {p : Nat → UInt8 → Bool} {l : List UInt8} {i : Nat} {c : UInt8} (h : l[i]? = some c) (hp : p i c = true) : scan p l (i + 1) = scan p l i := by
  have hi : i < l.length := (List.getElem?_eq_some_iff.1 h).1
  have e : l.length + 1 - i = (l.length + 1 - (i + 1)) + 1 := by omega
  unfold scan
  rw [e]
  simp only [scanF, h, hp, if_true]
theorem scan_stop {p : Nat → UInt8 → Bool} {l : List UInt8} {i : Nat} {c : UInt8} (h : l[i]? = some c) (hp : p i c = false) : scan p l i = i := by
  have hi : i < l.length := (List.getElem?_eq_some_iff.1 h).1
  have e : l.length + 1 - i = (l.length - i) + 1 := by omega
  unfold scan
  rw [e]
  simp [scanF, h, hp]
theorem scan_end {p : Nat → UInt8 → Bool} {l : List UInt8} : scan p l l.length = l.length := by
  unfold scan
  rw [show l.length + 1 - l.length = 0 + 1 by omega]
  simp [scanF]
def isDg (c : UInt8) : Bool := decide (48 ≤ (c.toNat : Int) ∧ (c.toNat : Int) ≤ 57)
def isLet (c : UInt8) : Bool := decide (65 ≤ (c.toNat : Int) ∧ (c.toNat : Int) ≤ 90) || decide (97 ≤ (c.toNat : Int) ∧ (c.toNat : Int) ≤ 122)
def nameCh (st i : Nat) (c : UInt8) : Bool := isLet c || decide (c = 95) || (decide (st < i) && isDg c)
def isName (s : ByteArray) : Bool := decide (1 ≤ s.size ∧ s.size ≤ 20 ∧ scan (nameCh 0) s.data.toList 0 = s.size)
theorem iIsDg (c : UInt8) (h : Hp) : ACalls Try.prog 55 #[.int .u8 c.toNat] h (Pu (.bool (isDg c)) h) := by
  refine enter Try.func55 rfl rfl (by kernel_rfl) [] ?_
  simp only [go_sem, Nat.reduceBEq]
  refine Br.intro (fun h1 => ?_) (fun h1 => ?_) <;> (try simp only [h1, go_sem, Nat.reduceBEq])
  · simp at h1; exact ⟨by simp [isDg, h1], rfl⟩
  · simp at h1; exact ⟨by simp [isDg]; omega, rfl⟩
theorem iIsLetter (c : UInt8) (h : Hp) : ACalls Try.prog 54 #[.int .u8 c.toNat] h (Pu (.bool (isLet c)) h) := by
  refine enter Try.func54 rfl rfl (by kernel_rfl) [] ?_
  simp only [go_sem, Nat.reduceBEq]
  refine Br.intro (fun h1 => ?_) (fun h1 => ?_) <;> (try simp only [h1, go_sem, Nat.reduceBEq])
  · refine Br.intro (fun h2 => ?_) (fun h2 => ?_) <;> (try simp only [h2, go_sem, Nat.reduceBEq])
    · simp at h1 h2; exact ⟨by simp [isLet, h1, h2], rfl⟩
    · refine Br.intro (fun h3 => ?_) (fun h3 => ?_) <;> (try simp only [h3, go_sem, Nat.reduceBEq])
      · simp at h1 h2 h3; exact ⟨by simp [isLet, h3]; omega, rfl⟩
      · simp at h1 h2 h3; exact ⟨by simp [isLet]; omega, rfl⟩
  · refine Br.intro (fun h3 => ?_) (fun h3 => ?_) <;> (try simp only [h3, go_sem, Nat.reduceBEq])
    · simp at h1 h3; exact ⟨by simp [isLet, h3]; omega, rfl⟩
    · simp at h1 h3; exact ⟨by simp [isLet]; omega, rfl⟩
theorem iNameLength (s : ByteArray) (hs : s.size ≤ 1048576) (h : Hp) : ACalls Try.prog 51 #[.string s] h (Pu (.int .i64 (scan (nameCh 0) s.data.toList 0 : Nat)) h) := by
  have hsz := size_list s
  refine enter Try.func51 rfl rfl (by kernel_rfl) [] ?_
  simp only [go_sem]
  refine aloop (ι := Nat) (fun x => [(3, .val (.int .i64 (x : Nat))), (0, .val (.string s))]) (fun _ => []) (fun x h' => x ≤ s.size ∧ scan (nameCh 0) s.data.toList x = scan (nameCh 0) s.data.toList 0 ∧ h = h') (fun x => s.size - x) 0
    ⟨Nat.zero_le _, rfl, rfl⟩ (by repeat (first | exact wkF_e | refine wkF_c rfl ?_)) wkB_e rfl ?_
  rintro i _ ⟨hi, hsc, rfl⟩
  simp only [go_sem, Nat.reduceBEq]
  refine Br.intro (fun hb => ?_) (fun hb => ?_) <;> (try simp only [hb, go_sem, Nat.reduceBEq])
  · have hi' : i < s.size := by simpa using hb
    obtain ⟨c, hc⟩ : ∃ c, s.data.toList[i]? = some c := ⟨_, List.getElem?_eq_getElem (by simpa using hi')⟩
    have hw : IntKind.i64.wrap ((i : Int) + 1) = ((i + 1 : Nat) : Int) := by rw [IntWalk.i64_in _ (by omega)]; rfl
    simp only [sidx_at hc, go_sem, Nat.reduceBEq]
    refine (iIsLetter c _).mono ?_
    rintro _ _ ⟨rfl, rfl⟩
    simp only [go_sem, Nat.reduceBEq]
    refine Br.intro (fun h1 => ?_) (fun h1 => ?_) <;> (try simp only [h1, sidx_at hc, hw, go_sem, Nat.reduceBEq])
    · exact Again.intro (i + 1) (by first | omega | (simp only; omega)) ⟨hi', by rw [scan_go hc (by simp [nameCh, h1])]; exact hsc, rfl⟩ (by repeat (first | exact wkF_e | refine wkF_c rfl ?_)) wkB_e rfl
    · refine Br.intro (fun h2 => ?_) (fun h2 => ?_) <;> (try simp only [h2, hw, go_sem, Nat.reduceBEq])
      · have h2 := byte_is (k := 95) h2
        exact Again.intro (i + 1) (by first | omega | (simp only; omega)) ⟨hi', by rw [scan_go hc (by simp [nameCh, h2])]; exact hsc, rfl⟩ (by repeat (first | exact wkF_e | refine wkF_c rfl ?_)) wkB_e rfl
      · have h2 := byte_not (k := 95) h2
        refine Br.intro (fun h3 => ?_) (fun h3 => ?_) <;> (try simp only [h3, sidx_at hc, go_sem, Nat.reduceBEq])
        · have h3 : 0 < i := by simpa using h3
          refine (iIsDg c _).mono ?_
          rintro _ _ ⟨rfl, rfl⟩
          simp only [go_sem, Nat.reduceBEq]
          refine Br.intro (fun h4 => ?_) (fun h4 => ?_) <;> (try simp only [h4, hw, go_sem, Nat.reduceBEq])
          · exact Again.intro (i + 1) (by first | omega | (simp only; omega)) ⟨hi', by rw [scan_go hc (by simp [nameCh, h3, h4])]; exact hsc, rfl⟩ (by repeat (first | exact wkF_e | refine wkF_c rfl ?_)) wkB_e rfl
          · exact ⟨by rw [← hsc, scan_stop hc (by simp [nameCh, h1, h2, h4])], rfl⟩
        · have h3 : ¬ 0 < i := by simpa using h3
          exact ⟨by rw [← hsc, scan_stop hc (by simp [nameCh, h1, h2, h3])], rfl⟩
  · have hi' : i = s.size := by simp at hb; omega
    exact ⟨by rw [← hsc, hi', hsz, scan_end], rfl⟩
theorem iIsName (s : ByteArray) (hs : s.size ≤ 1048576) (h : Hp) : ACalls Try.prog 47 #[.string s] h (Is (.bool (isName s)) h) := by
  refine enter Try.func47 rfl rfl (by kernel_rfl) [] ?_
  simp only [go_sem, Nat.reduceBEq]
  refine Br.intro (fun h1 => ?_) (fun h1 => ?_) <;> (try simp only [h1, go_sem, Nat.reduceBEq])
  · refine (iNameLength s hs _).mono ?_
    rintro _ _ ⟨rfl, rfl⟩
    simp only [go_sem, Nat.reduceBEq]
    refine Br.intro (fun h2 => ?_) (fun h2 => ?_) <;> (try simp only [h2, go_sem, Nat.reduceBEq])
    · refine ⟨?_, Ext.refl _⟩
      have h2 : scan (nameCh 0) s.data.toList 0 = s.size := by simp at h2; omega
      have h1 : s.size ≤ 20 := by simp at h1; omega
      have he : (s = ⟨#[]⟩) ↔ s.size = 0 := ⟨fun e => by subst e; rfl, fun e => by
        cases s with
        | mk d => have : d = #[] := Array.eq_empty_of_size_eq_zero e
                  rw [this]⟩
      have h3 : (!decide (s = ⟨#[]⟩)) = isName s := by
        simp only [isName, he, h1, h2, and_true]
        rw [← decide_not]
        exact decide_eq_decide.2 (by omega)
      rw [h3]
    · refine ⟨?_, Ext.refl _⟩
      have h2 : ¬ scan (nameCh 0) s.data.toList 0 = s.size := by simp at h2; omega
      simp [isName, h2]
  · refine ⟨?_, Ext.refl _⟩
    have h1 : ¬ s.size ≤ 20 := by simp at h1; omega
    simp [isName, h1]
end Go.Proofs.Ytconhonjkfpfmaa
