/-
  What spec.QuoteText and impl.QuoteText return: the text in quotes, with a backslash before each quote and each backslash; the text has at most 2^20 bytes.
-/
import Derived.Test.YtcaljbefchapoaaDoorFacts
import Derived.Test.YtcaljbefchapoaaDoorSxLaw
namespace Go.Proofs.YtcaljbefchapoaaDoor
set_option maxRecDepth 8000
open Go Go.Sx
def esc : List UInt8 → List UInt8
  | [] => []
  | c :: r => (if c = 39 ∨ c = 92 then [92, c] else [c]) ++ esc r
theorem esc_append (a b : List UInt8) : esc (a ++ b) = esc a ++ esc b := by
  induction a with
  | nil => rfl
  | cons c r ih => simp [esc, ih]
theorem esc_le (a : List UInt8) : (esc a).length ≤ 2 * a.length := by
  induction a with
  | nil => simp [esc]
  | cons c r ih => simp only [esc]; split <;> simp <;> omega
def quoted (s : ByteArray) : ByteArray := ⟨(39 :: (esc s.data.toList ++ [39])).toArray⟩
theorem iQuoteText (s : ByteArray) (hs : s.size ≤ 1048576) (h : Hp) : ACalls Tryd.prog 11 #[.string s] h (Is (.string (quoted s)) h) := by
  refine enter Tryd.func11 rfl rfl (by kernel_rfl) [] ?_
  simp only [go_sem]
  refine bytes_lit1 slT31 39 fun v0 h0 m0 => ?_
  simp only [go_sem, Nat.reduceBEq]
  refine aloop (ι := Nat × Value) (fun x => [(3, .val x.2), (4, .val (.int .i64 (x.1 : Nat))), (0, .val (.string s))]) (fun _ => []) (fun x h' => x.1 ≤ s.size ∧ Mine h h' 1 x.2 (bcells (39 :: esc (s.data.toList.take x.1)))) (fun x => s.size - x.1) (0, v0)
    ⟨Nat.zero_le _, m0⟩ (by repeat (first | exact wkF_e | refine wkF_c rfl ?_)) wkB_e rfl ?_
  rintro ⟨i, v⟩ h1 ⟨hi, m1⟩
  have hi : i ≤ s.size := hi
  have m1 : Mine h h1 1 v (bcells (39 :: esc (s.data.toList.take i))) := m1
  have hsz := size_list s
  have hle := esc_le (s.data.toList.take i)
  rw [List.length_take] at hle
  simp only [go_sem, Nat.reduceBEq]
  refine Br.intro (fun hb => ?_) (fun hb => ?_) <;> simp only [go_sem, Nat.reduceBEq]
  · have hi' : i < s.size := by simpa using hb
    obtain ⟨c, hc⟩ : ∃ c, s.data.toList[i]? = some c := ⟨_, List.getElem?_eq_getElem (by simpa using hi')⟩
    have hw : IntKind.i64.wrap ((i : Int) + 1) = ((i + 1 : Nat) : Int) := by rw [IntWalk.i64_in _ (by omega)]; rfl
    have hstep : esc (s.data.toList.take (i + 1)) = esc (s.data.toList.take i) ++ (if c = 39 ∨ c = 92 then [92, c] else [c]) := by
      rw [List.take_add_one, hc, esc_append]; simp [esc]
    simp only [sidx_at hc, go_sem, Nat.reduceBEq]
    refine Br.intro (fun h39 => ?_) (fun h39 => ?_) <;> simp only [sidx_at hc, go_sem, Nat.reduceBEq]
    · have h39 : c = 39 := byte_is (k := 39) h39
      refine bytes_lit1 slT31 92 fun u8 g8 n8 => ?_
      simp only [go_sem, Nat.reduceBEq]
      refine bytes_append slT31 (l := 39 :: esc (s.data.toList.take i)) (l2 := [92]) (m1.mono n8.ext) n8.rd (by simp; omega) fun v8 k8 m8 => ?_
      simp only [sidx_at hc, go_sem, Nat.reduceBEq]
      refine bytes_lit1 slT31 c fun u9 g9 n9 => ?_
      simp only [go_sem, Nat.reduceBEq]
      refine bytes_append slT31 (l := 39 :: esc (s.data.toList.take i) ++ [92]) (l2 := [c]) (m8.mono n9.ext) n9.rd (by simp; omega) fun v9 k9 m9 => ?_
      simp only [hw, go_sem, Nat.reduceBEq]
      refine Again.intro (i + 1, v9) (by simp only; omega) ⟨hi', ?_⟩ (by repeat (first | exact wkF_e | refine wkF_c rfl ?_)) wkB_e rfl
      simpa [hstep, h39] using m9
    · have h39 : c ≠ 39 := byte_not (k := 39) h39
      refine Br.intro (fun h92 => ?_) (fun h92 => ?_) <;> simp only [sidx_at hc, go_sem, Nat.reduceBEq]
      · have h92 : c = 92 := byte_is (k := 92) h92
        refine bytes_lit1 slT31 92 fun u8 g8 n8 => ?_
        simp only [go_sem, Nat.reduceBEq]
        refine bytes_append slT31 (l := 39 :: esc (s.data.toList.take i)) (l2 := [92]) (m1.mono n8.ext) n8.rd (by simp; omega) fun v8 k8 m8 => ?_
        simp only [sidx_at hc, go_sem, Nat.reduceBEq]
        refine bytes_lit1 slT31 c fun u9 g9 n9 => ?_
        simp only [go_sem, Nat.reduceBEq]
        refine bytes_append slT31 (l := 39 :: esc (s.data.toList.take i) ++ [92]) (l2 := [c]) (m8.mono n9.ext) n9.rd (by simp; omega) fun v9 k9 m9 => ?_
        simp only [hw, go_sem, Nat.reduceBEq]
        refine Again.intro (i + 1, v9) (by simp only; omega) ⟨hi', ?_⟩ (by repeat (first | exact wkF_e | refine wkF_c rfl ?_)) wkB_e rfl
        simpa [hstep, h92] using m9
      · have h92 : c ≠ 92 := byte_not (k := 92) h92
        refine bytes_lit1 slT31 c fun u9 g9 n9 => ?_
        simp only [go_sem, Nat.reduceBEq]
        refine bytes_append slT31 (l := 39 :: esc (s.data.toList.take i)) (l2 := [c]) (m1.mono n9.ext) n9.rd (by simp; omega) fun v9 k9 m9 => ?_
        simp only [hw, go_sem, Nat.reduceBEq]
        refine Again.intro (i + 1, v9) (by simp only; omega) ⟨hi', ?_⟩ (by repeat (first | exact wkF_e | refine wkF_c rfl ?_)) wkB_e rfl
        simpa [hstep, h39, h92] using m9
  · have hi' : i = s.size := by simp at hb; omega
    subst hi'
    rw [hsz, List.take_length] at m1
    rw [hsz, List.take_length] at hle
    refine bytes_lit1 slT31 39 fun u9 g9 n9 => ?_
    simp only [go_sem, Nat.reduceBEq]
    refine bytes_append slT31 (l := 39 :: esc s.data.toList) (l2 := [39]) (m1.mono n9.ext) n9.rd (by simp; omega) fun v9 k9 m9 => ?_
    simp only [go_sem, Nat.reduceBEq]
    refine cvK_bytes bytT31 isStr9 m9.rd ?_
    simp only [go_sem, Nat.reduceBEq]
    exact ⟨rfl, m9.ext⟩
theorem sQuoteText (s : ByteArray) (hs : s.size ≤ 1048576) (h : Hp) : ACalls Tryd.prog 9 #[.string s] h (Is (.string (quoted s)) h) := by
  refine enter Tryd.func9 rfl rfl (by kernel_rfl) [] ?_
  simp only [go_sem]
  refine bytes_lit1 slT31 39 fun v0 h0 m0 => ?_
  simp only [go_sem, Nat.reduceBEq]
  refine aloop (ι := Nat × Value) (fun x => [(3, .val x.2), (4, .val (.int .i64 (x.1 : Nat))), (0, .val (.string s))]) (fun _ => []) (fun x h' => x.1 ≤ s.size ∧ Mine h h' 1 x.2 (bcells (39 :: esc (s.data.toList.take x.1)))) (fun x => s.size - x.1) (0, v0)
    ⟨Nat.zero_le _, m0⟩ (by repeat (first | exact wkF_e | refine wkF_c rfl ?_)) wkB_e rfl ?_
  rintro ⟨i, v⟩ h1 ⟨hi, m1⟩
  have hi : i ≤ s.size := hi
  have m1 : Mine h h1 1 v (bcells (39 :: esc (s.data.toList.take i))) := m1
  have hsz := size_list s
  have hle := esc_le (s.data.toList.take i)
  rw [List.length_take] at hle
  simp only [go_sem, Nat.reduceBEq]
  refine Br.intro (fun hb => ?_) (fun hb => ?_) <;> simp only [go_sem, Nat.reduceBEq]
  · have hi' : i < s.size := by simpa using hb
    obtain ⟨c, hc⟩ : ∃ c, s.data.toList[i]? = some c := ⟨_, List.getElem?_eq_getElem (by simpa using hi')⟩
    have hw : IntKind.i64.wrap ((i : Int) + 1) = ((i + 1 : Nat) : Int) := by rw [IntWalk.i64_in _ (by omega)]; rfl
    have hstep : esc (s.data.toList.take (i + 1)) = esc (s.data.toList.take i) ++ (if c = 39 ∨ c = 92 then [92, c] else [c]) := by
      rw [List.take_add_one, hc, esc_append]; simp [esc]
    simp only [sidx_at hc, go_sem, Nat.reduceBEq]
    refine Br.intro (fun h39 => ?_) (fun h39 => ?_) <;> simp only [sidx_at hc, go_sem, Nat.reduceBEq]
    · have h39 : c = 39 := byte_is (k := 39) h39
      refine bytes_lit1 slT31 92 fun u8 g8 n8 => ?_
      simp only [go_sem, Nat.reduceBEq]
      refine bytes_append slT31 (l := 39 :: esc (s.data.toList.take i)) (l2 := [92]) (m1.mono n8.ext) n8.rd (by simp; omega) fun v8 k8 m8 => ?_
      simp only [sidx_at hc, go_sem, Nat.reduceBEq]
      refine bytes_lit1 slT31 c fun u9 g9 n9 => ?_
      simp only [go_sem, Nat.reduceBEq]
      refine bytes_append slT31 (l := 39 :: esc (s.data.toList.take i) ++ [92]) (l2 := [c]) (m8.mono n9.ext) n9.rd (by simp; omega) fun v9 k9 m9 => ?_
      simp only [hw, go_sem, Nat.reduceBEq]
      refine Again.intro (i + 1, v9) (by simp only; omega) ⟨hi', ?_⟩ (by repeat (first | exact wkF_e | refine wkF_c rfl ?_)) wkB_e rfl
      simpa [hstep, h39] using m9
    · have h39 : c ≠ 39 := byte_not (k := 39) h39
      refine Br.intro (fun h92 => ?_) (fun h92 => ?_) <;> simp only [sidx_at hc, go_sem, Nat.reduceBEq]
      · have h92 : c = 92 := byte_is (k := 92) h92
        refine bytes_lit1 slT31 92 fun u8 g8 n8 => ?_
        simp only [go_sem, Nat.reduceBEq]
        refine bytes_append slT31 (l := 39 :: esc (s.data.toList.take i)) (l2 := [92]) (m1.mono n8.ext) n8.rd (by simp; omega) fun v8 k8 m8 => ?_
        simp only [sidx_at hc, go_sem, Nat.reduceBEq]
        refine bytes_lit1 slT31 c fun u9 g9 n9 => ?_
        simp only [go_sem, Nat.reduceBEq]
        refine bytes_append slT31 (l := 39 :: esc (s.data.toList.take i) ++ [92]) (l2 := [c]) (m8.mono n9.ext) n9.rd (by simp; omega) fun v9 k9 m9 => ?_
        simp only [hw, go_sem, Nat.reduceBEq]
        refine Again.intro (i + 1, v9) (by simp only; omega) ⟨hi', ?_⟩ (by repeat (first | exact wkF_e | refine wkF_c rfl ?_)) wkB_e rfl
        simpa [hstep, h92] using m9
      · have h92 : c ≠ 92 := byte_not (k := 92) h92
        refine bytes_lit1 slT31 c fun u9 g9 n9 => ?_
        simp only [go_sem, Nat.reduceBEq]
        refine bytes_append slT31 (l := 39 :: esc (s.data.toList.take i)) (l2 := [c]) (m1.mono n9.ext) n9.rd (by simp; omega) fun v9 k9 m9 => ?_
        simp only [hw, go_sem, Nat.reduceBEq]
        refine Again.intro (i + 1, v9) (by simp only; omega) ⟨hi', ?_⟩ (by repeat (first | exact wkF_e | refine wkF_c rfl ?_)) wkB_e rfl
        simpa [hstep, h39, h92] using m9
  · have hi' : i = s.size := by simp at hb; omega
    subst hi'
    rw [hsz, List.take_length] at m1
    rw [hsz, List.take_length] at hle
    refine bytes_lit1 slT31 39 fun u9 g9 n9 => ?_
    simp only [go_sem, Nat.reduceBEq]
    refine bytes_append slT31 (l := 39 :: esc s.data.toList) (l2 := [39]) (m1.mono n9.ext) n9.rd (by simp; omega) fun v9 k9 m9 => ?_
    simp only [go_sem, Nat.reduceBEq]
    refine cvK_bytes bytT31 isStr9 m9.rd ?_
    simp only [go_sem, Nat.reduceBEq]
    exact ⟨rfl, m9.ext⟩
end Go.Proofs.YtcaljbefchapoaaDoor
