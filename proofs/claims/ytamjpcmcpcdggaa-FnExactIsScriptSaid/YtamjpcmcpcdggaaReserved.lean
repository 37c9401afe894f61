/-
  What spec.IsReserved and impl.IsReserved return: whether the text is one of the reserved words; nothing is assumed.
-/
import Derived.Test.YtamjpcmcpcdggaaFacts
import Derived.Test.YtamjpcmcpcdggaaSxLaw
namespace Go.Proofs.Ytamjpcmcpcdggaa
set_option maxRecDepth 8000
open Go Go.Sx
def words : List ByteArray := [⟨#[101, 99, 104, 111]⟩, ⟨#[105, 102]⟩, ⟨#[101, 108, 115, 101]⟩, ⟨#[119, 104, 105, 108, 101]⟩, ⟨#[102, 111, 114, 101, 97, 99, 104]⟩, ⟨#[97, 115]⟩, ⟨#[98, 114, 101, 97, 107]⟩, ⟨#[99, 111, 110, 116, 105, 110, 117, 101]⟩, ⟨#[114, 101, 116, 117, 114, 110]⟩, ⟨#[103, 108, 111, 98, 97, 108]⟩, ⟨#[117, 110, 115, 101, 116]⟩, ⟨#[116, 104, 114, 111, 119]⟩, ⟨#[116, 114, 121]⟩, ⟨#[99, 97, 116, 99, 104]⟩, ⟨#[102, 105, 110, 97, 108, 108, 121]⟩, ⟨#[121, 105, 101, 108, 100]⟩, ⟨#[105, 110, 99, 108, 117, 100, 101]⟩, ⟨#[102, 117, 110, 99, 116, 105, 111, 110]⟩, ⟨#[99, 108, 97, 115, 115]⟩, ⟨#[116, 114, 97, 105, 116]⟩, ⟨#[101, 120, 116, 101, 110, 100, 115]⟩, ⟨#[117, 115, 101]⟩, ⟨#[112, 114, 105, 118, 97, 116, 101]⟩, ⟨#[115, 116, 97, 116, 105, 99]⟩, ⟨#[110, 101, 119]⟩, ⟨#[116, 114, 117, 101]⟩, ⟨#[102, 97, 108, 115, 101]⟩, ⟨#[110, 117, 108, 108]⟩]
def isRes (s : ByteArray) : Bool := words.any fun w => decide (s = w)
theorem isRes_hit {s : ByteArray} {i : Nat} (h : words[i]? = some s) : isRes s = true := List.any_eq_true.2 ⟨s, List.mem_of_getElem? h, by simp⟩
theorem isRes_miss {s : ByteArray} (h : ∀ w ∈ words, s ≠ w) : isRes s = false := List.any_eq_false.2 fun w hw => by simpa using h w hw
theorem iIsReserved (s : ByteArray) (h : Hp) : ACalls Try.prog 73 #[.string s] h (Is (.bool (isRes s)) h) := by
  refine enter Try.func73 rfl rfl (by kernel_rfl) [] ?_
  simp only [go_sem, Nat.reduceBEq]
  refine Br.intro (fun h0 => ?_) (fun h0 => ?_) <;> simp only [go_sem, Nat.reduceBEq]
  · (try simp only [h0, go_sem, Nat.reduceBEq]); have := of_decide_eq_true h0; subst this; exact ⟨by rw [isRes_hit (i := 0) rfl], Ext.refl _⟩
  refine Br.intro (fun h1 => ?_) (fun h1 => ?_) <;> simp only [go_sem, Nat.reduceBEq]
  · (try simp only [h1, go_sem, Nat.reduceBEq]); have := of_decide_eq_true h1; subst this; exact ⟨by rw [isRes_hit (i := 1) rfl], Ext.refl _⟩
  refine Br.intro (fun h2 => ?_) (fun h2 => ?_) <;> simp only [go_sem, Nat.reduceBEq]
  · (try simp only [h2, go_sem, Nat.reduceBEq]); have := of_decide_eq_true h2; subst this; exact ⟨by rw [isRes_hit (i := 2) rfl], Ext.refl _⟩
  refine Br.intro (fun h3 => ?_) (fun h3 => ?_) <;> simp only [go_sem, Nat.reduceBEq]
  · (try simp only [h3, go_sem, Nat.reduceBEq]); have := of_decide_eq_true h3; subst this; exact ⟨by rw [isRes_hit (i := 3) rfl], Ext.refl _⟩
  refine Br.intro (fun h4 => ?_) (fun h4 => ?_) <;> simp only [go_sem, Nat.reduceBEq]
  · (try simp only [h4, go_sem, Nat.reduceBEq]); have := of_decide_eq_true h4; subst this; exact ⟨by rw [isRes_hit (i := 4) rfl], Ext.refl _⟩
  refine Br.intro (fun h5 => ?_) (fun h5 => ?_) <;> simp only [go_sem, Nat.reduceBEq]
  · (try simp only [h5, go_sem, Nat.reduceBEq]); have := of_decide_eq_true h5; subst this; exact ⟨by rw [isRes_hit (i := 5) rfl], Ext.refl _⟩
  refine Br.intro (fun h6 => ?_) (fun h6 => ?_) <;> simp only [go_sem, Nat.reduceBEq]
  · (try simp only [h6, go_sem, Nat.reduceBEq]); have := of_decide_eq_true h6; subst this; exact ⟨by rw [isRes_hit (i := 6) rfl], Ext.refl _⟩
  refine Br.intro (fun h7 => ?_) (fun h7 => ?_) <;> simp only [go_sem, Nat.reduceBEq]
  · (try simp only [h7, go_sem, Nat.reduceBEq]); have := of_decide_eq_true h7; subst this; exact ⟨by rw [isRes_hit (i := 7) rfl], Ext.refl _⟩
  refine Br.intro (fun h8 => ?_) (fun h8 => ?_) <;> simp only [go_sem, Nat.reduceBEq]
  · (try simp only [h8, go_sem, Nat.reduceBEq]); have := of_decide_eq_true h8; subst this; exact ⟨by rw [isRes_hit (i := 8) rfl], Ext.refl _⟩
  refine Br.intro (fun h9 => ?_) (fun h9 => ?_) <;> simp only [go_sem, Nat.reduceBEq]
  · (try simp only [h9, go_sem, Nat.reduceBEq]); have := of_decide_eq_true h9; subst this; exact ⟨by rw [isRes_hit (i := 9) rfl], Ext.refl _⟩
  refine Br.intro (fun h10 => ?_) (fun h10 => ?_) <;> simp only [go_sem, Nat.reduceBEq]
  · (try simp only [h10, go_sem, Nat.reduceBEq]); have := of_decide_eq_true h10; subst this; exact ⟨by rw [isRes_hit (i := 10) rfl], Ext.refl _⟩
  refine Br.intro (fun h11 => ?_) (fun h11 => ?_) <;> simp only [go_sem, Nat.reduceBEq]
  · (try simp only [h11, go_sem, Nat.reduceBEq]); have := of_decide_eq_true h11; subst this; exact ⟨by rw [isRes_hit (i := 11) rfl], Ext.refl _⟩
  refine Br.intro (fun h12 => ?_) (fun h12 => ?_) <;> simp only [go_sem, Nat.reduceBEq]
  · (try simp only [h12, go_sem, Nat.reduceBEq]); have := of_decide_eq_true h12; subst this; exact ⟨by rw [isRes_hit (i := 12) rfl], Ext.refl _⟩
  refine Br.intro (fun h13 => ?_) (fun h13 => ?_) <;> simp only [go_sem, Nat.reduceBEq]
  · (try simp only [h13, go_sem, Nat.reduceBEq]); have := of_decide_eq_true h13; subst this; exact ⟨by rw [isRes_hit (i := 13) rfl], Ext.refl _⟩
  refine Br.intro (fun h14 => ?_) (fun h14 => ?_) <;> simp only [go_sem, Nat.reduceBEq]
  · (try simp only [h14, go_sem, Nat.reduceBEq]); have := of_decide_eq_true h14; subst this; exact ⟨by rw [isRes_hit (i := 14) rfl], Ext.refl _⟩
  refine Br.intro (fun h15 => ?_) (fun h15 => ?_) <;> simp only [go_sem, Nat.reduceBEq]
  · (try simp only [h15, go_sem, Nat.reduceBEq]); have := of_decide_eq_true h15; subst this; exact ⟨by rw [isRes_hit (i := 15) rfl], Ext.refl _⟩
  refine Br.intro (fun h16 => ?_) (fun h16 => ?_) <;> simp only [go_sem, Nat.reduceBEq]
  · (try simp only [h16, go_sem, Nat.reduceBEq]); have := of_decide_eq_true h16; subst this; exact ⟨by rw [isRes_hit (i := 16) rfl], Ext.refl _⟩
  refine Br.intro (fun h17 => ?_) (fun h17 => ?_) <;> simp only [go_sem, Nat.reduceBEq]
  · (try simp only [h17, go_sem, Nat.reduceBEq]); have := of_decide_eq_true h17; subst this; exact ⟨by rw [isRes_hit (i := 17) rfl], Ext.refl _⟩
  refine Br.intro (fun h18 => ?_) (fun h18 => ?_) <;> simp only [go_sem, Nat.reduceBEq]
  · (try simp only [h18, go_sem, Nat.reduceBEq]); have := of_decide_eq_true h18; subst this; exact ⟨by rw [isRes_hit (i := 18) rfl], Ext.refl _⟩
  refine Br.intro (fun h19 => ?_) (fun h19 => ?_) <;> simp only [go_sem, Nat.reduceBEq]
  · (try simp only [h19, go_sem, Nat.reduceBEq]); have := of_decide_eq_true h19; subst this; exact ⟨by rw [isRes_hit (i := 19) rfl], Ext.refl _⟩
  refine Br.intro (fun h20 => ?_) (fun h20 => ?_) <;> simp only [go_sem, Nat.reduceBEq]
  · (try simp only [h20, go_sem, Nat.reduceBEq]); have := of_decide_eq_true h20; subst this; exact ⟨by rw [isRes_hit (i := 20) rfl], Ext.refl _⟩
  refine Br.intro (fun h21 => ?_) (fun h21 => ?_) <;> simp only [go_sem, Nat.reduceBEq]
  · (try simp only [h21, go_sem, Nat.reduceBEq]); have := of_decide_eq_true h21; subst this; exact ⟨by rw [isRes_hit (i := 21) rfl], Ext.refl _⟩
  refine Br.intro (fun h22 => ?_) (fun h22 => ?_) <;> simp only [go_sem, Nat.reduceBEq]
  · (try simp only [h22, go_sem, Nat.reduceBEq]); have := of_decide_eq_true h22; subst this; exact ⟨by rw [isRes_hit (i := 22) rfl], Ext.refl _⟩
  refine Br.intro (fun h23 => ?_) (fun h23 => ?_) <;> simp only [go_sem, Nat.reduceBEq]
  · (try simp only [h23, go_sem, Nat.reduceBEq]); have := of_decide_eq_true h23; subst this; exact ⟨by rw [isRes_hit (i := 23) rfl], Ext.refl _⟩
  refine Br.intro (fun h24 => ?_) (fun h24 => ?_) <;> simp only [go_sem, Nat.reduceBEq]
  · (try simp only [h24, go_sem, Nat.reduceBEq]); have := of_decide_eq_true h24; subst this; exact ⟨by rw [isRes_hit (i := 24) rfl], Ext.refl _⟩
  refine Br.intro (fun h25 => ?_) (fun h25 => ?_) <;> simp only [go_sem, Nat.reduceBEq]
  · (try simp only [h25, go_sem, Nat.reduceBEq]); have := of_decide_eq_true h25; subst this; exact ⟨by rw [isRes_hit (i := 25) rfl], Ext.refl _⟩
  refine Br.intro (fun h26 => ?_) (fun h26 => ?_) <;> simp only [go_sem, Nat.reduceBEq]
  · (try simp only [h26, go_sem, Nat.reduceBEq]); have := of_decide_eq_true h26; subst this; exact ⟨by rw [isRes_hit (i := 26) rfl], Ext.refl _⟩
  refine Br.intro (fun h27 => ?_) (fun h27 => ?_) <;> simp only [go_sem, Nat.reduceBEq]
  · (try simp only [h27, go_sem, Nat.reduceBEq]); have := of_decide_eq_true h27; subst this; exact ⟨by rw [isRes_hit (i := 27) rfl], Ext.refl _⟩
  refine ⟨?_, Ext.refl _⟩
  have : isRes s = false := by
    refine isRes_miss ?_
    simp only [words, List.forall_mem_cons, List.not_mem_nil]
    exact ⟨of_decide_eq_false h0, of_decide_eq_false h1, of_decide_eq_false h2, of_decide_eq_false h3, of_decide_eq_false h4, of_decide_eq_false h5, of_decide_eq_false h6, of_decide_eq_false h7, of_decide_eq_false h8, of_decide_eq_false h9, of_decide_eq_false h10, of_decide_eq_false h11, of_decide_eq_false h12, of_decide_eq_false h13, of_decide_eq_false h14, of_decide_eq_false h15, of_decide_eq_false h16, of_decide_eq_false h17, of_decide_eq_false h18, of_decide_eq_false h19, of_decide_eq_false h20, of_decide_eq_false h21, of_decide_eq_false h22, of_decide_eq_false h23, of_decide_eq_false h24, of_decide_eq_false h25, of_decide_eq_false h26, of_decide_eq_false h27, by simp⟩
  rw [this]
theorem sIsReserved (s : ByteArray) (h : Hp) : ACalls Try.prog 76 #[.string s] h (Is (.bool (isRes s)) h) := by
  refine enter Try.func76 rfl rfl (by kernel_rfl) [] ?_
  simp only [go_sem]
  refine mine_lit slT68 (by decide) (by decide) (by decide) rfl rfl (by simp [Value.cells]) rfl rfl fun v h1 m => ?_
  have m : Mine h h1 1 v (words.map Value.string) := m
  simp only [go_sem, Nat.reduceBEq]
  obtain ⟨a, c, rfl, hc, ho⟩ := m.rd.slice 28 (by decide) rfl
  obtain ⟨b, off, rfl, hat⟩ := ho (by decide)
  refine aloop (ι := Nat) (fun x => [(4, .val (.int .i64 (x : Nat))), (3, .val (.slice (some ⟨b, off, none⟩) 28 c)), (0, .val (.string s))]) (fun _ => []) (fun x h' => x ≤ 28 ∧ (∀ j, j < x → words[j]? ≠ some s) ∧ h' = h1) (fun x => 28 - x) 0
    ⟨Nat.zero_le _, by intro j hj; omega, rfl⟩ (by repeat (first | exact wkF_e | refine wkF_c rfl ?_)) wkB_e rfl ?_
  rintro i h2 ⟨hi, hno, rfl⟩
  simp only [go_sem, Nat.reduceBEq]
  refine Br.intro (fun hb => ?_) (fun hb => ?_) <;> simp only [go_sem, Nat.reduceBEq]
  · have hi' : i < 28 := by simp at hb; omega
    have hw : IntKind.i64.wrap ((i : Int) + 1) = ((i + 1 : Nat) : Int) := by rw [IntWalk.i64_in _ (by omega)]; rfl
    simp only [ixA_nat hi', Nat.mul_one, go_sem, Nat.reduceBEq]
    obtain ⟨u, hu⟩ : ∃ u, words[i]? = some u := ⟨_, List.getElem?_eq_getElem (show i < words.length from hi')⟩
    refine hsem_at1 (i := i) tyS9 hat (scells_get hu) rfl ?_
    simp only [go_sem, Nat.reduceBEq]
    refine Br.intro (fun hs => ?_) (fun hs => ?_) <;> (try simp only [hs, hw, go_sem, Nat.reduceBEq])

    · have := of_decide_eq_true hs
      subst this
      exact ⟨by rw [isRes_hit hu], m.ext⟩
    · have hs := of_decide_eq_false hs
      refine Again.intro (i + 1) (by first | omega | (simp only; omega)) ⟨hi', fun j hj => ?_, rfl⟩ (by repeat (first | exact wkF_e | refine wkF_c rfl ?_)) wkB_e rfl
      by_cases hji : j = i
      · subst hji; rw [hu]; simpa using hs
      · exact hno j (by omega)
  · have hi' : i = 28 := by simp at hb; omega
    subst hi'
    refine ⟨?_, m.ext⟩
    have : isRes s = false := isRes_miss fun w hm hw => by
      obtain ⟨j, hj, hs⟩ := List.getElem_of_mem hm
      subst hw
      exact hno j hj (by rw [List.getElem?_eq_getElem hj, hs])
    rw [this]
end Go.Proofs.Ytamjpcmcpcdggaa
