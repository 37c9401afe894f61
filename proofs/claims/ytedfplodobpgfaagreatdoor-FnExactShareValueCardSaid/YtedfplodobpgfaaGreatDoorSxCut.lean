/-
  A part of the abstract machine over the model's Code, or of the proof that what it shows holds of the model; no program is in sight, and nothing is assumed.
-/
import Derived.Test.YtedfplodobpgfaaGreatDoorSxSub
/-! An element is cut out of a slice of the walk's own, in place. -/
namespace Go.Sx
open Go
section
variable {P : Program} {h0 h : Hp} {K : Value → Hp → Prop} {bag : Bag}
theorem OwS.pre {z b n cap : Nat} {xs : List Value} {B : List Nat} (k : OwS h z (.slice (some ⟨b, 0, none⟩) n cap) xs B) (i : Nat) (hi : i ≤ n) : OwS h z (.slice (some ⟨b, 0, none⟩) i cap) (xs.take (i * z)) B := by
  cases k with
  | nil =>
    obtain rfl : i = 0 := by omega
    simpa using OwS.nil
  | row hb hn hm hz hl ht h1 =>
    refine .row hb (by omega) hm hz ?_ ?_ (one_take h1 _)
    · rw [List.length_take, hl]
      exact Nat.min_eq_left (Nat.mul_le_mul_right _ hi)
    · rw [← ht, List.take_take, Nat.min_eq_left (Nat.mul_le_mul_right _ hi)]
theorem hsem_my_cut {t ty : Nat} {s : SlT} (hs : slT P t = some s) (hz0 : 0 < s.z) (hzl : s.zero.length = s.z) {b n cap i : Nat} {A E D : List Dt} {x : Value}
    (my : My h0 h ((.row s.z (A ++ (E ++ D)), .slice (some ⟨b, 0, none⟩) n cap) :: bag)) (hi : i < n) (hA : A.length = i * s.z) (hE : E.length = s.z) (hD : D.length = (n - (i + 1)) * s.z)
    (hx : slA (some s.z) (some ⟨b, 0, none⟩) n cap ((i + 1 : Nat) : Int) (n : Int) = some x) (hb : n * s.by_ ≤ 140737488355328) (hb2 : n ≤ 140737488355328)
    (k : ∀ v' h', My h0 h' ((.row s.z (A ++ D), v') :: bag) → K v' h') : HSem P (apI #[t, t] ty #[.slice (some ⟨b, 0, none⟩) i cap, x]) h K := by
  obtain ⟨B1, B2, l1, l2, k2, k3, k4⟩ := My.cons_iff.1 my
  simp only [Ow] at l1
  obtain ⟨ys, C1, C2, o1, o2, rfl⟩ := l1
  obtain ⟨a', hx', rx⟩ := o1.rd.sub (i + 1) n (by omega) (Nat.le_refl _)
  rw [hx] at hx'
  cases hx'
  obtain ⟨ya, yr, Ca, Cr, rfl, rfl, oa, or_⟩ := o2.split
  obtain ⟨ye, yd, Ce, Cd, rfl, rfl, oe, od⟩ := or_.split
  have la : ya.length = i * s.z := by rw [oa.len, hA]
  have le : ye.length = s.z := by rw [oe.len, hE]
  have ld : yd.length = (n - (i + 1)) * s.z := by rw [od.len, hD]
  have e1 : (ya ++ (ye ++ yd)).take (i * s.z) = ya := by rw [← la, List.take_left]
  have e2 : ((ya ++ (ye ++ yd)).drop ((i + 1) * s.z)).take ((n - (i + 1)) * s.z) = yd := by
    rw [← List.append_assoc, show (i + 1) * s.z = (ya ++ ye).length by rw [List.length_append, la, le, Nat.add_mul, Nat.one_mul], List.drop_left, ← ld, List.take_length]
  rw [e2] at rx
  have op := o1.pre i (by omega)
  rw [e1] at op
  have hnd : (C1 ++ ((Ca ++ (Ce ++ Cd)) ++ B2)).Nodup := by simpa using k2
  have hC1 : ∀ b ∈ (Ca ++ (Ce ++ Cd)) ++ B2, b ∉ C1 := fun b hb hb' => (List.nodup_append.1 hnd).2.2 b hb' b hb rfl
  refine hsem_append hs hz0 hzl op rx la ld (by rw [show i + (n - (i + 1)) = n - 1 by omega]; exact Nat.le_trans (Nat.mul_le_mul_right _ (by omega)) hb) (by omega) fun v' h' B' ho hbut hB => k v' h' ?_
  have fr : ∀ {ds : List Dt} {ys : List Value} {B : List Nat}, OwL h ds ys B → (∀ b ∈ B, b ∈ (Ca ++ (Ce ++ Cd)) ++ B2) → OwL h' ds ys B := fun k hB => k.frame fun b' hb' => by
    obtain ⟨o, ho⟩ := k.there b' hb'
    rw [hbut b' o ho (hC1 b' (hB b' hb')), ho]
  have hB'n : B'.Nodup := ho.nodup
  have hB'd : ∀ b ∈ B', b ∉ (Ca ++ (Ce ++ Cd)) ++ B2 := by
    intro b hb hb'
    rcases hB b hb with h1 | h1
    · exact hC1 b hb' h1
    · have : ∃ o, h b = some o := by
        rcases List.mem_append.1 hb' with h2 | h2
        · exact o2.there b h2
        · exact l2.there b h2
      obtain ⟨o, ho⟩ := this
      rw [h1] at ho
      cases ho
  rw [My.cons_iff]
  refine ⟨B' ++ (Ca ++ Cd), B2, ?_, fr l2 (by simp +contextual), ?_, ?_, ?_⟩
  · simp only [Ow]
    exact ⟨_, B', _, ho, (fr oa (by simp +contextual)).append (fr od (by simp +contextual)), rfl⟩
  · rw [List.append_assoc]
    refine List.nodup_append.2 ⟨hB'n, ?_, ?_⟩
    · have h1 := (List.nodup_append.1 hnd).2.1
      have hsub : List.Sublist ((Ca ++ Cd) ++ B2) ((Ca ++ (Ce ++ Cd)) ++ B2) := ((List.Sublist.refl Ca).append (List.sublist_append_right Ce Cd)).append (List.Sublist.refl B2)
      exact h1.sublist hsub
    · intro a ha b hb hab
      subst hab
      refine hB'd a ha ?_
      simp only [List.mem_append] at hb ⊢
      rcases hb with (h1 | h1) | h1 <;> simp [h1]
  · intro b hb
    simp only [List.mem_append] at hb
    rcases hb with (h1 | h1 | h1) | h1
    · rcases hB b h1 with h2 | h2
      · exact k3 b (by simp [h2])
      · exact none_of_ext k4 h2
    · exact k3 b (by simp [h1])
    · exact k3 b (by simp [h1])
    · exact k3 b (by simp [h1])
  · exact hbut.ext k4 fun b hb => k3 b (by simp [hb])
end
end Go.Sx
