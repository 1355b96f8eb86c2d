/- Plain law of 'note': a comment that is written well is read as it is, whatever stands behind it. -/
import Derived.Test.YthbeoddbgcdpnaaPlainNoteB
namespace Ty
open Go.Lib

theorem occ_get {l p : B} {j : Nat} (h : occAt l p j = true) (q : Nat) (hq : q < p.length) : l[j + q]? = p[q]? := by
  unfold occAt at h
  rw [List.isPrefixOf_iff_prefix] at h
  obtain ⟨t, ht⟩ := h
  have e : (l.drop j)[q]? = (p ++ t)[q]? := by rw [ht]
  rw [List.getElem?_drop, List.getElem?_append_left hq] at e
  exact e

theorem occ_of_get {l p : B} {j : Nat} (h : ∀ q, q < p.length → l[j + q]? = p[q]?) : occAt l p j = true := by
  unfold occAt
  rw [List.isPrefixOf_iff_prefix, List.prefix_iff_eq_take]
  apply List.ext_getElem?
  intro q
  by_cases hq : q < p.length
  · rw [List.getElem?_take_of_lt hq, List.getElem?_drop, h q hq]
  · rw [List.getElem?_eq_none (by omega), List.getElem?_eq_none (by rw [List.length_take]; omega)]

theorem readBack (text more : B) (hA : contains text endA = false) (hB : contains text endB = false) (h1 : text[0]? ≠ some 62) (h2 : 0 < text.length → text[text.length - 1]? ≠ some 45)
    (h3 : 1 < text.length → text.take 2 ≠ [45, 62]) (h4 : hasSuffix text [45, 45, 33] = false) :
    read (sNote ++ (text ++ (endA ++ more))) 0 false = (4, text, ((text.length + 7 : Nat) : Int)) := by
  obtain ⟨L, hL⟩ : ∃ L, text ++ (endA ++ more) = L := ⟨_, rfl⟩
  have hLl : L.length = text.length + (3 + more.length) := by rw [← hL]; simp [endA]; omega
  have hin : ∀ j, j < text.length → L[j]? = text[j]? := fun j hj => by rw [← hL, List.getElem?_append_left hj]
  have hend : ∀ q, q < 3 → L[text.length + q]? = endA[q]? := fun q hq => by
    rw [← hL, List.getElem?_append_right (by omega), Nat.add_sub_cancel_left, List.getElem?_append_left (by simpa [endA] using hq)]
  have hocc : occAt L endA text.length = true := occ_of_get (fun q hq => hend q (by simpa [endA] using hq))
  have inside : ∀ p : B, contains text p = false → ∀ j, j + p.length ≤ text.length → occAt L p j = false := fun p hp j hj => by
    cases ho : occAt L p j with
    | false => rfl
    | true =>
      have hc : occAt text p j = true := occ_of_get (fun q hq => by rw [← hin _ (by omega)]; exact occ_get ho q hq)
      rw [noOcc_of_contains hp j (by omega)] at hc
      exact absurd hc (by decide)
  have e0 := inside endA hA
  have e1 := inside endB hB
  have hAj : ∀ j, 0 ≤ j → j < text.length → occAt L endA j = false := fun j _ hj => by
    by_cases hin2 : j + 3 ≤ text.length
    · exact e0 j hin2
    · cases ho : occAt L endA j with
      | false => rfl
      | true =>
        exfalso
        have hg := occ_get ho (text.length - 1 - j) (by simp [endA]; omega)
        rw [show j + (text.length - 1 - j) = text.length - 1 from by omega, hin _ (by omega)] at hg
        have hq : text.length - 1 - j = 0 ∨ text.length - 1 - j = 1 := by omega
        rcases hq with hq | hq <;> rw [hq] at hg <;> exact h2 (by omega) hg
  have hBj : ∀ j, 0 ≤ j → j < text.length → occAt L endB j = false := fun j _ hj => by
    by_cases hin2 : j + 4 ≤ text.length
    · exact e1 j hin2
    · cases ho : occAt L endB j with
      | false => rfl
      | true =>
        exfalso
        have hg := occ_get ho (text.length - 1 - j) (by simp [endB]; omega)
        rw [show j + (text.length - 1 - j) = text.length - 1 from by omega, hin _ (by omega)] at hg
        have hq : text.length - 1 - j = 0 ∨ text.length - 1 - j = 1 ∨ text.length - 1 - j = 2 := by omega
        rcases hq with hq | hq | hq
        · rw [hq] at hg; exact h2 (by omega) hg
        · rw [hq] at hg; exact h2 (by omega) hg
        · have g0 := occ_get ho 0 (by simp [endB])
          have g1 := occ_get ho 1 (by simp [endB])
          have g2 := occ_get ho 2 (by simp [endB])
          rw [hin _ (by omega)] at g0 g1 g2
          have hs : hasSuffix text [45, 45, 33] = true := by
            unfold hasSuffix
            rw [List.isSuffixOf_iff_suffix, List.suffix_iff_eq_drop]
            apply List.ext_getElem?
            intro q
            rw [List.getElem?_drop]
            simp only [List.length_cons, List.length_nil]
            have hj3 : text.length - (0 + 1 + 1 + 1) = j := by omega
            rw [hj3]
            match q with
            | 0 => exact g0.symm
            | 1 => exact g1.symm
            | 2 => exact g2.symm
            | q + 3 => rw [List.getElem?_eq_none (by simp), List.getElem?_eq_none (by omega)]
          rw [h4] at hs
          exact absurd hs (by decide)
  have hs1 : occAt L [62] 0 = false := by
    cases ho : occAt L [62] 0 with
    | false => rfl
    | true =>
      exfalso
      have hg := occ_get ho 0 (by simp)
      by_cases hz : 0 < text.length
      · rw [hin _ (by omega)] at hg; exact h1 hg
      · have := hend 0 (by omega)
        rw [show text.length + 0 = 0 + 0 from by omega, hg] at this
        exact absurd this (by decide)
  have hs2 : occAt L [45, 62] 0 = false := by
    cases ho : occAt L [45, 62] 0 with
    | false => rfl
    | true =>
      exfalso
      have g0 := occ_get ho 0 (by simp)
      have g1 := occ_get ho 1 (by simp)
      by_cases hz : text.length = 0
      · have := hend 1 (by omega)
        rw [show text.length + 1 = 0 + 1 from by omega, g1] at this
        exact absurd this (by decide)
      · by_cases hz1 : text.length = 1
        · rw [hin _ (by omega)] at g0
          exact h2 (by omega) (by rw [hz1]; exact g0)
        · rw [hin _ (by omega)] at g0 g1
          refine h3 (by omega) ?_
          apply List.ext_getElem?
          intro q
          match q with
          | 0 => rw [List.getElem?_take_of_lt (by omega)]; exact g0
          | 1 => rw [List.getElem?_take_of_lt (by omega)]; exact g1
          | q + 2 => rw [List.getElem?_eq_none (by rw [List.length_take]; omega), List.getElem?_eq_none (by simp)]
  have hcm := comment_A (i := 0) (Nat.zero_le _) (by omega) hAj hBj hocc hs1 hs2
  rw [List.drop_zero, Nat.sub_zero] at hcm
  have htk : L.take text.length = text := by rw [← hL]; simp
  rw [htk] at hcm
  rw [hL]
  have hbg : begins (sNote ++ L) 0 = true := by
    unfold begins atB occAt sNote
    simp [List.isPrefixOf]
  have hpre : hasPrefix (sNote ++ L) sNote = true := by
    unfold hasPrefix
    rw [List.isPrefixOf_iff_prefix]
    exact List.prefix_append _ _
  have hdr : (sNote ++ L).drop 4 = L := by simp [sNote]
  have hr1 : read1 (sNote ++ L) false = (4, text, 4 + (text.length + 3)) := by
    unfold read1
    rw [if_pos hpre, hdr, hcm]
  unfold read
  rw [if_pos hbg, show (0 : Int).toNat = 0 from rfl, List.drop_zero, hr1]
  simp only [Prod.mk.injEq, true_and]
  omega

end Ty
