/- The contract of note.Begins. -/
import Derived.Test.YthbeoddbgcdpnaaWalkNoteA
namespace Go.Proofs
open Go.RowKit
set_option linter.unusedSimpArgs false
set_option linter.unusedVariables false

theorem Try.occ2 (l : List UInt8) (k : Nat) (a b : UInt8) (h : k + 1 < l.length) : Lib.occAt l [a, b] k = (l[k] == a && l[k + 1] == b) := by
  unfold Lib.occAt
  rw [List.drop_eq_getElem_cons (by omega), List.drop_eq_getElem_cons (by omega)]
  rw [Bool.eq_iff_iff]
  simp only [List.isPrefixOf, Bool.and_true, Bool.and_eq_true, beq_iff_eq]
  exact ⟨fun ⟨h1, h2⟩ => ⟨h1.symm, h2.symm⟩, fun ⟨h1, h2⟩ => ⟨h1.symm, h2.symm⟩⟩

theorem Try.occ2_short (l : List UInt8) (k : Nat) (a b : UInt8) (h : ¬ k + 1 < l.length) : Lib.occAt l [a, b] k = false := by
  cases ho : Lib.occAt l [a, b] k with
  | false => rfl
  | true => have := Ty.occAt_len ho (by simp); simp at this; omega

theorem Try.byteNe (c : UInt8) (n : Nat) (hn : n < 256) : (((c.toNat : Int) != (n : Int)) = true) = (c ≠ UInt8.ofNat n) := by
  have := c.toNat_lt
  simp only [bne_iff_ne, ne_eq, eq_iff_iff]
  rw [Decidable.not_iff_not]
  constructor
  · intro h; apply UInt8.toNat_inj.1; rw [UInt8.toNat_ofNat']; simp; omega
  · intro h; subst h; rw [UInt8.toNat_ofNat']; simp; omega

/-- what stands at two places and one more, in the walk's words -/
def Try.BeginsWay (c0 c1 : UInt8) (no r : Bool) : Prop :=
  (((c0.toNat : Int) != 60) = true ∧ r = false) ∨
  (((c0.toNat : Int) != 60) = false ∧ ((c1.toNat : Int) == 33) = true ∧ r = true) ∨
  (((c0.toNat : Int) != 60) = false ∧ ((c1.toNat : Int) == 33) = false ∧ ((c1.toNat : Int) == 63) = true ∧ r = true) ∨
  (((c0.toNat : Int) != 60) = false ∧ ((c1.toNat : Int) == 33) = false ∧ ((c1.toNat : Int) == 63) = false ∧ ((c1.toNat : Int) == 47) = false ∧ r = false) ∨
  (((c0.toNat : Int) != 60) = false ∧ ((c1.toNat : Int) == 33) = false ∧ ((c1.toNat : Int) == 63) = false ∧ ((c1.toNat : Int) == 47) = true ∧ r = no)

theorem Try.begins_way (c0 c1 : UInt8) (no : Bool) : Try.BeginsWay c0 c1 no ((c0 == 60 && c1 == 33) || (c0 == 60 && c1 == 63) || ((c0 == 60 && c1 == 47) && no)) := by
  have n0 := Try.byteNe c0 60 (by decide)
  have n1 := Try.byteNe c1 33 (by decide)
  have n2 := Try.byteNe c1 63 (by decide)
  have n3 := Try.byteNe c1 47 (by decide)
  simp at n0 n1 n2 n3
  unfold Try.BeginsWay
  by_cases h0 : c0 = 60
  · by_cases h1 : c1 = 33
    · subst h0 h1; simp
    · by_cases h2 : c1 = 63
      · subst h0 h2; simp
      · by_cases h3 : c1 = 47
        · subst h0 h3; simp
        · simp [h0, h1, h2, h3, n1, n2, n3]
  · simp [h0, n0]

theorem Try.begins_of (s : ByteArray) (k : Nat) (hk : k + 1 < s.size) :
    Try.BeginsWay s[k] s[k + 1] (Ty.noLetterAt s.data.toList (k + 2)) (Ty.begins s.data.toList k) := by
  have hl : s.data.toList.length = s.size := (Lib.size_eq s).symm
  have g0 : s[k] = s.data.toList[k]'(by omega) := rfl
  have g1 : s[k + 1] = s.data.toList[k + 1]'(by omega) := rfl
  have hb : Ty.begins s.data.toList k = ((s[k] == 60 && s[k + 1] == 33) || (s[k] == 60 && s[k + 1] == 63) || ((s[k] == 60 && s[k + 1] == 47) && Ty.noLetterAt s.data.toList (k + 2))) := by
    unfold Ty.begins Ty.atB
    rw [Int.toNat_natCast, Try.occ2 _ _ _ _ (by omega), Try.occ2 _ _ _ _ (by omega), Try.occ2 _ _ _ _ (by omega), ← g0, ← g1]
    simp
  rw [hb]
  exact Try.begins_way _ _ _

theorem Try.extract_at (s : ByteArray) (a j : Nat) (h : j < (s.extract a s.size).size) (h2 : a + j < s.size) : (s.extract a s.size)[j] = s[a + j] := by
  rw [ByteArray.getElem_extract]

theorem Try.extract_at2 (s : ByteArray) (a j b : Nat) (h : j < (s.extract a s.size).size) (hb : b = a + j) (h2 : b < s.size) : (s.extract a s.size)[j] = s[b] := by
  subst hb
  exact Try.extract_at s a j h h2

theorem Try.noLetter_at (s : ByteArray) (b : Nat) (h2 : b < s.size) : Ty.noLetterAt s.data.toList b = !Try.letterI (s[b].toNat : Int) := by
  rw [Try.letterI_byte]
  unfold Ty.noLetterAt
  rw [List.getElem?_eq_getElem (by rw [← Lib.size_eq]; exact h2)]
  rfl

set_option maxHeartbeats 400000 in
theorem Try.begins_w0 (s : ByteArray) (k : Nat) (w : World) (hs : s.size ≤ 140737488351232) (hk : k + 1 < s.size) (hx : 0 < (s.extract (k + 1) s.size).size) (c0 c1 : UInt8) (e0 : s[k] = c0) (e1 : (s.extract (k + 1) s.size)[(0 : Nat)]'hx = c1)
    (h0 : ((c0.toNat : Int) != 60) = true)
    : Calls Try.prog 11 #[.string s, .int .i64 k] w fun e w' => e = .returned (.bool false) ∧ w = w' := by
  go_enter Try.func11, Try.ntmps11
  go_wp2
  go_ret
  exact ⟨rfl, rfl⟩

set_option maxHeartbeats 400000 in
theorem Try.begins_w1 (s : ByteArray) (k : Nat) (w : World) (hs : s.size ≤ 140737488351232) (hk : k + 1 < s.size) (hx : 0 < (s.extract (k + 1) s.size).size) (c0 c1 : UInt8) (e0 : s[k] = c0) (e1 : (s.extract (k + 1) s.size)[(0 : Nat)]'hx = c1)
    (h0 : ((c0.toNat : Int) != 60) = false)
    (h1 : ((c1.toNat : Int) == 33) = true)
    : Calls Try.prog 11 #[.string s, .int .i64 k] w fun e w' => e = .returned (.bool true) ∧ w = w' := by
  go_enter Try.func11, Try.ntmps11
  go_wp2
  go_ret
  exact ⟨rfl, rfl⟩

set_option maxHeartbeats 400000 in
theorem Try.begins_w2 (s : ByteArray) (k : Nat) (w : World) (hs : s.size ≤ 140737488351232) (hk : k + 1 < s.size) (hx : 0 < (s.extract (k + 1) s.size).size) (c0 c1 : UInt8) (e0 : s[k] = c0) (e1 : (s.extract (k + 1) s.size)[(0 : Nat)]'hx = c1)
    (h0 : ((c0.toNat : Int) != 60) = false)
    (h1 : ((c1.toNat : Int) == 33) = false)
    (h2 : ((c1.toNat : Int) == 63) = true)
    : Calls Try.prog 11 #[.string s, .int .i64 k] w fun e w' => e = .returned (.bool true) ∧ w = w' := by
  go_enter Try.func11, Try.ntmps11
  go_wp2
  go_ret
  exact ⟨rfl, rfl⟩

set_option maxHeartbeats 400000 in
theorem Try.begins_w3 (s : ByteArray) (k : Nat) (w : World) (hs : s.size ≤ 140737488351232) (hk : k + 1 < s.size) (hx : 0 < (s.extract (k + 1) s.size).size) (c0 c1 : UInt8) (e0 : s[k] = c0) (e1 : (s.extract (k + 1) s.size)[(0 : Nat)]'hx = c1)
    (h0 : ((c0.toNat : Int) != 60) = false)
    (h1 : ((c1.toNat : Int) == 33) = false)
    (h2 : ((c1.toNat : Int) == 63) = false)
    (h3 : ((c1.toNat : Int) == 47) = false)
    : Calls Try.prog 11 #[.string s, .int .i64 k] w fun e w' => e = .returned (.bool false) ∧ w = w' := by
  go_enter Try.func11, Try.ntmps11
  go_wp2
  go_ret
  exact ⟨rfl, rfl⟩

set_option maxHeartbeats 400000 in
theorem Try.begins_w4 (s : ByteArray) (k : Nat) (w : World) (hs : s.size ≤ 140737488351232) (hk : k + 1 < s.size) (hx : 0 < (s.extract (k + 1) s.size).size) (c0 c1 : UInt8) (e0 : s[k] = c0) (e1 : (s.extract (k + 1) s.size)[(0 : Nat)]'hx = c1) (hx1 : 1 < (s.extract (k + 1) s.size).size) (h2k : k + 2 < s.size) (c2 : UInt8) (e2 : (s.extract (k + 1) s.size)[(1 : Nat)]'hx1 = c2) (hb1 : c2.toNat < 256)
    (h0 : ((c0.toNat : Int) != 60) = false)
    (h1 : ((c1.toNat : Int) == 33) = false)
    (h2 : ((c1.toNat : Int) == 63) = false)
    (h3 : ((c1.toNat : Int) == 47) = true)
    : Calls Try.prog 11 #[.string s, .int .i64 k] w fun e w' => e = .returned (.bool (!Try.letterI (c2.toNat : Int))) ∧ w = w' := by
  go_enter Try.func11, Try.ntmps11
  go_wp2_with (go_at_call 23; refine (Try.letter_any _ (by omega) (by omega) _).mono ?_; rintro e w' ⟨rfl, rfl⟩)
  go_ret
  exact ⟨rfl, rfl⟩

set_option maxHeartbeats 400000 in
theorem Try.begins_w5 (s : ByteArray) (k : Nat) (w : World) (hs : s.size ≤ 140737488351232) (hk : k + 1 < s.size) (hx : 0 < (s.extract (k + 1) s.size).size) (c0 c1 : UInt8) (e0 : s[k] = c0) (e1 : (s.extract (k + 1) s.size)[(0 : Nat)]'hx = c1) (h2k : ¬ k + 2 < s.size)
    (h0 : ((c0.toNat : Int) != 60) = false)
    (h1 : ((c1.toNat : Int) == 33) = false)
    (h2 : ((c1.toNat : Int) == 63) = false)
    (h3 : ((c1.toNat : Int) == 47) = true)
    : Calls Try.prog 11 #[.string s, .int .i64 k] w fun e w' => e = .returned (.bool false) ∧ w = w' := by
  go_enter Try.func11, Try.ntmps11
  go_wp2
  go_ret
  exact ⟨rfl, rfl⟩

set_option maxHeartbeats 400000 in
theorem Try.begins_neg (s : ByteArray) (i : Int) (w : World) (hs : s.size ≤ 140737488351232) (hi : i < 0) (hi0 : -9223372036854775808 ≤ i) :
    Calls Try.prog 11 #[.string s, .int .i64 i] w fun e w' => e = .returned (.bool false) ∧ w = w' := by
  go_enter Try.func11, Try.ntmps11
  go_wp2
  go_ret
  exact ⟨rfl, rfl⟩

set_option maxHeartbeats 400000 in
theorem Try.begins_past (s : ByteArray) (k : Nat) (w : World) (hs : s.size ≤ 140737488351232) (hk : ¬ k + 1 < s.size) (hi1 : (k : Int) ≤ 9223372036854775807) :
    Calls Try.prog 11 #[.string s, .int .i64 k] w fun e w' => e = .returned (.bool false) ∧ w = w' := by
  go_enter Try.func11, Try.ntmps11
  go_wp2
  go_ret
  exact ⟨rfl, rfl⟩

theorem Try.begins_any (s : ByteArray) (i : Int) (w : World) (hs : s.size ≤ 140737488351232) (hi0 : -9223372036854775808 ≤ i) (hi1 : i ≤ 9223372036854775807) :
    Calls Try.prog 11 #[.string s, .int .i64 i] w fun e w' => e = .returned (.bool (Ty.begins s.data.toList i)) ∧ w = w' := by
  by_cases hneg : i < 0
  · have e : Ty.begins s.data.toList i = false := by unfold Ty.begins Ty.atB; simp [show ¬ 0 ≤ i from by omega]
    rw [e]
    exact Try.begins_neg s i w hs hneg hi0
  · obtain ⟨k, rfl⟩ := Int.eq_ofNat_of_zero_le (by omega : 0 ≤ i)
    by_cases hk : k + 1 < s.size
    · have hw := Try.begins_of s k hk
      have hx : 0 < (s.extract (k + 1) s.size).size := by rw [ByteArray.size_extract]; omega
      have e1 : (s.extract (k + 1) s.size)[(0 : Nat)]'hx = s[k + 1]'hk := Try.extract_at2 s (k + 1) 0 (k + 1) hx rfl hk
      rw [← e1] at hw
      rcases hw with ⟨h0, e⟩ | ⟨h0, h1, e⟩ | ⟨h0, h1, h2, e⟩ | ⟨h0, h1, h2, h3, e⟩ | ⟨h0, h1, h2, h3, e⟩
      · rw [e]; exact Try.begins_w0 s k w hs hk hx _ _ rfl rfl h0
      · rw [e]; exact Try.begins_w1 s k w hs hk hx _ _ rfl rfl h0 h1
      · rw [e]; exact Try.begins_w2 s k w hs hk hx _ _ rfl rfl h0 h1 h2
      · rw [e]; exact Try.begins_w3 s k w hs hk hx _ _ rfl rfl h0 h1 h2 h3
      · rw [e]
        by_cases h2k : k + 2 < s.size
        · have hx1 : 1 < (s.extract (k + 1) s.size).size := by rw [ByteArray.size_extract]; omega
          have e2 : (s.extract (k + 1) s.size)[(1 : Nat)]'hx1 = s[k + 2]'h2k := Try.extract_at2 s (k + 1) 1 (k + 2) hx1 rfl h2k
          rw [Try.noLetter_at s (k + 2) h2k, ← e2]
          exact Try.begins_w4 s k w hs hk hx _ _ rfl rfl hx1 h2k _ rfl (UInt8.toNat_lt _) h0 h1 h2 h3
        · have hno : Ty.noLetterAt s.data.toList (k + 2) = false := by
            unfold Ty.noLetterAt
            rw [List.getElem?_eq_none (by rw [← Lib.size_eq]; omega)]
          rw [hno]
          exact Try.begins_w5 s k w hs hk hx _ _ rfl rfl h2k h0 h1 h2 h3
    · have e : Ty.begins s.data.toList k = false := by
        unfold Ty.begins Ty.atB
        rw [Int.toNat_natCast, Try.occ2_short _ _ _ _ (by rw [← Lib.size_eq]; omega), Try.occ2_short _ _ _ _ (by rw [← Lib.size_eq]; omega), Try.occ2_short _ _ _ _ (by rw [← Lib.size_eq]; omega)]
        simp
      rw [e]
      exact Try.begins_past s k w hs hk hi1
end Go.Proofs
