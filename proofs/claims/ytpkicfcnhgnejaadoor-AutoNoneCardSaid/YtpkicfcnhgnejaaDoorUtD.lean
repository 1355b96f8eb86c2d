/- Texts: their characters, one by one; the last one. No program. No condition. -/
import Derived.Test.YtpkicfcnhgnejaaDoorUtC
import Derived.Lib.SpaceU
import Derived.Lib.RuneBytes
import GoSem.Conv.StringToRunes
import GoSem.Conv.RunesToString
namespace Go.Proofs
open Go
set_option linter.unusedVariables false
set_option linter.unusedSimpArgs false
set_option maxRecDepth 100000

def runesGo : Nat → Bs → List Nat
  | 0, _ => []
  | _, [] => []
  | k + 1, x :: t => (dec (x :: t)).1 :: runesGo k ((x :: t).drop (dec (x :: t)).2)
/-- the characters that are read, one by one -/
def runesP (s : Bs) : List Nat := runesGo s.length s
theorem dec_bd (x : UInt8) (t : Bs) : 1 ≤ (dec (x :: t)).2 ∧ (dec (x :: t)).2 ≤ (x :: t).length := by
  rcases dec_spec x t with e | ⟨_, h1, h2, _⟩
  · rw [e]; simp
  · have := enc_len (dec (x :: t)).1
    omega
theorem dec_scal (x : UInt8) (t : Bs) : scal (dec (x :: t)).1 := by
  rcases dec_spec x t with e | ⟨h, _⟩
  · rw [e]; unfold scal; simp
  · exact h
theorem runesGo_nil (k : Nat) : runesGo k [] = [] := by cases k <;> rfl
theorem runesGo_more : ∀ (k : Nat) (b : Bs), b.length ≤ k → runesGo k b = runesGo b.length b
  | 0, [], _ => rfl
  | k + 1, [], _ => rfl
  | 0, x :: t, h => by simp at h
  | k + 1, x :: t, h => by
    have hb := dec_bd x t
    have hl : ((x :: t).drop (dec (x :: t)).2).length ≤ t.length := by simp at hb ⊢; omega
    show (dec (x :: t)).1 :: runesGo k ((x :: t).drop (dec (x :: t)).2) = (dec (x :: t)).1 :: runesGo t.length ((x :: t).drop (dec (x :: t)).2)
    rw [runesGo_more k _ (by simp at h; omega), runesGo_more t.length _ hl]
theorem runesP_cons (x : UInt8) (t : Bs) : runesP (x :: t) = (dec (x :: t)).1 :: runesP ((x :: t).drop (dec (x :: t)).2) := by
  have hb := dec_bd x t
  show (dec (x :: t)).1 :: runesGo t.length ((x :: t).drop (dec (x :: t)).2) = _
  rw [runesGo_more t.length _ (by simp at hb ⊢; omega)]; rfl
theorem runesP_ne {b : Bs} (h : b ≠ []) : runesP b = (dec b).1 :: runesP (b.drop (dec b).2) := by
  cases b with
  | nil => exact absurd rfl h
  | cons x t => exact runesP_cons x t
theorem runesP_encs : ∀ (rs : List Nat), (∀ r ∈ rs, scal r) → runesP (encs rs) = rs
  | [], _ => rfl
  | r :: rs, h => by
    rw [encs_cons, runesP_ne (by simp [enc_ne]), dec_enc (h r (by simp))]
    simp only [List.drop_left]
    rw [runesP_encs rs fun x hx => h x (by simp [hx])]
theorem runes_scal : ∀ (n : Nat) (b : Bs), b.length ≤ n → ∀ r ∈ runesP b, scal r
  | _, [], _, r, hr => by simp [runesP, runesGo] at hr
  | 0, x :: t, h, _, _ => by simp at h
  | n + 1, x :: t, h, r, hr => by
    rw [runesP_cons] at hr
    rcases List.mem_cons.1 hr with rfl | hr
    · exact dec_scal x t
    · have hb := dec_bd x t
      exact runes_scal n _ (by simp at h hb ⊢; omega) r hr
/-- the model's way -/
theorem conv_runes (s : ByteArray) : ∀ (k i : Nat) (acc : Array Value), Conv.runesFrom s k i acc = acc ++ ((runesGo k (s.data.toList.drop i)).map fun (r : Nat) => Value.int .i32 (r : Int)).toArray
  | 0, i, acc => by simp [Conv.runesFrom, runesGo]
  | k + 1, i, acc => by
    unfold Conv.runesFrom
    have hsz : s.size = s.data.toList.length := rfl
    split
    · rename_i h
      have e := decode_dec s i
      rw [hsz] at h
      rw [e]
      cases hd : s.data.toList.drop i with
      | nil => simp at hd; simp at h; omega
      | cons x t =>
        simp only
        rw [conv_runes s k, ← List.drop_drop, hd]
        simp [runesGo]
    · rename_i h
      rw [List.drop_of_length_le (by omega), runesGo_nil]
      simp
theorem conv_runesP (s : ByteArray) : Conv.runesFrom s s.size 0 #[] = ((runesP s.data.toList).map fun (r : Nat) => Value.int .i32 (r : Int)).toArray := by
  rw [conv_runes]
  have hsz : s.size = s.data.toList.length := rfl
  rw [hsz, List.drop_zero]
  simp [runesP]

/-! ### the last one -/
theorem decodeL_dec (l : Bs) : Lib.decodeL l = dec l := by
  unfold Lib.decodeL
  rw [decode_dec]; rfl
theorem start_b8 {n : Nat} (h : n < 256) : Lib.runeStartB (b8 n) = (n / 64 != 2) := by unfold Lib.runeStartB; rw [b8_nat h]
theorem last_enc (a : Bs) {r : Nat} (h : scal r) : Lib.decodeLastL (a ++ encN r) = (r, (encN r).length) := by
  have hd := dec_enc h []
  rw [List.append_nil] at hd
  unfold scal at h
  unfold Lib.decodeLastL
  rw [if_neg (by simp [enc_ne])]
  have get : ∀ (u : Bs) (k : Nat), 1 ≤ k → k ≤ u.length → (a ++ u).getD ((a ++ u).length - k) 0 = u.getD (u.length - k) 0 := fun u k h1 h2 => by
    rw [List.getD_eq_getElem?_getD, List.getD_eq_getElem?_getD, List.length_append, List.getElem?_append_right (by omega)]
    congr 2; omega
  rw [get _ 1 (Nat.le_refl _) (enc_len r).1]
  have key : Lib.lastStart (a ++ encN r) = a.length → ¬ ((encN r).getD ((encN r).length - 1) 0).toNat < 128 → (if ((encN r).getD ((encN r).length - 1) 0).toNat < 128 then (((encN r).getD ((encN r).length - 1) 0).toNat, 1) else
      let d := Lib.decodeL ((a ++ encN r).drop (Lib.lastStart (a ++ encN r)))
      if Lib.lastStart (a ++ encN r) + d.2 = (a ++ encN r).length then d else (Utf8.runeError, 1)) = (r, (encN r).length) := fun hl hb => by
    rw [if_neg hb, hl, List.drop_left, decodeL_dec, hd]
    simp
  by_cases c1 : r < 128
  · have e : encN r = [b8 r] := by unfold encN; rw [if_pos c1]
    rw [e]
    simp only [List.length_cons, List.length_nil, Nat.zero_add, Nat.sub_self, List.getD_cons_zero]
    rw [b8_nat (by omega), if_pos c1]
  by_cases c2 : r < 2048
  · have e : encN r = [b8 (192 + r / 64), b8 (128 + r % 64)] := by unfold encN; rw [if_neg c1, if_pos c2]
    have g2 : Lib.runeStartB ((a ++ encN r).getD ((a ++ encN r).length - 2) 0) = true := by
      rw [get _ 2 (by decide) (by rw [e]; simp), e]
      show Lib.runeStartB (b8 (192 + r / 64)) = true
      rw [start_b8 (by omega)]; simp; omega
    refine key ?_ ?_
    · unfold Lib.lastStart
      simp only [g2]
      rw [if_neg (by rw [e]; simp), if_pos trivial, e]; simp
    · rw [e]
      show ¬ (b8 (128 + r % 64)).toNat < 128
      rw [b8_nat (by omega)]; omega
  by_cases c3 : r < 65536
  · have e : encN r = [b8 (224 + r / 4096), b8 (128 + r / 64 % 64), b8 (128 + r % 64)] := by unfold encN; rw [if_neg c1, if_neg c2, if_pos c3]
    have g2 : Lib.runeStartB ((a ++ encN r).getD ((a ++ encN r).length - 2) 0) = false := by
      rw [get _ 2 (by decide) (by rw [e]; simp), e]
      show Lib.runeStartB (b8 (128 + r / 64 % 64)) = false
      rw [start_b8 (by omega)]; simp; omega
    have g3 : Lib.runeStartB ((a ++ encN r).getD ((a ++ encN r).length - 3) 0) = true := by
      rw [get _ 3 (by decide) (by rw [e]; simp), e]
      show Lib.runeStartB (b8 (224 + r / 4096)) = true
      rw [start_b8 (by omega)]; simp; omega
    refine key ?_ ?_
    · unfold Lib.lastStart
      simp only [g2, g3]
      rw [if_neg (by rw [e]; simp), if_neg (by simp), if_neg (by rw [e]; simp), if_pos trivial, e]; simp
    · rw [e]
      show ¬ (b8 (128 + r % 64)).toNat < 128
      rw [b8_nat (by omega)]; omega
  · have e : encN r = [b8 (240 + r / 262144), b8 (128 + r / 4096 % 64), b8 (128 + r / 64 % 64), b8 (128 + r % 64)] := by unfold encN; rw [if_neg c1, if_neg c2, if_neg c3]
    have g2 : Lib.runeStartB ((a ++ encN r).getD ((a ++ encN r).length - 2) 0) = false := by
      rw [get _ 2 (by decide) (by rw [e]; simp), e]
      show Lib.runeStartB (b8 (128 + r / 64 % 64)) = false
      rw [start_b8 (by omega)]; simp; omega
    have g3 : Lib.runeStartB ((a ++ encN r).getD ((a ++ encN r).length - 3) 0) = false := by
      rw [get _ 3 (by decide) (by rw [e]; simp), e]
      show Lib.runeStartB (b8 (128 + r / 4096 % 64)) = false
      rw [start_b8 (by omega)]; simp; omega
    have g4 : Lib.runeStartB ((a ++ encN r).getD ((a ++ encN r).length - 4) 0) = true := by
      rw [get _ 4 (by decide) (by rw [e]; simp), e]
      show Lib.runeStartB (b8 (240 + r / 262144)) = true
      rw [start_b8 (by omega)]; simp; omega
    refine key ?_ ?_
    · unfold Lib.lastStart
      simp only [g2, g3, g4]
      rw [if_neg (by rw [e]; simp), if_neg (by simp), if_neg (by rw [e]; simp), if_neg (by simp), if_neg (by rw [e]; simp), if_pos trivial, e]; simp
    · rw [e]
      show ¬ (b8 (128 + r % 64)).toNat < 128
      rw [b8_nat (by omega)]; omega
/-- the library's bytes of a character -/
theorem encodeRune_enc {r : Nat} (h : scal r) : Lib.encodeRune (r : Int) = encN r := by
  unfold scal at h
  unfold Lib.encodeRune encN
  by_cases c1 : r < 128
  · rw [if_pos c1, Lib.encodeRuneZ_one (by omega) (by omega)]; rfl
  by_cases c2 : r < 2048
  · rw [if_neg c1, if_pos c2, Lib.encodeRuneZ_two (by omega) (by omega)]
    simp only [List.map_cons, List.map_nil, List.cons.injEq, and_true]
    exact ⟨congrArg UInt8.ofNat (by omega), congrArg UInt8.ofNat (by omega)⟩
  by_cases c3 : r < 65536
  · rw [if_neg c1, if_neg c2, if_pos c3, Lib.encodeRuneZ_three (by omega)]
    simp only [List.map_cons, List.map_nil, List.cons.injEq, and_true]
    exact ⟨congrArg UInt8.ofNat (by omega), congrArg UInt8.ofNat (by omega), congrArg UInt8.ofNat (by omega)⟩
  · rw [if_neg c1, if_neg c2, if_neg c3, Lib.encodeRuneZ_four (by omega) (by omega)]
    simp only [List.map_cons, List.map_nil, List.cons.injEq, and_true]
    exact ⟨congrArg UInt8.ofNat (by omega), congrArg UInt8.ofNat (by omega), congrArg UInt8.ofNat (by omega), congrArg UInt8.ofNat (by omega)⟩
/-- the last character of a text that is not empty -/
theorem last_encs {rs : List Nat} (h : ∀ r ∈ rs, scal r) (hne : rs ≠ []) : Lib.decodeLastL (encs rs) = (rs.getLast hne, (encN (rs.getLast hne)).length) := by
  have e : rs = rs.dropLast ++ [rs.getLast hne] := (List.dropLast_concat_getLast hne).symm
  have := last_enc (encs rs.dropLast) (h _ (List.getLast_mem hne))
  conv => lhs; rw [e, encs_append]
  have e1 : encs [rs.getLast hne] = encN (rs.getLast hne) := by simp [encs]
  rw [e1]; exact this
end Go.Proofs
