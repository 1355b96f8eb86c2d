/- Characters and texts: what the model reads at a place, what it writes; plain functions of the chapter's; what is a text. No program. No condition. -/
import Derived.Lib.DecodeN
namespace Go.Proofs
open Go
set_option linter.unusedVariables false
set_option maxRecDepth 100000

abbrev Bs := List UInt8
/-- a byte of a number -/
def b8 (n : Nat) : UInt8 := UInt8.ofNat n
theorem b8_nat {n : Nat} (h : n < 256) : (b8 n).toNat = n := by
  unfold b8; simp; omega
theorem b8_eq {x : UInt8} {n : Nat} (h : x.toNat = n) : x = b8 n := by
  apply UInt8.toNat_inj.1
  rw [b8_nat (by have := x.toNat_lt; omega), h]
theorem u8_lt (x : UInt8) : x.toNat < 256 := x.toNat_lt
/-- may it be a character? -/
def scal (c : Nat) : Prop := c < 55296 ∨ (57344 ≤ c ∧ c ≤ 1114111)
instance (c : Nat) : Decidable (scal c) := by unfold scal; infer_instance
/-- a character's bytes -/
def encN (c : Nat) : Bs :=
  if c < 128 then [b8 c]
  else if c < 2048 then [b8 (192 + c / 64), b8 (128 + c % 64)]
  else if c < 65536 then [b8 (224 + c / 4096), b8 (128 + c / 64 % 64), b8 (128 + c % 64)]
  else [b8 (240 + c / 262144), b8 (128 + c / 4096 % 64), b8 (128 + c / 64 % 64), b8 (128 + c % 64)]
theorem enc_len (c : Nat) : 1 ≤ (encN c).length ∧ (encN c).length ≤ 4 := by
  unfold encN; repeat' split
  all_goals simp
theorem enc_ne (c : Nat) : encN c ≠ [] := fun e => by have := enc_len c; rw [e] at this; simp at this
/-- what a character is that is written -/
def runeOf (r : Int) : Nat := if Utf8.valid r then r.toNat else 65533
theorem runeOf_scal (r : Int) : scal (runeOf r) := by
  unfold runeOf scal
  split
  · rename_i h
    simp [Utf8.valid] at h
    omega
  · omega
theorem runeOf_nat {c : Nat} (h : scal c) : runeOf (c : Int) = c := by
  unfold runeOf
  rw [if_pos]
  · simp
  · unfold scal at h; simp [Utf8.valid]; omega
theorem encode_enc (r : Int) : (Utf8.encode r).data.toList = encN (runeOf r) := by
  unfold Utf8.encode encN runeOf b8 Utf8.runeError
  simp only
  repeat' split
  all_goals rfl

/-- what is read at the front -/
def dec (l : Bs) : Nat × Nat := Lib.decodeN l.length (l.getD 0 0).toNat (l.getD 1 0).toNat (l.getD 2 0).toNat (l.getD 3 0).toNat
theorem get_drop (s : ByteArray) (i k : Nat) : s.get! (i + k) = (s.data.toList.drop i).getD k 0 := by
  rw [List.getD_eq_getElem?_getD, List.getElem?_drop]
  cases s with
  | mk d =>
    show d[i + k]! = _
    by_cases h : i + k < d.size
    · rw [getElem!_pos d _ h]; simp [h]
    · rw [getElem!_neg d _ h]; simp [h]; rfl
theorem decode_dec (s : ByteArray) (i : Nat) : Utf8.decode s i = dec (s.data.toList.drop i) := by
  rw [Lib.decode_at]
  unfold dec
  have h0 := get_drop s i 0
  rw [Nat.add_zero] at h0
  rw [h0, get_drop s i 1, get_drop s i 2, get_drop s i 3, List.length_drop]
  rfl

/-- a character that is well written is read -/
theorem dec_enc {c : Nat} (h : scal c) (t : Bs) : dec (encN c ++ t) = (c, (encN c).length) := by
  unfold scal at h
  unfold encN
  repeat' split
  all_goals (unfold dec Lib.decodeN; simp only [List.cons_append, List.nil_append, List.getD_cons_zero, List.getD_cons_succ, List.length_cons, List.length_nil])
  · rw [b8_nat (by omega), if_pos (by omega)]
  · rw [b8_nat (show 192 + c / 64 < 256 by omega), b8_nat (show 128 + c % 64 < 256 by omega)]
    rw [if_neg (by omega), if_pos (by omega), if_pos (by omega)]
    apply Prod.ext <;> simp only <;> omega
  · rw [b8_nat (show 224 + c / 4096 < 256 by omega), b8_nat (show 128 + c / 64 % 64 < 256 by omega), b8_nat (show 128 + c % 64 < 256 by omega)]
    rw [if_neg (by omega), if_neg (by omega), if_pos (by omega), if_pos (by omega)]
    apply Prod.ext <;> simp only <;> omega
  · rw [b8_nat (show 240 + c / 262144 < 256 by omega), b8_nat (show 128 + c / 4096 % 64 < 256 by omega), b8_nat (show 128 + c / 64 % 64 < 256 by omega), b8_nat (show 128 + c % 64 < 256 by omega)]
    rw [if_neg (by omega), if_neg (by omega), if_neg (by omega), if_pos (by omega), if_pos (by omega)]
    apply Prod.ext <;> simp only <;> omega
theorem shape3 : ∀ {t : Bs}, 3 ≤ t.length → ∃ y z u r, t = y :: z :: u :: r
  | y :: z :: u :: r, _ => ⟨y, z, u, r, rfl⟩
  | [_, _], h => by simp at h
  | [_], h => by simp at h
  | [], h => by simp at h
/-- what is read is a character that is well written, or none -/
theorem dec_spec (x : UInt8) (t : Bs) : dec (x :: t) = (65533, 1) ∨ (scal (dec (x :: t)).1 ∧ (dec (x :: t)).2 = (encN (dec (x :: t)).1).length ∧ (dec (x :: t)).2 ≤ (x :: t).length ∧ (x :: t).take (dec (x :: t)).2 = encN (dec (x :: t)).1) := by
  have hx := u8_lt x
  generalize hd : dec (x :: t) = d
  unfold dec Lib.decodeN at hd
  simp only [List.getD_cons_zero, List.getD_cons_succ, List.length_cons] at hd
  have h1 := u8_lt (t.getD 0 0)
  have h2 := u8_lt (t.getD 1 0)
  have h3 := u8_lt (t.getD 2 0)
  split at hd
  · subst hd
    refine .inr ⟨.inl (by simp only; omega), ?_, by simp, ?_⟩
    · unfold encN; rw [if_pos (by simp only; omega)]; rfl
    · unfold encN; rw [if_pos (by simp only; omega)]; simp; exact b8_eq rfl
  · split at hd
    · split at hd
      · subst hd
        rename_i a b c
        refine .inr ⟨.inl (by simp only; omega), ?_, by simp only [List.length_cons]; omega, ?_⟩
        · unfold encN; rw [if_neg (by simp only; omega), if_pos (by simp only; omega)]; rfl
        · unfold encN; rw [if_neg (by simp only; omega), if_pos (by simp only; omega)]
          match t, b with
          | y :: t, b =>
            simp only [List.getD_cons_zero] at *
            simp only [List.take_succ_cons, List.take_zero, List.cons.injEq, and_true]
            exact ⟨b8_eq (by omega), b8_eq (by omega)⟩
          | [], b => simp at b
      · exact .inl hd.symm
    · split at hd
      · split at hd
        · subst hd
          rename_i a b c d
          refine .inr ⟨by unfold scal; simp only; omega, ?_, by simp only [List.length_cons]; omega, ?_⟩
          · unfold encN; rw [if_neg (by simp only; omega), if_neg (by simp only; omega), if_pos (by simp only; omega)]; rfl
          · unfold encN; rw [if_neg (by simp only; omega), if_neg (by simp only; omega), if_pos (by simp only; omega)]
            match t, c with
            | y :: z :: t, c =>
              simp only [List.getD_cons_zero, List.getD_cons_succ] at *
              simp only [List.take_succ_cons, List.take_zero, List.cons.injEq, and_true]
              exact ⟨b8_eq (by omega), b8_eq (by omega), b8_eq (by omega)⟩
            | [y], c => simp at c
            | [], c => simp at c
        · exact .inl hd.symm
      · split at hd
        · split at hd
          · subst hd
            rename_i a b c d e
            refine .inr ⟨by unfold scal; simp only; omega, ?_, by simp only [List.length_cons]; omega, ?_⟩
            · unfold encN; rw [if_neg (by simp only; omega), if_neg (by simp only; omega), if_neg (by simp only; omega)]; rfl
            · unfold encN; rw [if_neg (by simp only; omega), if_neg (by simp only; omega), if_neg (by simp only; omega)]
              obtain ⟨y, z, u, r, rfl⟩ := shape3 (t := t) (by omega)
              simp only [List.getD_cons_zero, List.getD_cons_succ] at *
              simp only [List.take_succ_cons, List.take_zero, List.cons.injEq, and_true]
              exact ⟨b8_eq (by omega), b8_eq (by omega), b8_eq (by omega), b8_eq (by omega)⟩
          · exact .inl hd.symm
        · exact .inl hd.symm
end Go.Proofs
