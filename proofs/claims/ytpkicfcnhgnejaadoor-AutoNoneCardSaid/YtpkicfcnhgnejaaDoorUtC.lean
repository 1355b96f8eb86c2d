/- Texts: what bytes are as a text; what is a text. No program. No condition. -/
import Derived.Test.YtpkicfcnhgnejaaDoorUtB
namespace Go.Proofs
open Go
set_option linter.unusedVariables false
set_option maxRecDepth 100000

/-- one thing at the front, as a text has it -/
def pieceP (b : Bs) : Bs := if (frontP b).2 = true ∧ byteAt b 0 ≠ 0 then b.take (frontP b).1 else [239, 191, 189]
def plainGo : Nat → Bs → Bs
  | 0, _ => []
  | _, [] => []
  | k + 1, x :: t => pieceP (x :: t) ++ plainGo k ((x :: t).drop (frontP (x :: t)).1)
/-- bytes as a text, from the first one on -/
def plainP (b : Bs) : Bs := plainGo b.length b
theorem plainGo_nil (k : Nat) : plainGo k [] = [] := by cases k <;> rfl
theorem plainGo_more : ∀ (k : Nat) (b : Bs), b.length ≤ k → plainGo k b = plainGo b.length b
  | 0, [], _ => rfl
  | k + 1, [], _ => rfl
  | 0, x :: t, h => by simp at h
  | k + 1, x :: t, h => by
    have hb := front_bd (b := x :: t) (by simp)
    have hl : ((x :: t).drop (frontP (x :: t)).1).length ≤ t.length := by simp at hb ⊢; omega
    show pieceP (x :: t) ++ plainGo k ((x :: t).drop (frontP (x :: t)).1) = pieceP (x :: t) ++ plainGo t.length ((x :: t).drop (frontP (x :: t)).1)
    rw [plainGo_more k _ (by simp at h; omega), plainGo_more t.length _ hl]
theorem plainP_nil : plainP [] = [] := rfl
theorem plainP_cons (x : UInt8) (t : Bs) : plainP (x :: t) = pieceP (x :: t) ++ plainP ((x :: t).drop (frontP (x :: t)).1) := by
  have hb := front_bd (b := x :: t) (by simp)
  show pieceP (x :: t) ++ plainGo t.length ((x :: t).drop (frontP (x :: t)).1) = _
  rw [plainGo_more t.length _ (by simp at hb ⊢; omega)]; rfl
theorem plainP_ne {b : Bs} (h : b ≠ []) : plainP b = pieceP b ++ plainP (b.drop (frontP b).1) := by
  cases b with
  | nil => exact absurd rfl h
  | cons x t => exact plainP_cons x t
def bomP (b : Bs) : Bool := decide (3 ≤ b.length) && (decide (byteAt b 0 = 239) && (decide (byteAt b 1 = 187) && decide (byteAt b 2 = 191)))
/-- bytes as a text -/
def textP (b : Bs) : Bs := plainP (if bomP b = true then b.drop 3 else b)

/-! ### texts -/
def encs (rs : List Nat) : Bs := rs.flatMap encN
/-- characters of texts -/
def okR (r : Nat) : Prop := scal r ∧ r ≠ 0
def IsText (s : Bs) : Prop := ∃ rs : List Nat, (∀ r ∈ rs, okR r) ∧ s = encs rs
theorem encs_cons (r : Nat) (rs : List Nat) : encs (r :: rs) = encN r ++ encs rs := by simp [encs]
theorem encs_append (a b : List Nat) : encs (a ++ b) = encs a ++ encs b := by simp [encs]
theorem encN_err : encN 65533 = [239, 191, 189] := by decide
theorem encN_zero : encN 0 = [0] := by decide
theorem isText_nil : IsText [] := ⟨[], fun _ h => by simp at h, rfl⟩
theorem isText_append {a b : Bs} (ha : IsText a) (hb : IsText b) : IsText (a ++ b) := by
  obtain ⟨x, hx, rfl⟩ := ha
  obtain ⟨y, hy, rfl⟩ := hb
  exact ⟨x ++ y, fun r hr => by rcases List.mem_append.1 hr with h | h; exact hx r h; exact hy r h, (encs_append x y).symm⟩
theorem isText_one {r : Nat} (h : okR r) : IsText (encN r) := ⟨[r], fun x hx => by rw [List.mem_singleton.1 hx]; exact h, by simp [encs]⟩
theorem piece_text {b : Bs} (h : b ≠ []) : ∃ r, okR r ∧ pieceP b = encN r := by
  cases b with
  | nil => exact absurd rfl h
  | cons x t =>
    unfold pieceP
    split
    · rename_i hc
      obtain ⟨w1, w2, w3, w4, w5⟩ := front_whole hc.1
      refine ⟨(dec (x :: t)).1, ⟨w1, fun e => hc.2 ?_⟩, w2⟩
      rw [e, encN_zero] at w2
      have h1 := (front_bd (b := x :: t) (by simp)).1
      obtain ⟨n, hn⟩ : ∃ n, (frontP (x :: t)).1 = n + 1 := ⟨_, (Nat.sub_add_cancel h1).symm⟩
      rw [hn, List.take_succ_cons] at w2
      show x.toNat = 0
      have := (List.cons.inj w2).1
      rw [this]; rfl
    · exact ⟨65533, ⟨by unfold scal; omega, by decide⟩, encN_err.symm⟩
theorem plain_text : ∀ (n : Nat) (b : Bs), b.length ≤ n → IsText (plainP b)
  | _, [], _ => isText_nil
  | 0, x :: t, h => by simp at h
  | n + 1, x :: t, h => by
    rw [plainP_cons]
    obtain ⟨r, hr, e⟩ := piece_text (b := x :: t) (by simp)
    have hb := front_bd (b := x :: t) (by simp)
    rw [e]
    exact isText_append (isText_one hr) (plain_text n _ (by simp at h hb ⊢; omega))
theorem plainP_text (b : Bs) : IsText (plainP b) := plain_text _ b (Nat.le_refl _)
theorem textP_text (b : Bs) : IsText (textP b) := plainP_text _

/-- a character at the front is whole -/
theorem front_enc {r : Nat} (h : okR r) (t : Bs) : frontP (encN r ++ t) = ((encN r).length, true) ∧ byteAt (encN r ++ t) 0 ≠ 0 := by
  have hd := dec_enc h.1 t
  have hl := enc_len r
  cases he : encN r with
  | nil => exact absurd he (enc_ne r)
  | cons x u =>
    rw [he] at hd hl
    rw [List.cons_append] at hd ⊢
    refine ⟨?_, fun e => ?_⟩
    · rcases front_dec x (u ++ t) with ⟨f1, f2, f3⟩ | ⟨f1, f2⟩
      · rw [hd] at f2
        exact Prod.ext f2.symm f1
      · rw [hd] at f2
        have e1 := (Prod.mk.inj f2).1
        have e2 := (Prod.mk.inj f2).2
        subst e1
        rw [encN_err] at he
        rw [← he] at e2
        simp at e2
    · have e0 : x.toNat = 0 := e
      have : x = 0 := UInt8.toNat_inj.1 e0
      subst this
      have h2 := h.2
      have hs := h.1
      unfold scal at hs
      unfold encN at he
      split at he
      · have := (List.cons.inj he).1
        have h3 := congrArg UInt8.toNat this
        rw [b8_nat (by omega)] at h3
        exact h2 (by simpa using h3)
      · split at he
        · have := congrArg UInt8.toNat (List.cons.inj he).1
          rw [b8_nat (by omega)] at this
          simp at this
        · split at he
          · have := congrArg UInt8.toNat (List.cons.inj he).1
            rw [b8_nat (by omega)] at this
            simp at this
          · have := congrArg UInt8.toNat (List.cons.inj he).1
            rw [b8_nat (by omega)] at this
            simp at this
theorem plain_enc {r : Nat} (h : okR r) (t : Bs) : plainP (encN r ++ t) = encN r ++ plainP t := by
  obtain ⟨f1, f2⟩ := front_enc h t
  rw [plainP_ne (by simp [enc_ne]), f1]
  unfold pieceP
  rw [f1, if_pos ⟨rfl, f2⟩]
  simp
/-- a text ahead of anything -/
theorem plain_encs : ∀ (rs : List Nat), (∀ r ∈ rs, okR r) → ∀ t, plainP (encs rs ++ t) = encs rs ++ plainP t
  | [], _, t => rfl
  | r :: rs, h, t => by
    rw [encs_cons, List.append_assoc, plain_enc (h r (by simp)), plain_encs rs (fun x hx => h x (by simp [hx])) t, List.append_assoc]
theorem plain_of_text {s : Bs} (h : IsText s) : plainP s = s := by
  obtain ⟨rs, hr, rfl⟩ := h
  have := plain_encs rs hr []
  simpa [plainP_nil] using this
theorem plain_text_append {s : Bs} (h : IsText s) (t : Bs) : plainP (s ++ t) = s ++ plainP t := by
  obtain ⟨rs, hr, rfl⟩ := h
  exact plain_encs rs hr t
/-- s is a text just if it is read as itself -/
theorem isText_iff (s : Bs) : IsText s ↔ plainP s = s := ⟨plain_of_text, fun h => h ▸ plainP_text s⟩
theorem text_len : ∀ (n : Nat) (b : Bs), b.length ≤ n → (plainP b).length ≤ 3 * b.length
  | _, [], _ => by simp [plainP_nil]
  | 0, x :: t, h => by simp at h
  | n + 1, x :: t, h => by
    rw [plainP_cons]
    have hb := front_bd (b := x :: t) (by simp)
    have ih := text_len n ((x :: t).drop (frontP (x :: t)).1) (by simp at h hb ⊢; omega)
    have hp : (pieceP (x :: t)).length ≤ 3 * (frontP (x :: t)).1 := by
      unfold pieceP
      split
      · simp only [List.length_take]; omega
      · simp only [List.length_cons, List.length_nil]; omega
    simp only [List.length_append, List.length_drop] at ih ⊢
    omega
theorem textP_len (b : Bs) : (textP b).length ≤ 3 * b.length := by
  unfold textP
  have := text_len _ (if bomP b = true then b.drop 3 else b) (Nat.le_refl _)
  have h2 : (if bomP b = true then b.drop 3 else b).length ≤ b.length := by split <;> simp
  omega
end Go.Proofs
