/- marks: copies; Clear; own marks; Lost. No condition. -/
import Derived.Test.YtoojoogbkbfpcaaMkF
import Derived.Test.YtoojoogbkbfpcaaHmE
namespace Go.Proofs
open Go Go.Sh
set_option linter.unusedVariables false
set_option maxRecDepth 100000

theorem apdMark : Apd Try.prog elMark 22 25 48 := apd_of (sz := 3) (by kernel_rfl) rfl
theorem apdAttr : Apd Try.prog elAttr 23 38 32 := apd_of (sz := 2) (by kernel_rfl) rfl

section
variable {A B : Nat → Prop} {h : H} {b b2 : Option Addr} {n c n2 c2 : Nat} {l : List MarkP}

/-- an empty row that is written out -/
theorem rowEmpty {α : Type} {E : El α} {A : Nat → Prop} {h : H} (b : Option Addr) : Row E A h b 0 0 [] := ⟨rfl, Nat.le_refl _, Nat.zero_le _, fun i x hx => by simp at hx⟩
/-- nothing, as a row of one's own -/
theorem ownEmpty {α : Type} {E : El α} {h h' : H} {e t : Nat} {a : Addr} {cs : List Value} (v : Var h' a t cs) (ha : a.block = h.size) : OwnF E h' h.size e (some a) 0 0 [] :=
  ⟨OwnT.nil _ _ _ _ _, fun x e => by cases e; omega, fun x e => by cases e; exact v.lt, fun e => by cases e⟩

theorem cloneMark_calls (r : Row elMark A h b n c l) (hz : b = none → c = 0) (hb : n * 48 ≤ 140737488355328) {K : Value → H → Prop}
    (hk : ∀ b' c' h', OwnF elMark h' h.size 25 b' n c' l → KB h h' → K (.slice b' n c') h') : HCalls Try.prog 24 ⟨[.slice b n c]⟩ h K := by
  refine Sx.slices_Clone_apiMark.ok _ _ _ _ _ (SemR.h (semR_slnil (by kernel_rfl) ?_))
  refine condB (fun e => ?_) fun e => ?_
  · have hbn : b = none := Option.isNone_iff_eq_none.1 e
    have hn : n = 0 := by have := r.cap; have := hz hbn; omega
    have hl : l = [] := List.eq_nil_of_length_eq_zero (by rw [r.len, hn])
    subst hn; subst hl
    exact hk none 0 h (OwnF.none _ _ _) (KB.refl h)
  · refine newx_var fun a1 h1 v1 k1 e1 _ => ?_
    refine Row.appendF (A := A) apdMark (rowEmpty (some a1)) (by omega) (r.kb k1) (fun e => by cases e) (by rw [Nat.zero_add]; exact Nat.le_trans r.cap r.max) (by rw [Nat.zero_add]; exact hb) (fun hn => ?_) fun c' h' hn o k2 => ?_
    · subst hn
      have hl : l = [] := List.eq_nil_of_length_eq_zero (by rw [r.len])
      subst hl
      exact hk _ 0 h1 (ownEmpty v1 e1) k1
    · rw [Nat.zero_add] at o ⊢
      exact hk _ c' h' (o.lower k1.1) (k1.trans k2)

theorem flatAttr : Flat elAttr := fun _ _ _ _ _ _ h => h
theorem lentAttrs_calls {l : List AttrP} (r : Row elAttr A h b n c l) (hb : n * 32 ≤ 140737488355328) {K : Value → H → Prop}
    (hk : ∀ b' c' h', OwnF elAttr h' h.size 38 b' n c' l → KB h h' → K (.slice b' n c') h') : HCalls Try.prog 21 ⟨[.slice b n c]⟩ h K := by
  refine Sx.r00_LentAttrs.ok _ _ _ _ _ ?_
  refine Row.appendF (A := A) apdAttr (Row.nil A h) (by omega) r (fun e => rfl) (by rw [Nat.zero_add]; exact Nat.le_trans r.cap r.max) (by rw [Nat.zero_add]; exact hb) (fun hn => ?_) fun c' h' hn o k2 => ?_
  · subst hn
    have hl : l = [] := List.eq_nil_of_length_eq_zero (by rw [r.len])
    subst hl
    exact hk _ 0 h (OwnF.none _ _ _) (KB.refl h)
  · rw [Nat.zero_add] at o ⊢
    exact hk _ c' h' o k2

/-! ### Clear -/
def clearP (l : List MarkP) : List MarkP := if behind l = 0 then [] else l.take (behind l - 1)
theorem clear_calls (hA : ∀ k, A k → k < h.size) (r : Row elMark A h b n c l) (hz : b = none → c = 0) (hb : n * 48 ≤ 140737488355328) {K : Value → H → Prop}
    (hk : ∀ b' n' c' h', OwnF elMark h' h.size 25 b' n' c' (clearP l) → KB h h' → K (.slice b' n' c') h') : HCalls Try.prog 13 ⟨[.slice b n c]⟩ h K := by
  refine Sx.marks_Clear.ok _ _ _ _ _ (fresh_calls hA r fun h1 k1 => ?_)
  have hm : n ≤ maxLen := Nat.le_trans r.cap r.max
  have hcm := r.cap
  simp only [maxLen] at hm
  have hl := r.len
  have hle := behind_le l
  refine spl (fun hp => ⟨rng64 (by omega) (by omega), ⟨by omega, by omega, by omega⟩, ?_⟩) fun hp => ?_
  · have hne : behind l ≠ 0 := by omega
    have e1 : ((behind l : Int) - 1).toNat = behind l - 1 := by omega
    have r2 := (r.kb k1).sub (lo := 0) (hi := behind l - 1) (Nat.zero_le _) (by omega) (z := 3) rfl
    have r3 : Row elMark A h1 (if c = Int.toNat (0 : Int) then b else Option.map (fun q => q.add (Int.toNat (0 : Int) * 3)) b) (((behind l : Int) - 1).toNat - Int.toNat (0 : Int)) (c - Int.toNat (0 : Int)) (clearP l) := by
      rw [e1]
      unfold clearP
      rw [if_neg hne]
      simpa using r2
    refine cloneMark_calls r3 (fun e => ?_) ?_ fun b' c' h' o k2 => ?_
    · have : b = none := by
        by_cases hc : c = Int.toNat (0 : Int)
        · rw [if_pos hc] at e; exact e
        · rw [if_neg hc] at e
          cases b with
          | none => rfl
          | some a => cases e
      have := hz this
      omega
    · rw [e1]
      have : (behind l - 1 - Int.toNat (0 : Int)) * 48 ≤ n * 48 := Nat.mul_le_mul_right _ (by omega)
      omega
    · exact hk b' _ c' h' (o.lower k1.1) (k1.trans k2)
  · have e : clearP l = [] := by unfold clearP; rw [if_pos (by omega)]
    exact hk none 0 0 h1 (by rw [e]; exact OwnF.none _ _ _) k1
theorem refClear_calls (r : Row elMark A h b n c l) (hz : b = none → c = 0) (hb : n * 48 ≤ 140737488355328) {K : Value → H → Prop}
    (hk : ∀ b' n' c' h', OwnF elMark h' h.size 25 b' n' c' (clearP l) → KB h h' → K (.slice b' n' c') h') : HCalls Try.prog 14 ⟨[.slice b n c]⟩ h K := by
  refine Sx.r12_Clear.ok _ _ _ _ _ (behind_calls r ?_)
  have hm : n ≤ maxLen := Nat.le_trans r.cap r.max
  have hcm := r.cap
  simp only [maxLen] at hm
  have hl := r.len
  have hle := behind_le l
  refine spl (fun hp => ?_) fun hp => ⟨rng64 (by omega) (by omega), ⟨by omega, by omega, by omega⟩, ?_⟩
  · have e : clearP l = [] := by unfold clearP; rw [if_pos (by omega)]
    exact hk none 0 0 h (by rw [e]; exact OwnF.none _ _ _) (KB.refl h)
  · have hne : behind l ≠ 0 := by omega
    have e1 : ((behind l : Int) - 1).toNat = behind l - 1 := by omega
    have r2 := r.sub (lo := 0) (hi := behind l - 1) (Nat.zero_le _) (by omega) (z := 3) rfl
    have r3 : Row elMark A h (if c = Int.toNat (0 : Int) then b else Option.map (fun q => q.add (Int.toNat (0 : Int) * 3)) b) (((behind l : Int) - 1).toNat - Int.toNat (0 : Int)) (c - Int.toNat (0 : Int)) (clearP l) := by
      rw [e1]
      unfold clearP
      rw [if_neg hne]
      simpa using r2
    refine Row.appendF (A := A) apdMark (Row.nil A h) (by omega) r3 (fun e => rfl) (by rw [Nat.zero_add]; exact Nat.le_trans r3.cap r3.max) ?_ (fun hn => ?_) fun c' h' hn o k2 => ?_
    · rw [Nat.zero_add, e1]
      have : (behind l - 1 - Int.toNat (0 : Int)) * 48 ≤ n * 48 := Nat.mul_le_mul_right _ (by omega)
      omega
    · have e : clearP l = [] := List.eq_nil_of_length_eq_zero (by rw [r3.len, hn])
      exact hk _ 0 0 h (by rw [e]; exact OwnF.none _ _ _) (KB.refl h)
    · rw [Nat.zero_add] at o ⊢
      exact hk _ _ c' h' o k2
end
end Go.Proofs
