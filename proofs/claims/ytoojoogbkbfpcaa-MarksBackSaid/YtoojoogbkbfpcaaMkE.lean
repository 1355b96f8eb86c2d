/- marks: the place behind the last marker; Clear's, Last's, Find's, Lost's answers. No condition. -/
import Derived.Test.YtoojoogbkbfpcaaMkD
namespace Go.Proofs
open Go Go.Sh
set_option linter.unusedVariables false
set_option maxRecDepth 100000

theorem rdMark {i j : Int} {s : Bs} {b : Option Addr} {n c : Nat} {K : Int → Int → Bs → Option Addr → Nat → Nat → Prop} (h : K i j s b n c) :
    uncons [.int .i64 i, .agg ⟨[.int .i64 j, S s, .slice b n c]⟩] fun e l => vInt .i64 e fun i => uncons l fun e l2 => vAgg e fun l3 => uncons l3 fun e l4 => vInt .i64 e fun j => uncons l4 fun e l5 => vStr e fun s => uncons l5 fun e l6 => vSlice e fun b n c => unnil l6 (unnil l2 (K i j s b n c)) := h

theorem behindTo_le (l : List MarkP) : ∀ i, behindTo l i ≤ i
  | 0 => Nat.le_refl _
  | i + 1 => by
    unfold behindTo
    split
    · exact Nat.le_refl _
    · exact Nat.le_succ_of_le (behindTo_le l i)
theorem behind_le (l : List MarkP) : behind l ≤ l.length := behindTo_le l _

section
variable {A : Nat → Prop} {h : H} {b : Option Addr} {n c : Nat} {l : List MarkP}

/-- slices.Backward -/
theorem backward_calls (r : Row elMark A h b n c l) {K : Value → H → Prop} (hk : ∀ a h', Var h' a 22 [.slice b n c] → KB h h' → a.block = h.size → K (.func (.func 37) ⟨[]⟩ ⟨[.pointer (some a)]⟩) h') :
    HCalls Try.prog 29 ⟨[.slice b n c]⟩ h K :=
  Sx.slices_Backward_apiMark.ok _ _ _ _ _ (newx_var fun a1 h1 v1 k1 e1 _ => hk a1 h1 v1 k1 e1)

theorem fresh_calls (hA : ∀ k, A k → k < h.size) (r : Row elMark A h b n c l) {K : Value → H → Prop} (hk : ∀ h', KB h h' → K (.int .i64 (behind l)) h') : HCalls Try.prog 22 ⟨[.slice b n c]⟩ h K := by
  refine Sx.marks_fresh.ok _ _ _ _ _ (newx_var fun x2 h1 v1 k1 e1 _ => backward_calls (r.kb k1) fun a h2 v2 k2 e2 => ?_)
  have hm : n ≤ maxLen := Nat.le_trans r.cap r.max
  simp only [maxLen] at hm
  have hl := r.len
  obtain ⟨xs, hB, hE⟩ := backward_emits ((r.kb k1).kb k2) v2
  have hne : ¬ (A x2.block ∨ x2.block = a.block) := fun e => by
    have := v1.lt
    rcases e with e | e
    · have := hA _ e; omega
    · omega
  have v12 := v1.kb k2
  have k02 : KB h h2 := k1.trans k2
  have k02s := k02.1
  refine ⟨xs, Non, _, hE, hB.len, rounds_of (fun xs h' => KB h2 h' ∧ ∃ i, Backs A h' l i xs ∧ behindTo l i = behind l) (fun xs h' h'' ⟨k, i, hb, e⟩ n => ⟨k.nz n (Nat.le_succ _), i, hb.kw n.kw, e⟩) ?_ ?_ xs h2 ⟨KB.refl _, l.length, hB, rfl⟩⟩
  · rintro x xs h3 Kc ⟨k3, i, hb, e⟩ hKc
    cases i with
    | zero => simp [Backs] at hb
    | succ i =>
      obtain ⟨hi, b', n', c', rest, hm', e', hr⟩ := hb
      cases e'
      refine rdMark (newx_var fun a4 h4 v4 k4 e4 _ => stL_var0 v4 (Nat.le_refl _) fun h5 v5 k5 s5 => ?_)
      have k35 : KB h3 h5 := KB.step k4 k5 (by omega)
      refine ⟨(k4.kp).trans (KX.kp v4 k5 fun e => ?_), fun h6 n6 => ?_⟩
      · have := k3.1; have h22 := k02.1
        rcases e with e | e
        · have := hA _ e; omega
        · have := v2.lt; omega
      have v6 := v5.kw n6.kw
      refine ⟨_, v6.cell 0 rfl, spl (fun hneg => ⟨rng64 (by omega) (by omega), ?_⟩) fun hneg => ?_⟩
      · have k26 : KB h2 h6 := (k3.trans k35).nz n6 (Nat.le_succ _)
        have vx := v12.kb k26
        refine stL_var0 vx (Nat.le_refl _) fun h7 v7 k7 s7 => ⟨KX.kp vx k7 hne, fun h8 n8 hd => ?_⟩
        refine leave_int hd ((KB.step (k02.trans k26) k7 (by omega)).nz n8 (by omega)) k02s (v7.kw n8.kw) fun h' k' => ?_
        have : (behind l : Int) = (i : Int) + 1 := by
          rw [← e]; unfold behindTo; rw [getD_get hi, if_pos hneg]; rfl
        rw [← this]; exact hk h' k'
      · refine hKc _ _ (KpP.refl _ _) ⟨(k3.trans k35).nz n6 (Nat.le_succ _), i, (hr.kw (KB.w k35)).kw n6.kw, ?_⟩
        rw [← e]
        conv => rhs; unfold behindTo
        rw [getD_get hi, if_neg hneg]
  · rintro h3 ⟨k3, i, hb, e⟩ hd
    cases i with
    | succ i => obtain ⟨_, _, _, _, _, _, e', _⟩ := hb; cases e'
    | zero =>
      have vx := v12.kb k3
      refine stL_var0 vx (Nat.le_refl _) fun h7 v7 k7 s7 => ?_
      refine leave_int (vx.dOpen k7 hd) (KB.step (k02.trans k3) k7 (by omega)) k02s v7 fun h' k' => ?_
      have : (behind l : Int) = 0 := by rw [← e]; rfl
      rw [this] at hk; exact hk h' k'
end
end Go.Proofs
