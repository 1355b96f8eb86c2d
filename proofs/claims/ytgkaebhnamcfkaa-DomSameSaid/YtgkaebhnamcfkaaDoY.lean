/- dom: the law DomSame. No condition. -/
import Derived.Test.YtgkaebhnamcfkaaDoX
import Derived.Test.YtgkaebhnamcfkaaDoR
import Derived.Test.YtgkaebhnamcfkaaTxE
namespace Go.Proofs
open Go Go.Sh
set_option linter.unusedVariables false
set_option maxRecDepth 100000
theorem lawSame_calls {N0 N1 : Nat} {A B : Nat → Prop} {h : H} {b b2 : Option Addr} {n c n2 c2 : Nat} {K : Value → H → Prop} {l l2 : List NodeV} (R0 : Row (elNode N0) A h b n c l) (R1 : Row (elNode N1) B h b2 n2 c2 l2)
    (hk : ∀ h', KB h h' → K (.bool true) h') : HCalls Try.prog 5 ⟨[.slice b n c, .slice b2 n2 c2]⟩ h K := by
  refine Sx.l10_DomSame.ok _ _ _ _ _ _ _ _ (nodes_calls (by decide) (by decide) N0 R0 (by decide) (by decide) fun v0 g1 g2 g3 => vIntMk (spl (fun _ => hk h (KB.refl h)) fun e0 => ?_))
  refine nodes_calls (by decide) (by decide) N1 R1 (by decide) (by decide) fun v1 g4 g5 g6 => vIntMk (spl (fun _ => hk h (KB.refl h)) fun e1 => ?_)
  have t0 : totN N0 l ≤ 600 := by have := g3 (by omega); omega
  have t1 : totN N1 l2 ≤ 600 := by have := g6 (by omega); omega
  have f0 := fits_tot (row_fits R0) t0
  have f1 := fits_tot (row_fits R1) t1
  have q0 : totN 600 l ≤ 600 := by rw [totN_fit f0 (row_fits R0)]; exact t0
  have q1 : totN 600 l2 ≤ 600 := by rw [totN_fit f1 (row_fits R1)]; exact t1
  have R0 := row_low R0 f0
  have R1 := row_low R1 f1
  clear g1 g2 g3 g4 g5 g6 t0 t1
  refine lentN_calls 600 R0 (few_tot (by omega)) fun b3 c3 h3 o3 k3 => vSliceMk (lentN_calls 600 (R1.kb k3) (few_tot (by omega)) fun b4 c4 h4 o4 k4 => vSliceMk ?_)
  have X := o3.row.kb k4
  have Y := o4.row
  have k := k3.trans k4
  have hL := lines_len (d := 600) (n := 0) (l := l) (by omega)
  have fin : ∀ h5, KB h4 h5 → Sx.l10_DomSame.n6 b n c b2 n2 c2 b3 n c3 b4 n2 c4 true (fun y4 h => K (.bool y4) h) (fun y4 h => K (.bool y4) h) h5 := fun h5 k5 => by
    refine known_calls fun h6 k6 => vBool_mk (condT (condT ?_))
    have k46 := k5.trans k6
    refine print_calls (X.kb k46) (by omega) (by omega) fun h7 k7 => vStrMk ?_
    have k47 := k46.trans k7
    refine printR_calls (by omega) (R0.kb (k.trans k47)) (by omega) fun h8 k8 => vStrMk (splT rfl ?_)
    have k48 := k47.trans k8
    refine sameNodes_calls 600 (X.kb k48) (R0.kb (k.trans k48)) fun h9 k9 => vBool_mk ?_
    rw [sameN_true rfl]
    have k49 := k48.trans k9
    refine condT (sameNodes_calls 600 (Y.kb k49) (R1.kb (k.trans k49)) fun h10 k10 => vBool_mk ?_)
    rw [sameN_true rfl]
    exact condT (hk h10 ((k.trans k49).trans k10))
  have self : ∀ h5 Kx Ky, KB h4 h5 → HCalls Try.prog 30 ⟨[.slice b3 n c3, .slice b3 n c3]⟩ h5 fun v h => vBool v fun b10 => cond b10 (Sx.l10_DomSame.n6 b n c b2 n2 c2 b3 n c3 b4 n2 c4 true (fun y4 h => K (.bool y4) h) (fun y4 h => K (.bool y4) h) h) (Sx.l10_DomSame.n6 b n c b2 n2 c2 b3 n c3 b4 n2 c4 false Kx Ky h) := fun h5 Kx Ky k5 =>
    same_calls 600 (X.kb k5) (X.kb k5) fun h6 k6 => vBool_mk (by rw [sameD_refl]; exact condT (fin h6 (k5.trans k6)))
  have back : ∀ h5, KB h4 h5 → HCalls Try.prog 30 ⟨[.slice b4 n2 c4, .slice b3 n c3]⟩ h5 fun v82 h83 => vBool v82 fun b84 => cond b84 (HCalls Try.prog 31 ⟨[.slice b2 n2 c2, .slice b n c]⟩ h83 fun v85 h86 => vBool v85 fun b87 => cond b87 (HCalls Try.prog 30 ⟨[.slice b3 n c3, .slice b3 n c3]⟩ h86 fun v h => vBool v fun b10 => cond b10 (Sx.l10_DomSame.n6 b n c b2 n2 c2 b3 n c3 b4 n2 c4 true (fun y4 h => K (.bool y4) h) (fun y4 h => K (.bool y4) h) h) (Sx.l10_DomSame.n6 b n c b2 n2 c2 b3 n c3 b4 n2 c4 false (fun y4 h => K (.bool y4) h) (fun y4 h => K (.bool y4) h) h)) (Sx.l10_DomSame.n6 b n c b2 n2 c2 b3 n c3 b4 n2 c4 false (fun y4 h => K (.bool y4) h) (fun y4 h => K (.bool y4) h) h86))
      (HCalls Try.prog 31 ⟨[.slice b2 n2 c2, .slice b n c]⟩ h83 fun v91 h92 => vBool v91 fun b93 => cond b93 (Sx.l10_DomSame.n6 b n c b2 n2 c2 b3 n c3 b4 n2 c4 false (fun y4 h => K (.bool y4) h) (fun y4 h => K (.bool y4) h) h92) (HCalls Try.prog 30 ⟨[.slice b3 n c3, .slice b3 n c3]⟩ h92 fun v h => vBool v fun b10 => cond b10 (Sx.l10_DomSame.n6 b n c b2 n2 c2 b3 n c3 b4 n2 c4 true (fun y4 h => K (.bool y4) h) (fun y4 h => K (.bool y4) h) h) (Sx.l10_DomSame.n6 b n c b2 n2 c2 b3 n c3 b4 n2 c4 false (fun y4 h => K (.bool y4) h) (fun y4 h => K (.bool y4) h) h))) := fun h5 k5 => by
    refine same_calls 600 (Y.kb k5) (X.kb k5) fun h6 k6 => vBool_mk ?_
    have k46 := k5.trans k6
    refine condB (fun e => sameR_calls 600 (R1.kb (k.trans k46)) (R0.kb (k.trans k46)) fun h7 k7 => vBool_mk (condB (fun _ => self h7 _ _ (k46.trans k7)) fun e' => by rw [e] at e'; cases e')) fun e => sameR_calls 600 (R1.kb (k.trans k46)) (R0.kb (k.trans k46)) fun h7 k7 => vBool_mk (condB (fun e' => by rw [e] at e'; cases e') fun _ => self h7 _ _ (k46.trans k7))
  refine same_calls 600 X Y fun h5 k5 => vBool_mk ?_
  refine condB (fun e => sameR_calls 600 (R0.kb (k.trans k5)) (R1.kb (k.trans k5)) fun h7 k7 => vBool_mk (condB (fun _ => back h7 (k5.trans k7)) fun e' => by rw [e] at e'; cases e')) fun e => sameR_calls 600 (R0.kb (k.trans k5)) (R1.kb (k.trans k5)) fun h7 k7 => vBool_mk (condB (fun e' => by rw [e] at e'; cases e') fun _ => back h7 (k5.trans k7))
end Go.Proofs
