/- dom: heavy. No condition. -/
import Derived.Test.YtgkaebhnamcfkaaDoS
import Derived.Test.YtgkaebhnamcfkaaDoX
namespace Go.Proofs
open Go Go.Sh
set_option linter.unusedVariables false
set_option maxRecDepth 100000
theorem row_one {d : Nat} {A : Nat → Prop} {h : H} {a : Addr} {x : NodeV} {t : Nat} {ab kb : Option Addr} {an ac kn kc : Nat} (v : Var h a t (nvCells x ab an ac kb kn kc)) (ra : Row elAttr A h ab an ac x.attrs) (hz : ab = none → ac = 0)
    (rk : Row (elNode d) A h kb kn kc x.kids) (hz2 : kb = none → kc = 0) (r1 : Rng .u8 x.kind) (r2 : Rng .u8 x.space) (r3 : x.name.length ≤ maxLen) (r4 : x.text.length ≤ maxLen) : Row (elNode (d + 1)) (fun _ => True) h (some a) 1 1 [x] := by
  refine ⟨rfl, Nat.le_refl _, by decide, fun i y hy => ?_⟩
  cases i with
  | succ i => simp at hy
  | zero =>
    have hy : some x = some y := hy
    cases hy
    refine ⟨a, rfl, trivial, _, nodeR_mk (A := fun _ => True) (ra.keep (Keep.refl _ _) fun _ _ _ => trivial) hz (rk.keep (Keep.refl _ _) fun _ _ _ => trivial) hz2 r1 r2 r3 r4, fun j w hw => ?_⟩
    rw [Nat.zero_mul, add_zero']
    exact v.cell j hw
theorem at_up {d : Nat} {A : Nat → Prop} {h : H} {a : Addr} {x : NodeV} (H : At (elNode d) A h a x) : At (elNode (d + 1)) A h a x := by
  obtain ⟨g, cs, r, q⟩ := H
  exact ⟨g, cs, nodeR_up r, q⟩
theorem heavy_calls {d : Nat} {A : Nat → Prop} {h : H} {b : Option Addr} {n c : Nat} {K : Value → H → Prop} {l : List OpP} (R : Row (elOp d) A h b n c l)
    (hk : ∀ h' v, KB h h' → (v = false → l.length ≤ 150 ∧ l.length + sumN (fun x => totN (d + 1) [x.2.1]) l ≤ 600) → K (.bool v) h') : HCalls Try.prog 7 ⟨[.slice b n c]⟩ h K := by
  have hl := R.len
  have hm : n ≤ maxLen := Nat.le_trans R.cap R.max
  simp only [maxLen] at hm
  refine Sx.l10_heavy.ok _ _ _ _ _ ⟨n + 1, ?_⟩
  have fin : ∀ h1 (w : Int), KB h h1 → (w ≤ 600 → w = ((n + sumN (fun x : OpP => totN (d + 1) [x.2.1]) l : Nat) : Int)) → Sx.l10_heavy.n4 b n c w (fun y2 h => K (.bool y2) h) (fun y2 h => K (.bool y2) h) h1 := fun h1 w k1 hw =>
    spl (fun _ => hk h1 true k1 fun e => by cases e) fun e => spl (fun _ => hk h1 true k1 fun e => by cases e) fun e2 => hk h1 false k1 fun _ => by
      have := hw (by omega)
      omega
  have key : ∀ N i (w : Int) h1, i + N = n → KB h h1 → 0 ≤ w → (w ≤ 600 → w + (sumN (fun x : OpP => totN (d + 1) [x.2.1]) (l.drop i) : Int) = ((n + sumN (fun x : OpP => totN (d + 1) [x.2.1]) l : Nat) : Int)) → (i = n ∨ 600 < w ∨ w ≤ 600) →
      Sx.l10_heavy.n7_L (fun z0b z0n z0c z3 h => Sx.l10_heavy.n4 z0b z0n z0c z3 (fun y2 h => K (.bool y2) h) (fun y2 h => K (.bool y2) h) h) (fun z0b z0n z0c z3 h => Sx.l10_heavy.n4 z0b z0n z0c z3 (fun y2 h => K (.bool y2) h) (fun y2 h => K (.bool y2) h) h) (fun y2 h => K (.bool y2) h) (N + 1) b n c w (i : Int) h1 := by
    intro N
    induction N with
    | zero =>
      intro i w h1 hi k1 w0 hw _
      unfold Sx.l10_heavy.n7_L
      refine splF (by omega) (fin h1 w k1 fun hle => ?_)
      have := hw hle
      rw [List.drop_of_length_le (by omega)] at this
      have e0 : sumN (fun x : OpP => totN (d + 1) [x.2.1]) [] = 0 := rfl
      rw [e0] at this
      omega
    | succ N ih =>
      intro i w h1 hi k1 w0 hw _
      unfold Sx.l10_heavy.n7_L
      refine splT (by omega) (spl (fun hle => ?_) fun hgt => fin h1 w k1 fun hle => absurd hle hgt)
      have hil : i < l.length := by omega
      have hw := hw hle
      rw [sumN_drop _ hil] at hw
      refine (R.kb k1).idxN hil rfl fun a hA => ldNode (at_up hA.snd.fst) fun ab an ac kb kn kc ra hz rk hz2 r1 r2 r3 r4 => newx_var fun a3 h3 v3 k3 e3 s3 => ?_
      refine nodes_calls (by decide) (by decide) (d + 1) (row_one v3 (ra.kb k3) hz (rk.kb k3) hz2 r1 r2 r3 r4) w0 (by omega) fun v g1 g2 g3 => vIntMk ⟨rngI (by omega) (by omega), ih (i + 1) v h3 (by omega) (k1.trans k3) (by omega) (fun hv => ?_) (by omega)⟩
      have := g3 hv
      omega
  exact key n 0 (n : Int) h (by omega) (KB.refl h) (by omega) (fun _ => by rw [List.drop_zero]; omega) (by omega)
end Go.Proofs
