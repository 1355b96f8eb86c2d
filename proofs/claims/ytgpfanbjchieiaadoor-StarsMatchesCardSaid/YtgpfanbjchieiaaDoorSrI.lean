/- stars: the chapter's Match: its contract. No condition. -/
import Derived.Test.YtgpfanbjchieiaaDoorSrH
namespace Go.Proofs
open Go Go.Sh
set_option linter.unusedVariables false
set_option maxRecDepth 100000
def st0 (r : RunP) : StP := (0, r.mn, decide (r.mn ≤ 0))
section
variable {h0 : H} {K : Value → H → Prop} {A : Nat → Prop} {b : Option Addr} {n c : Nat} {l : List RunP}
abbrev rmK (K : Value → H → Prop) : Option Addr → Nat → Nat → H → Prop := fun z5b z5n z5c h => Sx.r27_Match.n6 z5b z5n z5c (fun y2b y2n y2c h => K (.slice y2b y2n y2c) h) (fun y2b y2n y2c h => K (.slice y2b y2n y2c) h) h
theorem ref_outer {B : Nat} {sb : Option Addr} {sn sc : Nat} (hB : h0.size ≤ B) (r : Row elRun A h0 b n c l) (hn : n ≤ 1000) (hk : ∀ h' b' n' c', KB h0 h' → OwnF elPr h' h0.size 35 b' n' c' (matchP l) → K (.slice b' n' c') h') :
    ∀ N ci h st ob on oc out, SI h0 h B sb sn sc l st → OwnF elPr h B 35 ob on oc out → ci + N = n → (∀ i, i < l.length → (g st i).2.2 = false → 1 ≤ (gl l i).mn ∧ (gl l i).mn ≤ 10000 ∧ 0 ≤ (g st i).1 ∧ 1 ≤ (g st i).2.1 ∧ (g st i).1 + (g st i).2.1 ≤ 10000) → (∀ i, ci ≤ i → i < l.length → g st i = st0 (gl l i)) → out.length ≤ ci * 10000 →
      ((l.drop ci).foldl stepP (leftOf l st ci, out)).2 = matchP l →
      Sx.r27_Match.n9_L (rmK K) (rmK K) (fun y2b y2n y2c h => K (.slice y2b y2n y2c) h) (N + 1) b n c sb sn sc ob on oc (ci : Int) h := by
  have hrl := r.len
  intro N
  induction N with
  | zero =>
    intro ci h st ob on oc out I oo hN hlive hlate ho hres
    unfold Sx.r27_Match.n9_L
    refine splF (by omega) ?_
    rw [List.drop_of_length_le (by omega)] at hres
    have hres : out = matchP l := hres
    exact hk h ob on oc I.kb (by rw [← hres]; exact oo.lower hB)
  | succ N ih =>
    intro ci h st ob on oc out I oo hN hlive hlate ho hres
    have hci : ci < l.length := by omega
    have hgc := hlate ci (Nat.le_refl _) hci
    unfold Sx.r27_Match.n9_L
    refine splT (by omega) ⟨(gl l ci).mn.toNat + 1, ?_⟩
    refine ref_inner (ci := ci) (Res := fun p => ((l.drop (ci + 1)).foldl stepP p).2 = matchP l) hB r hci (by omega) (fun h2 st2 ob2 on2 oc2 out2 I2 oo2 N2 ho2 hres2 => ?_) (gl l ci).mn.toNat h st ob on oc out I oo ⟨hlive, fun i h1 h2 => hlate i (by omega) h2⟩ (fun hf => ?_) (by omega) ?_
    · unfold Sx.r27_Match.n12
      rw [show IntKind.wrap .i64 ((ci : Int) + 1) = ((ci + 1 : Nat) : Int) from (W_id (by omega) (by omega)).trans (by omega)]
      exact ih (ci + 1) h2 st2 ob2 on2 oc2 out2 I2 oo2 (by omega) N2.live (fun i h1 h2 => N2.late i (by omega) h2) ho2 hres2
    · have := hlive ci hci hf
      rw [hgc]
      show (gl l ci).mn ≤ _ ∧ _ + (gl l ci).mn ≤ _
      omega
    · rw [List.drop_eq_getElem_cons hci, List.foldl_cons, gl_get hci] at hres
      have e : innerRes l st ci out = stepP (leftOf l st ci, out) (gl l ci) := by
        unfold innerRes stepP closeP ndOf
        rw [hgc]
        by_cases h1 : (gl l ci).mn ≤ 0
        · rw [if_pos h1, if_pos (show (st0 (gl l ci)).2.2 = true from decide_eq_true h1)]
        · rw [if_neg h1, if_neg (by show ¬ decide _ = true; rw [decide_eq_false h1]; decide)]
          rfl
      show ((l.drop (ci + 1)).foldl stepP (innerRes l st ci out)).2 = _
      rw [e]; exact hres
theorem refMatch_calls (r : Row elRun A h0 b n c l) (hn : n ≤ 1000) (hb : ∀ r ∈ l, r.mn ≤ 10000) (hk : ∀ h' b' n' c', KB h0 h' → OwnF elPr h' h0.size 35 b' n' c' (matchP l) → K (.slice b' n' c') h') : HCalls Tryd.prog 12 ⟨[.slice b n c]⟩ h0 K := by
  have hrl := r.len
  refine Sx.r27_Match.ok _ _ _ _ _ ⟨n + 1, ?_⟩
  have key : ∀ N i h sb sn sc, i + N = n → KB h0 h → OwnF elSt h h0.size 48 sb sn sc ((l.take i).map st0) →
      Sx.r27_Match.n37_L (fun z0b z0n z0c z3b z3n z3c h => Sx.r27_Match.n4 z0b z0n z0c z3b z3n z3c (fun y2b y2n y2c h => K (.slice y2b y2n y2c) h) (fun y2b y2n y2c h => K (.slice y2b y2n y2c) h) h) (fun z0b z0n z0c z3b z3n z3c h => Sx.r27_Match.n4 z0b z0n z0c z3b z3n z3c (fun y2b y2n y2c h => K (.slice y2b y2n y2c) h) (fun y2b y2n y2c h => K (.slice y2b y2n y2c) h) h) (fun y2b y2n y2c h => K (.slice y2b y2n y2c) h) (N + 1) b n c sb sn sc (i : Int) h := by
    intro N
    induction N with
    | zero =>
      intro i h sb sn sc hi k os
      unfold Sx.r27_Match.n37_L
      refine splF (by omega) ?_
      rw [List.take_of_length_le (by omega)] at os
      have hg : ∀ i, i < l.length → g (l.map st0) i = st0 (gl l i) := fun i hi => by
        unfold g gl
        rw [List.getD_eq_getElem?_getD, List.getElem?_map, List.getD_eq_getElem?_getD, List.getElem?_eq_getElem hi]; rfl
      refine ⟨n + 1, ref_outer (B := h.size) k.1 r hn hk n 0 h (l.map st0) none 0 0 [] ⟨k, os, os.hi, Nat.le_refl _, by simp⟩ (OwnF.none _ _ _) (by omega) (fun i hi hf => ?_) (fun i _ hi => hg i hi) (by simp) rfl⟩
      rw [hg i hi] at hf ⊢
      have h1 : ¬ (gl l i).mn ≤ 0 := of_decide_eq_false hf
      have h2 : (gl l i).mn ≤ 10000 := by rw [← gl_get hi]; exact hb _ (List.getElem_mem hi)
      exact ⟨by omega, h2, Int.le_refl _, show 1 ≤ (gl l i).mn by omega, show 0 + (gl l i).mn ≤ _ by omega⟩
    | succ N ih =>
      intro i h sb sn sc hi k os
      have hi' : i < l.length := by omega
      have hsn := os.own.len
      rw [List.length_map, List.length_take] at hsn
      have e : (l.take (i + 1)).map st0 = (l.take i).map st0 ++ [st0 l[i]] := by
        rw [List.take_add_one, List.getElem?_eq_getElem hi', List.map_append]; rfl
      have next : ∀ (v : Bool), v = decide (l[i].2.2.1 ≤ 0) → RunR l[i] → newx h #[(.int .i64 (0 : Int)), (.int .i64 l[i].2.2.1), (.bool v)] 48 fun a245 h246 => SemH Tryd.prog (Builtin.append_ #[46, 46] 46 ⟨[(.slice sb sn sc), (.slice (some a245) 1 1)]⟩) h246 fun v247 h248 => vSlice v247 fun s249b s249n s249c =>
          Sx.r27_Match.n37_L (fun z0b z0n z0c z3b z3n z3c h => Sx.r27_Match.n4 z0b z0n z0c z3b z3n z3c (fun y2b y2n y2c h => K (.slice y2b y2n y2c) h) (fun y2b y2n y2c h => K (.slice y2b y2n y2c) h) h) (fun z0b z0n z0c z3b z3n z3c h => Sx.r27_Match.n4 z0b z0n z0c z3b z3n z3c (fun y2b y2n y2c h => K (.slice y2b y2n y2c) h) (fun y2b y2n y2c h => K (.slice y2b y2n y2c) h) h) (fun y2b y2n y2c h => K (.slice y2b y2n y2c) h) (N + 1) b n c s249b s249n s249c (IntKind.wrap .i64 ((i : Int) + (1 : Int))) h248 := fun v hv hr => by
        have es : st0 l[i] = (0, l[i].2.2.1, v) := by rw [hv]; rfl
        rw [show IntKind.wrap .i64 ((i : Int) + 1) = ((i + 1 : Nat) : Int) from (W_id (by omega) (by omega)).trans (by omega)]
        refine one_app (x := st0 l[i]) apdSt (fun A h => by rw [es]; exact stR (s := (0, l[i].2.2.1, v)) (rng64 (n := 0) (by decide) (by decide)) hr.mn) os k.1 (by simp only [maxLen]; omega) (by omega) fun b5 c5 h5 o5 k5 => vSliceMk (ih (i + 1) h5 b5 _ c5 (by omega) (SK.trans k k5) (by rw [e]; exact o5))
      unfold Sx.r27_Match.n37_L
      refine splT (by omega) (rnAt (r.kb k) hi' fun a c1 _ => ⟨_, c1 2 _ rfl, rnAt (r.kb k) hi' fun a2 c2 hr => ⟨_, c2 2 _ rfl, spl (fun e => next true (decide_eq_true e).symm hr) fun e => next false (decide_eq_false e).symm hr⟩⟩)
  exact key n 0 h0 none 0 0 (by omega) (KB.refl h0) (OwnF.none _ _ _)
end
end Go.Proofs
