/- marks: own marks. No condition. -/
import Derived.Test.YtoojoogbkbfpcaaMkH
namespace Go.Proofs
open Go Go.Sh
set_option linter.unusedVariables false
set_option maxRecDepth 100000

section
variable {A B : Nat → Prop} {h : H} {b b2 : Option Addr} {n c n2 c2 : Nat} {l : List MarkP}

theorem lent_calls (r : Row elMark A h b n c l) (hn : n ≤ 100000) (hat : ∀ m ∈ l, m.2.2.length ≤ 100000) {K : Value → H → Prop}
    (hk : ∀ b' c' h', OwnF elMark h' h.size 25 b' n c' l → KB h h' → K (.slice b' n c') h') :
    HCalls Try.prog 8 ⟨[.slice b n c]⟩ h K := by
  refine Sx.l12_lent.ok _ _ _ _ _ ⟨n + 1, ?_⟩
  have hl := r.len
  have key : ∀ k i h1 b3 c3, i + k = n → KB h h1 → OwnF elMark h1 h.size 25 b3 i c3 (l.take i) →
      Sx.l12_lent.n7_L (fun z3b z3n z3c h => K (.slice z3b z3n z3c) h) (fun z3b z3n z3c h => K (.slice z3b z3n z3c) h) (fun z3b z3n z3c h => K (.slice z3b z3n z3c) h) (k + 1) b n c b3 i c3 (i : Int) h1 := by
    intro k
    induction k with
    | zero =>
      intro i h1 b3 c3 hi k1 o
      refine splF (by omega) ?_
      have e : i = n := by omega
      subst e
      rw [List.take_of_length_le (by omega)] at o
      exact hk b3 c3 h1 o k1
    | succ k ih =>
      intro i h1 b3 c3 hi k1 o
      have hil : i < l.length := by omega
      refine splT (by omega) ((r.kb k1).idxN hil rfl fun a hA => ldMark hA fun b' n' c' hR => newx_var fun a2 h2 v2 k2 e2 _ => stL_var0 v2 (Nat.le_refl _) fun h3 v3 k3 s3 => ?_)
      have k13 : KB h1 h3 := KB.step k2 k3 (by omega)
      have hri := (hR.kb k13).inv
      have hat' := hat l[i] (List.getElem_mem _)
      have hln := hri.1.len
      refine ⟨_, _, _, v3.cell 2 rfl, lentAttrs_calls hri.1 (by omega) fun b4 c4 h4 o4 k4 => ?_⟩
      have v4 := v3.kb k4
      refine stL_var (m := 2) (i := 0) v4 (Nat.le_refl _) fun h5 v5 k5 s5 => ⟨_, v5.cell 0 rfl, _, v5.cell 1 rfl, _, _, _, v5.cell 2 rfl, newx_var fun a6 h6 v6 k6 e6 _ => ?_⟩
      have k15 : KB h1 h5 := KB.step (k13.trans k4) k5 (by omega)
      have k16 : KB h1 h6 := k15.trans k6
      have k15s := k15.1
      have k13s := k13.1
      have o6 := o.kb k16
      -- the attributes that were lent
      have k46 : Keep (fun k => k ≠ a2.block) h4 h6 := ⟨Nat.le_trans k5.1 k6.1, fun x hx o e hlo => by
        have e5 : h5[x]? = some o := by rw [k5.2 x hx]; exact e
        rw [k6.2 x (Array.getElem?_eq_some_iff.1 e5).1]; exact e5⟩
      have o46 : OwnT elAttr Non h6 h3.size 38 b4 n' c4 l[i].2.2 := (o4.own.flat flatAttr).keep k46 (fun _ h _ => h.elim) (fun _ h _ => h) fun g _ hg _ => by have := v3.lt; omega
      have r4 : Row elAttr (But h6 b3) h6 b4 n' c4 l[i].2.2 := o46.row (fun _ h => h.elim) fun g _ hgs hg => ⟨hgs, fun x hx => by have := o.hi x hx; omega⟩
      refine OwnF.append apdMark o6 (v6.row1 (markR r4 o4.nil hri.2.2.1 hri.2.2.2) ⟨v6.lt, fun x hx => by have := o.hi x hx; omega⟩) (by simp only [maxLen]; omega) (by omega) (Nat.le_trans k1.1 k16.1) fun b7 c7 h7 o7 g7 => ⟨rng64 (by omega) (by omega), ih (i + 1) h7 b7 c7 (by omega) (Grow.kb0 (k1.trans k16) g7 o.lo) ?_⟩
      rw [List.take_succ_eq_append_getElem hil]
      exact o7
  exact key n 0 h none 0 (by omega) (KB.refl h) (OwnF.none _ _ _)
end
end Go.Proofs
