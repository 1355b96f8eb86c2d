/- open: what bounds a scope, of both texts. No condition but that the library's variable holds a number. -/
import Derived.Test.YtggejikikcffmaaOpB
namespace Go.Proofs
open Go Go.Sh
set_option linter.unusedVariables false
set_option maxRecDepth 100000

theorem apdStr : Apd Try.prog elStr 23 9 16 := apd_of (sz := 1) (by kernel_rfl) rfl

section
variable {A B : Nat → Prop} {h : H} {b b2 : Option Addr} {n c n2 c2 : Nat} {ns : List Bs} {s row : Bs} {x : OpenP} {sc sp : Int}

theorem boundsP_table (e : sc = 3) : boundsP x sc = oneP x wTable := by unfold boundsP; rw [if_pos e]
theorem boundsP_other (e : sc ≠ 3) (e2 : x.2.1 ≠ 0) : boundsP x sc = specialP x.2.1 x.2.2.1 := by unfold boundsP; rw [if_neg e, if_pos e2]
theorem boundsP_html (e : sc ≠ 3) (e2 : x.2.1 = 0) : boundsP x sc = (inNames wBnd x.2.2.1 || (decide (sc = 1) && inNames wList x.2.2.1) || (decide (sc = 2) && inNames wButton x.2.2.1)) := by unfold boundsP; rw [if_neg e, if_neg (fun h => h e2)]
theorem oneP_html (e2 : x.2.1 = 0) : oneP x ns = inNames ns x.2.2.1 := by unfold oneP; rw [decide_eq_true e2, Bool.true_and]

theorem bounds_calls (m : ML h) (hs : x.2.2.1.length ≤ 9000000000000000000) {K : Value → H → Prop} (hk : ∀ h', KB h h' → K (.bool (boundsP x sc)) h') : HCalls Try.prog 27 ⟨[.agg ⟨cellsO x⟩, .int .u8 sc]⟩ h K := by
  refine Sx.open_bounds.ok _ _ _ _ _ _ _ (newx_var fun a h1 v1 k1 _ _ => ?_)
  -- the last test: a word of the row
  have last : ∀ h2, KB h1 h2 → sc ≠ 3 → x.2.1 = 0 → (decide (sc = 1) && inNames wList x.2.2.1) = false → (decide (sc = 2) && inNames wButton x.2.2.1) = false →
      Sx.open_bounds.n3 a (fun y4 h => K (.bool y4) h) (fun y4 h => K (.bool y4) h) h2 := fun h2 k2 e1 e2 e3 e4 => by
    refine ⟨_, (v1.kb k2).cell 2 rfl, hasRow_calls wBnd wBnd_ok (by decide +kernel) (by decide +kernel) ((m.kb k1).kb k2) hs (vBool_mk (condK (K := fun b => K (.bool b) h2) ?_))⟩
    have := hk h2 (k1.trans k2)
    rwa [boundsP_html e1 e2, e3, e4, Bool.or_false, Bool.or_false] at this
  have second : ∀ h2, KB h1 h2 → sc ≠ 3 → x.2.1 = 0 → (decide (sc = 1) && inNames wList x.2.2.1) = false →
      Sx.open_bounds.n14 sc a false (fun z2 z20 h => Sx.open_bounds.n12 z2 z20 (fun z2 h => Sx.open_bounds.n3 z2 (fun y4 h => K (.bool y4) h) (fun y4 h => K (.bool y4) h) h) (fun z2 h => Sx.open_bounds.n3 z2 (fun y4 h => K (.bool y4) h) (fun y4 h => K (.bool y4) h) h) (fun y4 h => K (.bool y4) h) h)
        (fun z2 h => Sx.open_bounds.n3 z2 (fun y4 h => K (.bool y4) h) (fun y4 h => K (.bool y4) h) h) (fun y4 h => K (.bool y4) h) h2 := fun h2 k2 e1 e2 e3 => by
    refine spl (fun e => ldVar (v1.kb k2) (newx_var (cs := wButton.map S) fun a3 h3 v3 k3 _ _ => ofLit_calls wButton rfl (by decide +kernel) (by decide +kernel) v3 fun h4 k4 => vBool_mk (condB (fun ht => ?_) fun ht => ?_))) fun e => last h2 k2 e1 e2 e3 (by rw [decide_eq_false e, Bool.false_and])
    · rw [oneP_html e2] at ht
      have := hk h4 (((k1.trans k2).trans k3).trans k4)
      rwa [boundsP_html e1 e2, ht, decide_eq_true e, Bool.and_self, Bool.or_true] at this
    · rw [oneP_html e2] at ht
      exact last h4 ((k2.trans k3).trans k4) e1 e2 e3 (by rw [ht, Bool.and_false])
  refine spl (fun e => ldVar v1 (newx_var (cs := wTable.map S) fun a3 h3 v3 k3 _ _ => ofLit_calls wTable rfl (by decide +kernel) (by decide +kernel) v3 fun h4 k4 => vBool_mk (condK (K := fun b => K (.bool b) h4) ?_))) fun e => ⟨_, v1.cell 1 rfl, spl (fun e2 => ?_) fun e2 => ?_⟩
  · have := hk h4 ((k1.trans k3).trans k4)
    rwa [boundsP_table e] at this
  · refine spl (fun e3 => ldVar v1 (newx_var (cs := wList.map S) fun a3 h3 v3 k3 _ _ => ofLit_calls wList rfl (by decide +kernel) (by decide +kernel) v3 fun h4 k4 => vBool_mk (condB (fun ht => ?_) fun ht => ?_))) fun e3 => second h1 (KB.refl h1) e e2 (by rw [decide_eq_false e3, Bool.false_and])
    · rw [oneP_html e2] at ht
      have := hk h4 ((k1.trans k3).trans k4)
      rwa [boundsP_html e e2, ht, decide_eq_true e3, Bool.and_self, Bool.or_true, Bool.true_or] at this
    · rw [oneP_html e2] at ht
      exact second h4 (k3.trans k4) e e2 (by rw [ht, Bool.and_false])
  · refine ⟨_, v1.cell 1 rfl, _, v1.cell 2 rfl, special_calls (m.kb k1) hs (vBool_mk (condK (K := fun b => K (.bool b) h1) ?_))⟩
    have := hk h1 k1
    rwa [boundsP_other e e2] at this

theorem refBounds_calls (hs : x.2.2.1.length ≤ 9000000000000000000) {K : Value → H → Prop} (hk : ∀ h', KB h h' → K (.bool (boundsP x sc)) h') : HCalls Try.prog 29 ⟨[.agg ⟨cellsO x⟩, .int .u8 sc]⟩ h K := by
  refine Sx.r11_bounds.ok _ _ _ _ _ _ _ (newx_var fun a h1 v1 k1 _ _ => ?_)
  refine spl (fun e => ldVar v1 (newx_var (cs := wTable.map S) fun a3 h3 v3 k3 _ _ => refOneLit_calls wTable rfl (by decide +kernel) (by decide +kernel) v3 fun h4 k4 => vBool_mk (condK (K := fun b => K (.bool b) h4) ?_))) fun e => ⟨_, v1.cell 1 rfl, spl (fun e2 => ?_) fun e2 => ⟨_, v1.cell 1 rfl, _, v1.cell 2 rfl, refSpecial_calls fun h2 k2 => vBool_mk (condK (K := fun b => K (.bool b) h2) ?_)⟩⟩
  · have := hk h4 ((k1.trans k3).trans k4)
    rwa [boundsP_table e] at this
  · refine newx_var (cs := wBnd.map S) fun a2 h2 v2 k2 _ _ => ?_
    have r2 : Row elStr (fun _ => True) h2 (some a2) 9 9 wBnd := rowLit v2 (by decide +kernel) (by decide +kernel)
    have k12 := k1.trans k2
    refine spl (fun e3 => newx_var (cs := wList.map S) fun a3 h3 v3 k3 _ _ => ?_) fun e3 => spl (fun e4 => newx_var (cs := wButton.map S) fun a3 h3 v3 k3 _ _ => ?_) fun e4 => ⟨_, (v1.kb k2).cell 2 rfl, refIn_calls r2 (vBool_mk (condK (K := fun b => K (.bool b) h2) ?_))⟩
    · have r3 : Row elStr (fun _ => True) h3 (some a3) 2 2 wList := rowLit v3 (by decide +kernel) (by decide +kernel)
      refine Row.appendF apdStr (r2.kb k3) (.inr (by omega)) r3 (fun h => by cases h) (by decide) (by decide) (fun h => by cases h) fun c4 h4 _ o4 k4 => vSliceMk (splF (by omega) ⟨_, ((v1.kb k2).kb (k3.trans k4)).cell 2 rfl, refIn_calls o4.row (vBool_mk (condK (K := fun b => K (.bool b) h4) ?_))⟩)
      have := hk h4 ((k12.trans k3).trans k4)
      rw [boundsP_html e e2, decide_eq_true e3, decide_eq_false (by omega : ¬ sc = 2)] at this
      have e5 : inNames (wBnd ++ wList) x.2.2.1 = (inNames wBnd x.2.2.1 || (true && inNames wList x.2.2.1) || (false && inNames wButton x.2.2.1)) := by
        unfold inNames; simp
      rwa [e5]
    · have r3 : Row elStr (fun _ => True) h3 (some a3) 1 1 wButton := rowLit v3 (by decide +kernel) (by decide +kernel)
      refine Row.appendF apdStr (r2.kb k3) (.inr (by omega)) r3 (fun h => by cases h) (by decide) (by decide) (fun h => by cases h) fun c4 h4 _ o4 k4 => vSliceMk ⟨_, ((v1.kb k2).kb (k3.trans k4)).cell 2 rfl, refIn_calls o4.row (vBool_mk (condK (K := fun b => K (.bool b) h4) ?_))⟩
      have := hk h4 ((k12.trans k3).trans k4)
      rw [boundsP_html e e2, decide_eq_false e3, decide_eq_true e4] at this
      have e5 : inNames (wBnd ++ wButton) x.2.2.1 = (inNames wBnd x.2.2.1 || (false && inNames wList x.2.2.1) || (true && inNames wButton x.2.2.1)) := by
        unfold inNames; simp
      rwa [e5]
    · have := hk h2 k12
      rwa [boundsP_html e e2, decide_eq_false e3, decide_eq_false e4, Bool.false_and, Bool.false_and, Bool.or_false, Bool.or_false] at this
  · have := hk h2 (k1.trans k2)
    rwa [boundsP_other e e2] at this
end
end Go.Proofs
