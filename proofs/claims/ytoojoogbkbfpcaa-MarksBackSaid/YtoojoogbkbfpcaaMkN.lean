/- marks: MarksLooks. No condition. -/
import Derived.Test.YtoojoogbkbfpcaaMkM
namespace Go.Proofs
open Go Go.Sh
set_option linter.unusedVariables false
set_option maxRecDepth 100000

theorem vIntMk {kd : IntKind} {i : Int} {k : Int → Prop} (h : k i) : vInt kd (.int kd i) k := by
  show (if kd = kd then k i else False)
  rw [if_pos rfl]; exact h
theorem setAll_len : ∀ {l cs : List Value} {i : Nat}, (setAll cs i l).length = cs.length
  | [], cs, i => rfl
  | v :: l, cs, i => by rw [setAll, setAll_len, List.length_set]

/-- a row of one's own, as a block that may be written -/
theorem ownVar {α : Type} {E : El α} {h : H} {base e n c : Nat} {b : Option Addr} {l : List α} (o : OwnF E h base e b n c l) (hn : 0 < n) : ∃ a cs, b = some a ∧ Var h a e cs ∧ n * E.sz ≤ cs.length ∧ base ≤ a.block := by
  obtain ⟨xs, ho, _⟩ := o.own.own
  rcases ho.is with h1 | ⟨g, cur, e1, hb, hg, hs, _⟩
  · omega
  · exact ⟨_, cur.toList, e1, ⟨rfl, by simpa using hg⟩, by rw [Array.length_toList, hs]; exact Nat.mul_le_mul_right _ ho.cap, hb⟩

section
variable {A B C : Nat → Prop} {h : H} {b b2 : Option Addr} {n c n2 c2 : Nat} {l : List MarkP} {o : List OpenP} {s : Bs} {id : Int}

theorem looks_calls (hA : ∀ k, A k → k < h.size) (r : Row elMark A h b n c l) (hz : b = none → c = 0) (hn : n ≤ 1000000000000000) (ha : ∀ m ∈ l, m.2.2.length ≤ 1000000000000000) (ro : Row elOpen B h b2 n2 c2 o)
    {K : Value → H → Prop} (hk : ∀ h', KB h h' → K (.bool true) h') : HCalls Try.prog 4 ⟨[.slice b n c, S s, .int .i64 id, .slice b2 n2 c2]⟩ h K := by
  refine Sx.l12_MarksLooks.ok _ _ _ _ _ _ _ _ _ _ (much_calls r hn ha fun w hw => condB (fun _ => hk h (KB.refl h)) fun e => ?_)
  obtain ⟨hn1, ha1⟩ := hw e
  refine spl (fun _ => hk h (KB.refl h)) fun _ => spl (fun _ => hk h (KB.refl h)) fun _ => ?_
  refine lent_calls r (by omega) (fun m hm => by have := ha1 m hm; omega) fun b3 c3 h3 o3 k3 => vSliceMk (clear_calls (A := Bel h3.size) (fun _ h => h) o3.row o3.nil (by omega) fun b4 n4 c4 h4 o4 k4 => vSliceMk ?_)
  have k04 := (k3).trans k4
  refine refClear_calls (r.kb k04) hz (by omega) fun b5 n5 c5 h5 o5 k5 => vSliceMk (sameMarks_calls (o4.row.kb k5) o5.row ?_)
  refine condB (fun _ => ?_) fun e => absurd (of_decide_eq_false e) (fun h => h rfl)
  have k35 := k4.trans k5
  have k05 := (k3).trans k35
  refine last_calls (A := Bel h5.size) (fun _ h => h) (o3.kb k35).row fun h6 k6 => vIntMk (refLast_calls ((r.kb k05).kb k6) (vIntMk (spl (fun _ => ?_) fun e => absurd rfl e)))
  have k36 := k35.trans k6
  have k06 := k05.trans k6
  refine find_calls (o3.kb k36).row fun h7 k7 => vIntMk (refFind_calls ((r.kb k06).kb k7) (vIntMk (spl (fun _ => ?_) fun e => absurd rfl e)))
  have k37 := k36.trans k7
  have k07 := k06.trans k7
  refine lost_calls (A := Bel h7.size) (fun _ h => h) (o3.kb k37).row (ro.kb k07) fun h8 k8 => vIntMk (refLost_calls ((r.kb k07).kb k8) ((ro.kb k07).kb k8) (vIntMk (spl (fun _ => ?_) fun e => absurd rfl e)))
  have k38 := k37.trans k8
  have k08 := k07.trans k8
  have o48 := ((o4.kb k5).kb ((k6.trans k7).trans k8))
  have h30 := k3.1
  refine ⟨n4 + 1, ?_⟩
  -- the loop that spoils what Clear told
  have fin : ∀ h9, KB h3 h9 → Sx.l12_MarksLooks.n7 b n c b3 n c3 true (fun y8 h => K (.bool y8) h) (fun y8 h => K (.bool y8) h) h9 := fun h9 k9 => by
    refine known_calls fun h10 k10 => vBool_mk (condB (fun _ => condB (fun _ => ?_) fun e => by cases e) fun e => by cases e)
    have k310 := k9.trans k10
    have k010 := (k3).trans k310
    refine sameMarks_calls (o3.kb k310).row (r.kb k010) (condB (fun _ => hk h10 k010) fun e => absurd (of_decide_eq_false e) (fun h => h rfl))
  have key : ∀ k i h9, i + k = n4 → KB h3 h9 → (0 < n4 → ∃ a cs, b4 = some a ∧ Var h9 a 25 cs ∧ n4 * 3 ≤ cs.length ∧ h3.size ≤ a.block) →
      Sx.l12_MarksLooks.n10_L (fun z0b z0n z0c z9b z9n z9c z11 h => Sx.l12_MarksLooks.n7 z0b z0n z0c z9b z9n z9c z11 (fun y8 h => K (.bool y8) h) (fun y8 h => K (.bool y8) h) h)
        (fun z0b z0n z0c z9b z9n z9c z11 h => Sx.l12_MarksLooks.n7 z0b z0n z0c z9b z9n z9c z11 (fun y8 h => K (.bool y8) h) (fun y8 h => K (.bool y8) h) h) (fun y8 h => K (.bool y8) h) (k + 1) b n c b3 n c3 b4 n4 c4 true (i : Int) h9 := by
    intro k
    induction k with
    | zero => intro i h9 hi k9 _; exact splF (by omega) (fin h9 k9)
    | succ k ih =>
      intro i h9 hi k9 hv
      obtain ⟨a, cs, rfl, v, hcs, hge⟩ := hv (by omega)
      have hb := o48.cap
      refine splT (by omega) ⟨⟨by omega, by omega⟩, ?_⟩
      refine stL_var (m := i * 3) (i := 0) v (by simp; omega) fun h10 v10 k10 s10 => ⟨rng64 (by omega) (by have := o48.cap; simp only [maxLen] at this; omega), ih (i + 1) h10 (by omega) (KB.step k9 k10 hge) fun _ => ⟨a, _, rfl, v10, by rw [setAll_len]; exact hcs, hge⟩⟩
  refine key n4 0 h8 (by omega) k38 fun hp => ?_
  obtain ⟨a, cs, e, v, hcs, hge⟩ := ownVar o48 hp
  exact ⟨a, cs, e, v, hcs, hge⟩
end
end Go.Proofs
