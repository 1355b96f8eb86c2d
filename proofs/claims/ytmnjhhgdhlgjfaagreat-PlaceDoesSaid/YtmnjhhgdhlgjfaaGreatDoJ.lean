/- dom: Move, plain. -/
import Derived.Test.YtmnjhhgdhlgjfaaGreatDoI
namespace Go.Proofs
open Go Go.Sh
set_option linter.unusedVariables false
set_option maxRecDepth 100000
/-! ### plain -/
def parsTo (ns : List NodeM) (ks : List Int) (p : Nat) : List NodeM := ns.mapIdx fun j z => if (j : Int) ∈ ks then { z with parent := (p : Int) } else z
def moveAt (ns : List NodeM) (i p : Nat) (xk yk : List Int) : List NodeM := ns.mapIdx fun j z => { z with parent := if (j : Int) ∈ xk then (p : Int) else z.parent, kids := if j = i then [] else if j = p then yk ++ xk else z.kids }
noncomputable def moveM (ns : List NodeM) (from' dst : Int) : List NodeM × Bool :=
  if (0 ≤ from' ∧ from' < ns.length) ∧ holdB ns dst = true ∧ (((ns[from'.toNat]?).map (·.kids)).getD []) ≠ [] ∧ withinP ns dst from' = false then
    (moveAt ns from'.toNat dst.toNat (((ns[from'.toNat]?).map (·.kids)).getD []) (((ns[dst.toNat]?).map (·.kids)).getD []), true)
  else (ns, false)
theorem parsTo_get {ns : List NodeM} {ks : List Int} {p j : Nat} {z : NodeM} (h : ns[j]? = some z) : (parsTo ns ks p)[j]? = some (if (j : Int) ∈ ks then { z with parent := (p : Int) } else z) := by
  unfold parsTo; rw [List.getElem?_mapIdx, h]; rfl
theorem parsTo_len {ns : List NodeM} {ks : List Int} {p : Nat} : (parsTo ns ks p).length = ns.length := by unfold parsTo; simp
theorem parsTo_nil {ns : List NodeM} {p : Nat} : parsTo ns [] p = ns := by
  unfold parsTo
  refine List.ext_getElem? fun j => ?_
  rw [List.getElem?_mapIdx]
  cases ns[j]? <;> simp
theorem parsTo_step {ns : List NodeM} {ks : List Int} {p j : Nat} {z : NodeM} (h : ns[j]? = some z) (hno : (j : Int) ∉ ks) : (parsTo ns ks p).set j { z with parent := (p : Int) } = parsTo ns (ks ++ [(j : Int)]) p := by
  refine List.ext_getElem? fun m => ?_
  have hj := getI h
  by_cases e : j = m
  · subst e
    rw [List.getElem?_set_self (by rw [parsTo_len]; exact hj), parsTo_get h, if_pos (by simp)]
  · rw [List.getElem?_set_ne e]
    cases hm : ns[m]? with
    | none =>
      unfold parsTo
      rw [List.getElem?_mapIdx, List.getElem?_mapIdx, hm]
      rfl
    | some w =>
      rw [parsTo_get hm, parsTo_get hm]
      have : ((m : Int) ∈ ks ++ [(j : Int)]) ↔ (m : Int) ∈ ks := by
        rw [List.mem_append, List.mem_singleton]
        exact ⟨fun h => h.resolve_right (by omega), .inl⟩
      simp only [this]
theorem moveAt_get {ns : List NodeM} {i p j : Nat} {xk yk : List Int} {z : NodeM} (h : ns[j]? = some z) : (moveAt ns i p xk yk)[j]? = some { z with parent := if (j : Int) ∈ xk then (p : Int) else z.parent, kids := if j = i then [] else if j = p then yk ++ xk else z.kids } := by
  unfold moveAt; rw [List.getElem?_mapIdx, h]; rfl
theorem moveAt_len {ns : List NodeM} {i p : Nat} {xk yk : List Int} : (moveAt ns i p xk yk).length = ns.length := by unfold moveAt; simp
theorem moveAt_inv {ns : List NodeM} {i p j : Nat} {xk yk : List Int} {w : NodeM} (h : (moveAt ns i p xk yk)[j]? = some w) : ∃ z, ns[j]? = some z ∧ w = { z with parent := if (j : Int) ∈ xk then (p : Int) else z.parent, kids := if j = i then [] else if j = p then yk ++ xk else z.kids } := by
  have hl := getI h
  rw [moveAt_len] at hl
  have hz : ns[j]? = some ns[j] := List.getElem?_eq_getElem hl
  rw [moveAt_get hz] at h
  exact ⟨_, hz, (Option.some.inj h).symm⟩
theorem shiftR_le {ns : List NodeM} {i m j : Nat} {rk : Nat → Nat} : shiftR ns i m rk j ≤ rk j + m := by
  unfold shiftR
  rcases Classical.em (InC ns (j : Int) (i : Int)) with h | h
  · rw [if_pos h]; exact Nat.le_refl _
  · rw [if_neg h]; exact Nat.le_add_right _ _
theorem GoodT.move {ns : List NodeM} (G : GoodT ns) {i p : Nat} {x y : NodeM} (hx : ns[i]? = some x) (hy : ns[p]? = some y) (hno : ¬ InC ns (p : Int) (i : Int)) : GoodT (moveAt ns i p x.kids y.kids) := by
  have hi := getI hx
  have hpl := getI hy
  have hne : i ≠ p := fun e => hno (by rw [← e]; exact inC_step.2 (.inl rfl))
  have kin : ∀ (m : Nat) w, ns[m]? = some w → ((m : Int) ∈ x.kids ↔ w.parent = (i : Int)) := fun m w hw => by
    rw [G.kid i x _ hx]
    refine ⟨fun ⟨q, v, e, hv, hq⟩ => ?_, fun h => ⟨m, w, rfl, hw, h⟩⟩
    have : q = m := by omega
    subst this
    rw [hw] at hv; cases hv
    exact hq
  have keyN : ∀ (j : Nat) (k : Int), j ≠ i → j ≠ p → ((∃ (m : Nat) (w : NodeM), k = (m : Int) ∧ ns[m]? = some w ∧ w.parent = (j : Int)) ↔ ∃ (m : Nat) (w : NodeM), k = (m : Int) ∧ (moveAt ns i p x.kids y.kids)[m]? = some w ∧ w.parent = (j : Int)) := fun j k hji hjp => by
    constructor
    · rintro ⟨m, w, rfl, hw, hq⟩
      refine ⟨m, _, rfl, moveAt_get hw, ?_⟩
      show (if (m : Int) ∈ x.kids then (p : Int) else w.parent) = _
      rw [if_neg (fun h => by have := (kin m w hw).1 h; omega)]; exact hq
    · rintro ⟨m, w, rfl, hw, hq⟩
      obtain ⟨z, hz, rfl⟩ := moveAt_inv hw
      have hq : (if (m : Int) ∈ x.kids then (p : Int) else z.parent) = (j : Int) := hq
      by_cases hm : (m : Int) ∈ x.kids
      · rw [if_pos hm] at hq; omega
      · rw [if_neg hm] at hq; exact ⟨m, z, rfl, hz, hq⟩
  refine ⟨fun j z hz => ?_, fun j z k hz => ?_, fun j z hz => ?_, ?_, ?_⟩
  · rw [moveAt_len]
    obtain ⟨w, hw, rfl⟩ := moveAt_inv hz
    show (if (j : Int) ∈ x.kids then (p : Int) else w.parent) = -1 ∨ (0 ≤ (if (j : Int) ∈ x.kids then (p : Int) else w.parent) ∧ (if (j : Int) ∈ x.kids then (p : Int) else w.parent) < _)
    by_cases hm : (j : Int) ∈ x.kids
    · rw [if_pos hm]; right; omega
    · rw [if_neg hm]; exact G.par j w hw
  · obtain ⟨w, hw, rfl⟩ := moveAt_inv hz
    show k ∈ (if j = i then [] else if j = p then y.kids ++ x.kids else w.kids) ↔ _
    by_cases e : j = i
    · rw [if_pos e]
      refine ⟨fun h => (by cases h), ?_⟩
      rintro ⟨m, v, rfl, hv, hq⟩
      obtain ⟨u, hu, rfl⟩ := moveAt_inv hv
      have hq : (if (m : Int) ∈ x.kids then (p : Int) else u.parent) = (j : Int) := hq
      by_cases hm : (m : Int) ∈ x.kids
      · rw [if_pos hm] at hq; omega
      · rw [if_neg hm] at hq
        exact absurd ((kin m u hu).2 (by omega)) hm
    · rw [if_neg e]
      by_cases e2 : j = p
      · rw [if_pos e2]
        subst e2
        rw [hy] at hw; cases hw
        rw [List.mem_append, G.kid j _ k hy, G.kid i _ k hx]
        constructor
        · rintro (⟨m, v, rfl, hv, hq⟩ | ⟨m, v, rfl, hv, hq⟩)
          · refine ⟨m, _, rfl, moveAt_get hv, ?_⟩
            show (if (m : Int) ∈ x.kids then (j : Int) else v.parent) = _
            rw [if_neg (fun h => by have := (kin m v hv).1 h; omega)]; exact hq
          · refine ⟨m, _, rfl, moveAt_get hv, ?_⟩
            show (if (m : Int) ∈ x.kids then (j : Int) else v.parent) = _
            rw [if_pos ((kin m v hv).2 hq)]
        · rintro ⟨m, v, rfl, hv, hq⟩
          obtain ⟨u, hu, rfl⟩ := moveAt_inv hv
          have hq : (if (m : Int) ∈ x.kids then (j : Int) else u.parent) = (j : Int) := hq
          by_cases hm : (m : Int) ∈ x.kids
          · exact .inr ⟨m, u, rfl, hu, (kin m u hu).1 hm⟩
          · rw [if_neg hm] at hq; exact .inl ⟨m, u, rfl, hu, hq⟩
      · rw [if_neg e2, G.kid j w k hw]
        exact keyN j k e e2
  · obtain ⟨w, hw, rfl⟩ := moveAt_inv hz
    show (if j = i then [] else if j = p then y.kids ++ x.kids else w.kids).Nodup
    by_cases e : j = i
    · rw [if_pos e]; exact List.nodup_nil
    · rw [if_neg e]
      by_cases e2 : j = p
      · rw [if_pos e2]
        refine List.nodup_append.2 ⟨G.nodup p y hy, G.nodup i x hx, fun a ha b hb e3 => ?_⟩
        subst e3
        obtain ⟨m, v, rfl, hv, hq⟩ := (G.kid p y a hy).1 ha
        have := (kin m v hv).1 hb
        omega
      · rw [if_neg e2]; exact G.nodup j w hw
  · obtain ⟨rk, hr⟩ := G.rank
    refine ⟨shiftR ns i (rk p + 1) rk, fun j q z hz hq => ?_⟩
    obtain ⟨w, hw, rfl⟩ := moveAt_inv hz
    have hq : (if (j : Int) ∈ x.kids then (p : Int) else w.parent) = (q : Int) := hq
    by_cases hm : (j : Int) ∈ x.kids
    · rw [if_pos hm] at hq
      have e1 : q = p := by omega
      have hji : InC ns (j : Int) (i : Int) := inC_step.2 (.inr (by rw [parI_some hw, (kin j w hw).1 hm]; exact inC_step.2 (.inl rfl)))
      rw [e1, shiftR_out hno, shiftR_in hji]; omega
    · rw [if_neg hm] at hq
      have hlt := hr j q w hw hq
      by_cases hj : InC ns (j : Int) (i : Int)
      · rw [shiftR_in hj]
        have := shiftR_le (ns := ns) (i := i) (m := rk p + 1) (j := q) (rk := rk)
        omega
      · have hq2 : ¬ InC ns (q : Int) (i : Int) := fun h => hj (inC_step.2 (.inr (by rw [parI_some hw, hq]; exact h)))
        rw [shiftR_out hj, shiftR_out hq2]; exact hlt
  · obtain ⟨r, hr, hp0⟩ := G.root
    refine ⟨_, moveAt_get hr, ?_⟩
    show (if ((0 : Nat) : Int) ∈ x.kids then (p : Int) else r.parent) = -1
    rw [if_neg (fun h => by have := (kin 0 r hr).1 h; omega)]; exact hp0
theorem GoodT.moveM {ns : List NodeM} (G : GoodT ns) (f dst : Int) : GoodT (Go.Proofs.moveM ns f dst).1 := by
  unfold Go.Proofs.moveM
  by_cases hc : (0 ≤ f ∧ f < ns.length) ∧ holdB ns dst = true ∧ (((ns[f.toNat]?).map (·.kids)).getD []) ≠ [] ∧ withinP ns dst f = false
  · rw [if_pos hc]
    obtain ⟨hf, hh, hk, hw⟩ := hc
    obtain ⟨p, y, ep, hy, _⟩ := holdB_nat hh
    obtain ⟨i, ei⟩ := Int.eq_ofNat_of_zero_le hf.1
    have ei : f = (i : Int) := ei
    have hil : i < ns.length := by omega
    have hx : ns[i]? = some ns[i] := List.getElem?_eq_getElem hil
    have hnw : ¬ InC ns dst f := fun hh => by
      unfold withinP at hw
      rw [@decide_eq_true (InC ns dst f) (Classical.propDecidable _) hh] at hw; cases hw
    have e1 : f.toNat = i := by rw [ei]; exact Int.toNat_natCast i
    have e2 : dst.toNat = p := by rw [ep]; exact Int.toNat_natCast p
    show GoodT (moveAt ns f.toNat dst.toNat (((ns[f.toNat]?).map (·.kids)).getD []) (((ns[dst.toNat]?).map (·.kids)).getD []))
    rw [e1, e2, hx, hy]
    exact G.move hx hy (by rw [← ei, ← ep]; exact hnw)
  · rw [if_neg hc]; exact G
end Go.Proofs
