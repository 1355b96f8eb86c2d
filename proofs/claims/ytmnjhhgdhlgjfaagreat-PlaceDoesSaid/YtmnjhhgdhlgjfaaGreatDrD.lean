/- dom: the chapter's tree: Cut, Put, Kids. No condition but that the tree is one. -/
import Derived.Test.YtmnjhhgdhlgjfaaGreatDrA
namespace Go.Proofs
open Go Go.Sh
set_option linter.unusedVariables false
set_option maxRecDepth 100000
theorem grow_kb {h h' : H} (k : KB h h') (b : Option Addr) : Grow h h' b := ⟨k.1, fun q hq _ => k.2 q hq⟩
theorem hold_nat {ns : List NodeM} {p : Nat} {y : NodeM} (hy : ns[p]? = some y) : holdB ns (p : Int) = decide (p = 0 ∨ y.kind = 1) := by
  have := getI hy
  unfold holdB
  rw [Int.toNat_natCast, hy, decide_eq_true (show 0 ≤ (p : Int) ∧ (p : Int) < ns.length by omega)]
  show decide _ = decide _
  congr 1
  exact propext ⟨fun h => h.imp (fun h => by omega) (fun h => h), fun h => h.imp (fun h => by omega) (fun h => h)⟩
section
variable {h h' : H} {K : Value → H → Prop} {col col' : Col} {s i p : Nat} {t a : Addr} {ns : List NodeM} {x y : NodeM} {lb : Option Addr} {lc : Nat} {rs : List RawN} {r : RawN}
theorem cut_r (T : RefP h col s t ns) (G : GoodT ns) {id : Int} (hk : ∀ h' col', RefP h' col' s t (cutM ns id).1 → Ext s h col h' col' → K (.bool (cutM ns id).2) h') :
    HCalls Tryz.prog 70 ⟨[.pointer (some t), .int .i64 id]⟩ h K := by
  refine Sx.r10_Tree_Cut.ok _ _ _ _ (there_r T (vBool_mk (condB (fun e => ?_) fun e => ?_)))
  · have e := of_decide_eq_true e
    obtain ⟨i, rfl⟩ := Int.eq_ofNat_of_zero_le e.1
    have hk : ∀ h' col', RefP h' col' s t (cutM ns (i : Int)).1 → Ext s h col h' col' → K (.bool (cutM ns (i : Int)).2) h' := hk
    have hx : ns[i]? = some (ns[i]'(by omega)) := List.getElem?_eq_getElem (by omega)
    generalize ns[i]'(by omega) = x at hx
    have ec : cutM ns (i : Int) = if x.parent < 0 then (ns, false) else match ns[x.parent.toNat]? with | none => (ns, false) | some y => (cutAt ns i x x.parent.toNat y, true) := by
      unfold cutM
      rw [if_pos e, Int.toNat_natCast, hx]
      rfl
    have hfew := T.few
    have T0 := T
    obtain ⟨lb, lc, rs, C, em⟩ := T
    obtain ⟨r, hr, rfl⟩ := map_get em hx
    refine rf_rd C hr fun a hc => ⟨_, hc 6 _ rfl, spl (fun e2 => ?_) fun e2 => rf_rd C hr fun a hc => ⟨_, hc 6 _ rfl, ?_⟩⟩
    · rw [ec, if_pos e2] at hk
      exact hk h col T0 (Ext.refl _ _ _)
    · rcases G.par i _ hx with h1 | ⟨h1, h2⟩
      · omega
      obtain ⟨p, hp⟩ := Int.eq_ofNat_of_zero_le h1
      have hp : r.x.parent = (p : Int) := hp
      have hpl : p < ns.length := by omega
      have hy : ns[p]? = some ns[p] := List.getElem?_eq_getElem hpl
      generalize ns[p] = y at hy
      rw [ec, if_neg e2, hp, Int.toNat_natCast, hy] at hk
      have hne := G.ne_par hx hp
      have hmem : (i : Int) ∈ y.kids := (G.kid p _ _ hy).2 ⟨i, _, rfl, hx, hp⟩
      have hil := idxN_lt hmem
      have hyf := G.few hy
      obtain ⟨q, hq, rfl⟩ := map_get em hy
      have Np := C.nodes p q hq
      have hkl := Np.ok.len
      have hkc := Np.ok.own.cap
      rw [hp]
      refine place_r T0 hy (vIntMk (rf_rd C hq fun a2 hc2 => ⟨_, _, _, hc2 7 _ rfl, ?_⟩))
      rw [plc_kid hmem]
      have rk := Np.ok.row (A := Bel h.size) Np.ok.hi
      refine ⟨by omega, app_new apdInt (KB.refl h) (OwnF.none _ _ _) (rk.sub (lo := 0) (hi := idxN (i : Int) q.x.kids) (z := 1) (by omega) (by omega) rfl) (by omega) (by decide) fun b3 c3 h3 o3 k3 => vSliceMk (rf_rd (C.kb k3) hq fun a3 hc3 => ⟨_, _, _, hc3 7 _ rfl, ?_⟩)⟩
      have ei : ((idxN (i : Int) q.x.kids : Int) + 1) = ((idxN (i : Int) q.x.kids + 1 : Nat) : Int) := by omega
      rw [ei]
      refine ⟨rngI (by omega) (by omega), by omega, app_new apdInt k3 o3 ((rk.kb k3).sub (lo := idxN (i : Int) q.x.kids + 1) (hi := q.kn) (z := 1) (by omega) (by omega) rfl) (by omega) (by decide) fun b4 c4 h4 o4 k4 => vSliceMk (vSomeMk ⟨_, _, _, (C.kb k4).v.cell 0 rfl, ?_⟩)⟩
      have el : ([] ++ (q.x.kids.take (idxN (i : Int) q.x.kids)).drop 0) ++ (q.x.kids.take q.kn).drop (idxN (i : Int) q.x.kids + 1) = q.x.kids.eraseIdx (idxN (i : Int) q.x.kids) := by
        rw [List.nil_append, List.drop_zero, List.take_of_length_le (l := q.x.kids) (i := q.kn) (by omega), List.eraseIdx_eq_take_drop_succ]
      rw [el] at o4
      refine ref_kids C hq (grow_kb k4 _) (ownI_of o4) (fun z ez => .inr (o4.lo z ez)) fun h5 col5 C5 E5 _ => ?_
      exact ref_par ⟨_, _, _, C5, map_set em⟩ (by rw [List.getElem?_set_ne (Ne.symm hne)]; exact hx) ⟨by decide, by decide⟩ fun h6 T6 E6 _ => hk h6 col5 T6 (E5.trans E6)
  · have e := of_decide_eq_false e
    have : cutM ns id = (ns, false) := by unfold cutM; rw [if_neg e]
    rw [this] at hk
    exact hk h col T (Ext.refl _ _ _)
theorem put_r (T : RefP h col s t ns) (G : GoodT ns) {parent before id : Int} (hk : ∀ h' col', RefP h' col' s t (putM ns parent before id).1 → Ext s h col h' col' → K (.bool (putM ns parent before id).2) h') :
    HCalls Tryz.prog 34 ⟨[.pointer (some t), .int .i64 parent, .int .i64 before, .int .i64 id]⟩ h K := by
  have no : ¬ (holdB ns parent = true ∧ (0 ≤ id ∧ id < ns.length) ∧ id ≠ 0 ∧ before ≠ id ∧ 0 ≤ plcP (((ns[parent.toNat]?).map (·.kids)).getD []) before ∧ withinP ns parent id = false) → K (.bool false) h := fun hn => by
    have : putM ns parent before id = (ns, false) := by unfold putM; rw [if_neg hn]
    rw [this] at hk
    exact hk h col T (Ext.refl _ _ _)
  refine Sx.r10_Tree_Put.ok _ _ _ _ _ _ (holds_r T (vBool_mk (condB (fun hh => ?_) fun hh => there_r T (vBool_mk (condB (fun _ => no fun hy => by rw [hh] at hy; cases hy.1) fun _ => no fun hy => by rw [hh] at hy; cases hy.1)))))
  refine there_r T (vBool_mk (condB (fun hid => ?_) fun hid => no fun hy => of_decide_eq_false hid hy.2.1))
  have hid := of_decide_eq_true hid
  obtain ⟨p, y, ep, hy, hor⟩ := holdB_nat hh
  obtain ⟨i, ei⟩ := Int.eq_ofNat_of_zero_le hid.1
  have ei : id = (i : Int) := ei
  have hpl := getI hy
  have hx : ns[i]? = some (ns[i]'(by omega)) := List.getElem?_eq_getElem (by omega)
  generalize ns[i]'(by omega) = x at hx
  have ekids : (((ns[parent.toNat]?).map (·.kids)).getD []) = y.kids := by rw [ep, Int.toNat_natCast, hy]; rfl
  refine spl (fun e => no (fun hh => hh.2.2.1 e)) fun h0 => spl (fun e => no (fun hh => hh.2.2.2.1 e)) fun hb => within_r T G (by omega) (vBool_mk (condB (fun e => no (fun hh => by rw [e] at hh; cases hh.2.2.2.2.2)) fun hw => ?_))
  rw [ep]
  refine condF (place_r T hy (vIntMk (spl (fun e => no (fun hh => by have := hh.2.2.2.2.1; rw [ekids] at this; omega)) fun hplc => ?_)))
  have hyes : holdB ns parent = true ∧ (0 ≤ id ∧ id < ns.length) ∧ id ≠ 0 ∧ before ≠ id ∧ 0 ≤ plcP (((ns[parent.toNat]?).map (·.kids)).getD []) before ∧ withinP ns parent id = false :=
    ⟨hh, hid, h0, hb, by rw [ekids]; omega, hw⟩
  have epm : putM ns parent before id = (putAt (cutM ns id).1 parent.toNat before id.toNat, true) := by unfold putM; rw [if_pos hyes]
  rw [epm, ep, ei, Int.toNat_natCast, Int.toNat_natCast, ← ei] at hk
  have G1 := G.cutM id
  obtain ⟨y1, hy1, _, _, _, _, _, hmem, _, _⟩ := cutM_get G (id := id) hy
  obtain ⟨x1, hx1, _, _, _, _, _, _, _, _⟩ := cutM_get G (id := id) hx
  have hnw : ¬ InC ns parent id := fun hh => by
    unfold withinP at hw
    rw [@decide_eq_true (InC ns parent id) (Classical.propDecidable _) hh] at hw; cases hw
  have hne : i ≠ p := fun e => hnw (by rw [ep, ei, ← e]; exact inC_step.2 (.inl rfl))
  obtain ⟨hp1, hp2⟩ := plc_nn hmem hb (by omega)
  obtain ⟨k, hkk⟩ := Int.eq_ofNat_of_zero_le hp1
  have hkk : plcP y1.kids before = (k : Int) := hkk
  have hres : putAt (cutM ns id).1 p before i = (((cutM ns id).1.set p { y1 with kids := y1.kids.take k ++ (i : Int) :: y1.kids.drop k }).set i { x1 with parent := (p : Int) }) := by
    unfold putAt
    rw [hy1]
    dsimp only
    rw [hkk, Int.toNat_natCast, List.getElem?_set_ne (Ne.symm hne), hx1]
  rw [hres] at hk
  have tail : ∀ h2 col2, RefP h2 col2 s t (cutM ns id).1 → Ext s h col h2 col2 → Sx.r10_Tree_Put.n8 (some t) (p : Int) before id (fun y8 h => K (.bool y8) h) (fun y8 h => K (.bool y8) h) h2 := by
    intro h2 col2 T2 E2
    have hyf := G1.few hy1
    have hf2 := T2.few
    have T20 := T2
    obtain ⟨lb, lc, rs, C, em⟩ := T2
    obtain ⟨q, hq, rfl⟩ := map_get em hy1
    have Np := C.nodes p q hq
    have hkl := Np.ok.len
    have hkc := Np.ok.own.cap
    have rk := Np.ok.row (A := Bel h2.size) Np.ok.hi
    have hri := getI hx1
    have hrp := getI hy1
    refine place_r T20 hy1 (vIntMk (rf_rd C hq fun a2 hc2 => ⟨_, _, _, hc2 7 _ rfl, ?_⟩))
    rw [hkk, ei]
    refine ⟨by omega, app_new apdInt (KB.refl h2) (OwnF.none _ _ _) (rk.sub (lo := 0) (hi := k) (z := 1) (by omega) (by omega) rfl) (by omega) (by decide) fun b3 c3 h3 o3 k3 => vSliceMk ?_⟩
    refine one_app apdInt (x := (i : Int)) (fun A h => ⟨rfl, rngI (by omega) (by omega)⟩) o3 k3.1 (by simp only [maxLen]; omega) (by omega) fun b4 c4 h4 o4 k4 => vSliceMk ?_
    have k24 : KB h2 h4 := ⟨Nat.le_trans k3.1 k4.1, fun q hq => (k4.2 q hq).trans (k3.2 q hq)⟩
    refine rf_rd (C.kb k24) hq fun a3 hc3 => ⟨_, _, _, hc3 7 _ rfl, by omega, app_new apdInt k24 o4 ((rk.kb k24).sub (lo := k) (hi := q.kn) (z := 1) (by omega) (by omega) rfl) (by omega) (by decide) fun b5 c5 h5 o5 k5 => vSliceMk (vSomeMk ⟨_, _, _, (C.kb k5).v.cell 0 rfl, ?_⟩)⟩
    have el : (([] ++ (q.x.kids.take k).drop 0) ++ [(i : Int)]) ++ (q.x.kids.take q.kn).drop k = q.x.kids.take k ++ (i : Int) :: q.x.kids.drop k := by
      rw [List.nil_append, List.drop_zero, List.take_of_length_le (l := q.x.kids) (i := q.kn) (by omega), List.append_assoc]; rfl
    rw [el] at o5
    refine ref_kids C hq (grow_kb k5 _) (ownI_of o5) (fun z ez => .inr (o5.lo z ez)) fun h6 col6 C6 E6 _ => ?_
    exact ref_par ⟨_, _, _, C6, map_set em⟩ (by rw [List.getElem?_set_ne (Ne.symm hne)]; exact hx1) (rngI (by omega) (by omega)) fun h7 T7 E7 _ => hk h7 col6 T7 ((E2.trans E6).trans E7)
  exact cut_r T G fun h2 col2 T2 E2 => vBool_mk (condB (fun _ => tail h2 col2 T2 E2) fun _ => tail h2 col2 T2 E2)
end
end Go.Proofs
