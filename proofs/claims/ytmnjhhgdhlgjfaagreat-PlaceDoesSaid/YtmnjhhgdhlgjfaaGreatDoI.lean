/- dom: Put. No condition but that the tree is one. dom: trees stay trees; Write, Kids. No condition but that the tree is one. dom: Move. No condition but that the tree is one. -/
import Derived.Test.YtmnjhhgdhlgjfaaGreatDoG
namespace Go.Proofs
open Go Go.Sh
set_option linter.unusedVariables false
set_option maxRecDepth 100000
theorem plc_nn {kids kids' : List Int} {b id : Int} (hm : ∀ k, k ∈ kids' ↔ k ∈ kids ∧ k ≠ id) (hb : b ≠ id) (h : 0 ≤ plcP kids b) : 0 ≤ plcP kids' b ∧ plcP kids' b ≤ kids'.length := by
  unfold plcP idxP at h ⊢
  by_cases e : b = -1
  · rw [if_pos e]; omega
  · rw [if_neg e] at h ⊢
    by_cases hk : b ∈ kids
    · have h2 := (hm b).2 ⟨hk, hb⟩
      rw [if_pos h2]
      have := idxN_lt h2
      omega
    · rw [if_neg hk] at h; omega
section
variable {h : H} {K : Value → H → Prop} {col : Col} {s i p : Nat} {t a : Addr} {ads : List Addr} {ns : List NodeM} {x y : NodeM}
/-- the end of Put: a kid goes into the row of kids -/
theorem put_tail (T : TreeP h col s t ads ns) (G : GoodT ns) {ai ap av : Addr} (ha : ads[i]? = some ai) (hx : ns[i]? = some x) (hap : ads[p]? = some ap) (hy : ns[p]? = some y) (hne : i ≠ p) {ab kb : Option Addr} {an ac kn kc : Nat}
    (v : Var h ap 84 (nodeC y ab an ac kb kn kc)) (ra : Row elAttr (Free col h) h ab an ac y.attrs) (hz : ab = none → ac = 0) (ok : OwnI h kb kn kc y.kids) (hkc : ∀ q, kb = some q → col q.block = some (s, 2 * p + 3))
    (vv : Var h av 3 [.int .i64 (i : Int)]) (hav : col av.block = none) {k : Nat} (hk0 : k ≤ y.kids.length)
    {Q : H → Prop} (hk : ∀ h' col', TreeP h' col' s t ads ((ns.set p { y with kids := y.kids.take k ++ (i : Int) :: y.kids.drop k }).set i { x with parent := (p : Int) }) → Ext s h col h' col' → Q h') :
    HCalls Tryz.prog 60 ⟨[.slice kb kn kc, .int .i64 (k : Int), .slice (some av) 1 1]⟩ h fun v72 h73 => vSlice v72 fun b n c => vSome (some ap) fun a75 => stL (a75.add 7) [(.slice b n c)] 0 h73 fun h76 => vSome (some ai) fun a77 => stL (a77.add 6) [(.int .i64 (p : Int))] 0 h76 fun h78 => Q h78 := by
  have hkl := ok.len
  have hfew := G.few hy
  have hf := T.few
  have hil := getI hx
  refine insI_calls ok (by omega) vv (fun q e e2 => by have := hkc q e; rw [e2, hav] at this; cases this) (rngI (by omega) (by omega)) (by omega) fun b' c' h3 o3 g3 nb => vSliceMk (vSomeMk (stKidsG T hap hy v ra hz hkc g3 o3 nb fun h4 col4 T4 E4 => vSomeMk ?_))
  exact stPar T4 ha (by rw [List.getElem?_set_ne (Ne.symm hne)]; exact hx) (rngI (by have := getI hy; omega) (by have := getI hy; omega)) fun h5 T5 E5 _ => hk h5 col4 T5 (E4.trans E5)
theorem put_calls (T : TreeP h col s t ads ns) (G : GoodT ns) {parent before id : Int} (hk : ∀ h' col', TreeP h' col' s t ads (putM ns parent before id).1 → Ext s h col h' col' → K (.bool (putM ns parent before id).2) h') :
    HCalls Tryz.prog 30 ⟨[.pointer (some t), .int .i64 parent, .int .i64 before, .int .i64 id]⟩ h K := by
  have hlen := T.len
  have no : ¬ (holdB ns parent = true ∧ (0 ≤ id ∧ id < ns.length) ∧ id ≠ 0 ∧ before ≠ id ∧ 0 ≤ plcP (((ns[parent.toNat]?).map (·.kids)).getD []) before ∧ withinP ns parent id = false) → ∀ h', KB h h' → K (.bool false) h' := fun hn h' k => by
    have : putM ns parent before id = (ns, false) := by unfold putM; rw [if_neg hn]
    rw [this] at hk
    exact hk h' col (T.kb k) (Ext.kb k)
  have hold_of : ∀ (p : Nat) y, parent = (p : Int) → ns[p]? = some y → holdB ns parent = decide (p = 0 ∨ y.kind = 1) := fun p y e hy => by
    have := getI hy
    unfold holdB
    rw [e, Int.toNat_natCast, hy, decide_eq_true (show 0 ≤ (p : Int) ∧ (p : Int) < ns.length by omega)]
    show decide _ = decide _
    congr 1
    exact propext ⟨fun h => h.imp (fun h => by omega) (fun h => h), fun h => h.imp (fun h => by omega) (fun h => h)⟩
  refine Sx.dom_Tree_Put.ok _ _ _ _ _ _ (holder_calls T (fun hn => vPtrMk ?_) fun p ap y ep hy hap hor => vPtrMk ?_)
  · have hh : ¬ holdB ns parent = true := fun hb => by
      unfold holdB at hb
      rw [Bool.and_eq_true] at hb
      have h1 := of_decide_eq_true hb.1
      obtain ⟨p, rfl⟩ := Int.eq_ofNat_of_zero_le h1.1
      have hy : ns[p]? = some ns[p] := List.getElem?_eq_getElem (by omega)
      have h2 := hb.2
      rw [Int.toNat_natCast, hy] at h2
      refine hn ⟨p, ns[p], rfl, hy, ?_⟩
      have h2 := of_decide_eq_true h2
      exact h2.imp (fun h => by omega) (fun h => h)
    refine at_calls T (fun hn2 => vPtrMk (ptrEq_k (by kernel_rfl) (vBool_mk (condT (no (fun hh2 => hh hh2.1) h (KB.refl h)))))) fun i a x e hx ha => vPtrMk (ptrEq_k (by kernel_rfl) (vBool_mk (condT (no (fun hh2 => hh hh2.1) h (KB.refl h)))))
  · refine at_calls T (fun hn2 => vPtrMk (ptrEq_k (by kernel_rfl) (vBool_mk (condF (ptrEq_k (by kernel_rfl) (vBool_mk (condT (no (fun hh => hn2 hh.2.1) h (KB.refl h))))))))) fun i ai x ei hx hai => vPtrMk (ptrEq_k (by kernel_rfl) (vBool_mk (condF (ptrEq_k (by kernel_rfl) (vBool_mk (condF ?_))))))
    have hpl := getI hy
    have hil := getI hx
    have Np := T.nodes p y ap hy hap
    have ekids : (((ns[parent.toNat]?).map (·.kids)).getD []) = y.kids := by rw [ep, Int.toNat_natCast, hy]; rfl
    rw [ekids] at no
    refine spl (fun e => no (fun hh => hh.2.2.1 e) h (KB.refl h)) fun h0 => spl (fun e => no (fun hh => hh.2.2.2.1 e) h (KB.refl h)) fun hb => index_calls Np (vIntMk (spl (fun e => no (fun hh => by have := hh.2.2.2.2.1; omega) h (KB.refl h)) fun hplc => within_calls T G (by omega) fun h1 k1 => vBool_mk (condB (fun e => no (fun hh => by rw [e] at hh; cases hh.2.2.2.2.2) h1 k1) fun hw => ?_)))
    have T1 := T.kb k1
    have hyes : holdB ns parent = true ∧ (0 ≤ id ∧ id < ns.length) ∧ id ≠ 0 ∧ before ≠ id ∧ 0 ≤ plcP (((ns[parent.toNat]?).map (·.kids)).getD []) before ∧ withinP ns parent id = false :=
      ⟨by rw [hold_of p y ep hy]; exact decide_eq_true hor, by omega, h0, hb, by rw [ekids]; omega, hw⟩
    have epm : putM ns parent before id = (putAt (cutM ns id).1 parent.toNat before id.toNat, true) := by unfold putM; rw [if_pos hyes]
    rw [epm, ep, ei, Int.toNat_natCast, Int.toNat_natCast, ← ei] at hk
    -- what Cut leaves
    have G1 := G.cutM id
    obtain ⟨y1, hy1, _, _, _, _, _, hmem, _, _⟩ := cutM_get G (id := id) hy
    obtain ⟨x1, hx1, _, _, _, _, _, _, _, _⟩ := cutM_get G (id := id) hx
    have hnw : ¬ InC ns parent id := fun hh => by
      unfold withinP at hw
      rw [@decide_eq_true (InC ns parent id) (Classical.propDecidable _) hh] at hw; cases hw
    have hne : i ≠ p := fun e => hnw (by rw [ep, ei, ← e]; exact inC_step.2 (.inl rfl))
    obtain ⟨hp1, hp2⟩ := plc_nn hmem hb (by omega)
    obtain ⟨k, hkk⟩ := Int.eq_ofNat_of_zero_le hp1
    have hkk : plcP y1.kids before = (k : Int) := hkk
    have hres : putAt (cutM ns id).1 p before i = (((cutM ns id).1.set p { y1 with kids := y1.kids.take k ++ (i : Int) :: y1.kids.drop k }).set i { x1 with parent := (p : Int) }) := by
      unfold putAt
      rw [hy1]
      dsimp only
      rw [hkk, Int.toNat_natCast, List.getElem?_set_ne (Ne.symm hne), hx1]
    rw [hres] at hk
    have tailA : ∀ h2 col2, TreeP h2 col2 s t ads (cutM ns id).1 → Ext s h col h2 col2 → Sx.dom_Tree_Put.n5 parent before id (some ap) (some ai) (fun y8 h => K (.bool y8) h) (fun y8 h => K (.bool y8) h) h2 := by
      intro h2 col2 T2 E2
      have N2 := T2.nodes p y1 ap hy1 hap
      obtain ⟨ab, an, ac, kb, kn, kc, v, ra, hz, ok, hkc⟩ := N2.ex
      refine ⟨vSomeMk ⟨_, _, _, v.cell 7 rfl, index_calls N2 (vIntMk ⟨ExtH.refl _, newx_var fun av h3 v3 k3 e3 s3 => ⟨k3.ext, ?_⟩⟩)⟩, vSomeMk ⟨_, _, _, v.cell 7 rfl, newx_var fun av h3 v3 k3 e3 s3 => ⟨k3.ext, index_calls ((T2.kb k3).nodes p y1 ap hy1 hap) (vIntMk ⟨ExtH.refl _, ?_⟩)⟩⟩⟩
      all_goals
        rw [hkk, ei] at *
        rw [ep]
        have T3 := T2.kb k3
        have fr : col2 av.block = none := T2.fresh _ (by omega)
        exact put_tail T3 G1 hai hx1 hap hy1 hne (v.kb k3) (ra.keep ((KB.w k3).less fun q hq => hq.2) fun q hq hs => ⟨hq.1, Nat.lt_of_lt_of_le hs k3.1⟩) hz (ok.keep (KB.w k3) fun q e => ok.hi q e) hkc v3 fr (by omega) fun h' col' T' E' => hk h' col' T' ((E2.trans (Ext.kb k3)).trans E')
    refine cut_calls T1 G fun h2 col2 T2 E2 => vBool_mk ?_
    have E02 : Ext s h col h2 col2 := (Ext.kb k1).trans E2
    exact condB (fun _ => tailA h2 col2 T2 E02) fun _ => tailA h2 col2 T2 E02
end
end Go.Proofs
namespace Go.Proofs
open Go Go.Sh
set_option linter.unusedVariables false
set_option maxRecDepth 100000
theorem holdB_nat {ns : List NodeM} {p : Int} (h : holdB ns p = true) : ∃ (q : Nat) (y : NodeM), p = (q : Int) ∧ ns[q]? = some y ∧ (q = 0 ∨ y.kind = 1) := by
  unfold holdB at h
  rw [Bool.and_eq_true] at h
  have h1 := of_decide_eq_true h.1
  obtain ⟨q, rfl⟩ := Int.eq_ofNat_of_zero_le h1.1
  have hy : ns[q]? = some ns[q] := List.getElem?_eq_getElem (by omega)
  have h2 := h.2
  rw [Int.toNat_natCast, hy] at h2
  have h2 := of_decide_eq_true h2
  exact ⟨q, ns[q], rfl, hy, h2.imp (fun h => by omega) (fun h => h)⟩
theorem GoodT.putM {ns : List NodeM} (G : GoodT ns) (parent before id : Int) : GoodT (Go.Proofs.putM ns parent before id).1 := by
  unfold Go.Proofs.putM
  by_cases hc : holdB ns parent = true ∧ (0 ≤ id ∧ id < ns.length) ∧ id ≠ 0 ∧ before ≠ id ∧ 0 ≤ plcP (((ns[parent.toNat]?).map (·.kids)).getD []) before ∧ withinP ns parent id = false
  · rw [if_pos hc]
    obtain ⟨hh, hid, h0, hb, hpl, hw⟩ := hc
    obtain ⟨p, y, ep, hy, _⟩ := holdB_nat hh
    obtain ⟨i, ei⟩ := Int.eq_ofNat_of_zero_le hid.1
    have ei : id = (i : Int) := ei
    have hil : i < ns.length := by omega
    have hx : ns[i]? = some ns[i] := List.getElem?_eq_getElem hil
    have ekids : (((ns[parent.toNat]?).map (·.kids)).getD []) = y.kids := by rw [ep, Int.toNat_natCast, hy]; rfl
    rw [ekids] at hpl
    have G1 := G.cutM id
    obtain ⟨y1, hy1, _, _, _, _, _, hmem, _, _⟩ := cutM_get G (id := id) hy
    obtain ⟨x1, hx1, _, _, _, _, _, _, hpar, _⟩ := cutM_get G (id := id) hx
    have hnw : ¬ InC ns parent id := fun hh => by
      unfold withinP at hw
      rw [@decide_eq_true (InC ns parent id) (Classical.propDecidable _) hh] at hw; cases hw
    have hne : i ≠ p := fun e => hnw (by rw [ep, ei, ← e]; exact inC_step.2 (.inl rfl))
    obtain ⟨hp1, hp2⟩ := plc_nn hmem hb hpl
    obtain ⟨k, hkk⟩ := Int.eq_ofNat_of_zero_le hp1
    have hkk : plcP y1.kids before = (k : Int) := hkk
    have hsame : ∀ j : Nat, (j : Int) ≠ id → parI (Go.Proofs.cutM ns id).1 j = parI ns j := fun j hj => by
      cases hz : ns[j]? with
      | none =>
        have h1 : (Go.Proofs.cutM ns id).1[j]? = none := by
          rw [List.getElem?_eq_none_iff, cutM_len ns G]
          exact List.getElem?_eq_none_iff.1 hz
        unfold parI
        rw [Int.toNat_natCast, h1, hz]
      | some z =>
        obtain ⟨z1, hz1, _, _, _, _, _, _, _, hp⟩ := cutM_get G (id := id) hz
        rw [parI_some hz1, parI_some hz]
        exact hp hj
    have hno : ¬ InC (Go.Proofs.cutM ns id).1 (p : Int) (i : Int) := fun ⟨f, hf⟩ => hnw (by
      rw [← ei, ← ep] at hf
      exact ⟨f, inC_same hsame f _ hf⟩)
    have hni : (i : Int) ∉ y1.kids := fun hm => ((hmem _).1 hm).2 ei.symm
    have hres : putAt (Go.Proofs.cutM ns id).1 parent.toNat before id.toNat = (((Go.Proofs.cutM ns id).1.set p { y1 with kids := y1.kids.take k ++ (i : Int) :: y1.kids.drop k }).set i { x1 with parent := (p : Int) }) := by
      have e1 : parent.toNat = p := by rw [ep]; exact Int.toNat_natCast p
      have e2 : id.toNat = i := by rw [ei]; exact Int.toNat_natCast i
      rw [e1, e2]
      unfold putAt
      rw [hy1]
      dsimp only
      rw [hkk, Int.toNat_natCast, List.getElem?_set_ne (Ne.symm hne), hx1]
    show GoodT (putAt (Go.Proofs.cutM ns id).1 parent.toNat before id.toNat)
    rw [hres]
    exact G1.put hx1 hy1 (hpar ei.symm) hne (by omega) hno (ins_nodup (G1.nodup p y1 hy1) hni) fun k' => ins_mem
  · rw [if_neg hc]; exact G
theorem GoodT.add {ns : List NodeM} (G : GoodT ns) {x : NodeM} (hp : x.parent = -1) (hk : x.kids = []) : GoodT (ns ++ [x]) := by
  have get : ∀ (j : Nat) z, (ns ++ [x])[j]? = some z → (j < ns.length ∧ ns[j]? = some z) ∨ (j = ns.length ∧ z = x) := fun j z hz => by
    by_cases h : j < ns.length
    · rw [List.getElem?_append_left h] at hz; exact .inl ⟨h, hz⟩
    · have hl := getI hz
      rw [List.length_append, List.length_singleton] at hl
      have e : j = ns.length := by omega
      rw [e, List.getElem?_append_right (Nat.le_refl _), Nat.sub_self] at hz
      simp at hz
      exact .inr ⟨e, hz.symm⟩
  have keyN : ∀ (j : Nat) (k : Int), (∃ (m : Nat) (w : NodeM), k = (m : Int) ∧ ns[m]? = some w ∧ w.parent = (j : Int)) ↔ ∃ (m : Nat) (w : NodeM), k = (m : Int) ∧ (ns ++ [x])[m]? = some w ∧ w.parent = (j : Int) := fun j k => by
    constructor
    · rintro ⟨m, w, rfl, hw, hq⟩
      exact ⟨m, w, rfl, by rw [List.getElem?_append_left (getI hw)]; exact hw, hq⟩
    · rintro ⟨m, w, rfl, hw, hq⟩
      rcases get m w hw with ⟨_, h⟩ | ⟨_, rfl⟩
      · exact ⟨m, w, rfl, h, hq⟩
      · rw [hp] at hq; omega
  refine ⟨fun j z hz => ?_, fun j z k hz => ?_, fun j z hz => ?_, ?_, ?_⟩
  · rw [List.length_append, List.length_singleton]
    rcases get j z hz with ⟨_, h⟩ | ⟨_, rfl⟩
    · rcases G.par j z h with h | h
      · exact .inl h
      · right; omega
    · exact .inl hp
  · rw [← keyN]
    rcases get j z hz with ⟨_, h⟩ | ⟨e, rfl⟩
    · exact G.kid j z k h
    · rw [hk]
      refine ⟨fun h => (by cases h), ?_⟩
      rintro ⟨m, w, rfl, hw, hq⟩
      rcases G.par m w hw with h | h <;> omega
  · rcases get j z hz with ⟨_, h⟩ | ⟨e, rfl⟩
    · exact G.nodup j z h
    · rw [hk]; exact List.nodup_nil
  · obtain ⟨rk, hr⟩ := G.rank
    refine ⟨rk, fun j q z hz hq => ?_⟩
    rcases get j z hz with ⟨_, h⟩ | ⟨_, rfl⟩
    · exact hr j q z h hq
    · rw [hp] at hq; omega
  · obtain ⟨r, hr, hp0⟩ := G.root
    exact ⟨r, by rw [List.getElem?_append_left (getI hr)]; exact hr, hp0⟩
theorem GoodT.addM {ns : List NodeM} (G : GoodT ns) (kd sp : Int) (nm : Bs) (at' : List AttrP) (tx : Bs) : GoodT (Go.Proofs.addM ns (bareM kd sp nm at' tx)).1 := by
  unfold bareM
  by_cases h1 : kd = 1
  · rw [if_pos h1]; exact G.add rfl rfl
  · rw [if_neg h1]
    by_cases h2 : kd = 2 ∨ kd = 3
    · rw [if_pos h2]; exact G.add rfl rfl
    · rw [if_neg h2]; exact G
theorem GoodT.copyM {ns : List NodeM} (G : GoodT ns) (id : Int) : GoodT (Go.Proofs.copyM ns id).1 := by
  unfold Go.Proofs.copyM
  by_cases h : 0 ≤ id ∧ id < ns.length
  · rw [if_pos h]
    cases hx : ns[id.toNat]? with
    | none => exact G
    | some x => exact G.addM _ _ _ _ _
  · rw [if_neg h]; exact G
theorem good_root : GoodT [rootM] := by
  have get : ∀ (j : Nat) z, [rootM][j]? = some z → j = 0 ∧ z = rootM := fun j z hz => by
    cases j with
    | zero => simp at hz; exact ⟨rfl, hz.symm⟩
    | succ j => simp at hz
  refine ⟨fun j z hz => ?_, fun j z k hz => ?_, fun j z hz => ?_, ⟨fun _ => 0, fun j q z hz hq => ?_⟩, rootM, rfl, rfl⟩
  · rw [(get j z hz).2]; exact .inl rfl
  · rw [(get j z hz).2]
    refine ⟨fun h => (by cases h), ?_⟩
    rintro ⟨m, w, rfl, hw, hq⟩
    rw [(get m w hw).2] at hq
    have : (-1 : Int) = (j : Int) := hq
    omega
  · rw [(get j z hz).2]; exact List.nodup_nil
  · rw [(get j z hz).2] at hq
    have : (-1 : Int) = (q : Int) := hq
    omega
/-! ### Write -/
noncomputable def writeM (ns : List NodeM) (parent before : Int) (tx : Bs) : List NodeM × Bool :=
  if ¬ (holdB ns parent = true ∧ 0 ≤ plcP (((ns[parent.toNat]?).map (·.kids)).getD []) before) then (ns, false)
  else if tx = [] then (ns, true)
  else
    match ((((ns[parent.toNat]?).map (·.kids)).getD [])[(plcP (((ns[parent.toNat]?).map (·.kids)).getD []) before).toNat - 1]?).bind (fun k : Int => if 0 < plcP (((ns[parent.toNat]?).map (·.kids)).getD []) before then (ns[k.toNat]?).bind fun z => if z.kind = 2 then some (k.toNat, z) else none else none) with
    | some (j, z) => (ns.set j { z with text := z.text ++ tx }, true)
    | none => putM (addM ns (bareM 2 0 [] [] tx)).1 parent before (addM ns (bareM 2 0 [] [] tx)).2
theorem GoodT.setText {ns : List NodeM} (G : GoodT ns) {j : Nat} {z : NodeM} (hz : ns[j]? = some z) (tx : Bs) : GoodT (ns.set j { z with text := tx }) := by
  have hj := getI hz
  have get : ∀ (m : Nat) w, (ns.set j { z with text := tx })[m]? = some w → ∃ v, ns[m]? = some v ∧ v.parent = w.parent ∧ v.kids = w.kids := fun m w hw => by
    by_cases e : j = m
    · subst e
      rw [List.getElem?_set_self hj] at hw; cases hw
      exact ⟨z, hz, rfl, rfl⟩
    · rw [List.getElem?_set_ne e] at hw; exact ⟨w, hw, rfl, rfl⟩
  have get' : ∀ (m : Nat) w, ns[m]? = some w → ∃ v, (ns.set j { z with text := tx })[m]? = some v ∧ v.parent = w.parent := fun m w hw => by
    by_cases e : j = m
    · subst e
      rw [hz] at hw; cases hw
      exact ⟨_, List.getElem?_set_self hj, rfl⟩
    · exact ⟨w, by rw [List.getElem?_set_ne e]; exact hw, rfl⟩
  refine ⟨fun m w hw => ?_, fun m w k hw => ?_, fun m w hw => ?_, ?_, ?_⟩
  · rw [List.length_set]
    obtain ⟨v, hv, hp, _⟩ := get m w hw
    rw [← hp]; exact G.par m v hv
  · obtain ⟨v, hv, _, hk⟩ := get m w hw
    rw [← hk, G.kid m v k hv]
    constructor
    · rintro ⟨q, u, rfl, hu, hq⟩
      obtain ⟨u', hu', hp'⟩ := get' q u hu
      exact ⟨q, u', rfl, hu', hp'.trans hq⟩
    · rintro ⟨q, u, rfl, hu, hq⟩
      obtain ⟨u', hu', hp', _⟩ := get q u hu
      exact ⟨q, u', rfl, hu', hp'.trans hq⟩
  · obtain ⟨v, hv, _, hk⟩ := get m w hw
    rw [← hk]; exact G.nodup m v hv
  · obtain ⟨rk, hr⟩ := G.rank
    refine ⟨rk, fun m q w hw hq => ?_⟩
    obtain ⟨v, hv, hp, _⟩ := get m w hw
    exact hr m q v hv (hp.trans hq)
  · obtain ⟨r, hr, hp0⟩ := G.root
    obtain ⟨v, hv, hp⟩ := get' 0 r hr
    exact ⟨v, hv, hp.trans hp0⟩
theorem GoodT.writeM {ns : List NodeM} (G : GoodT ns) (parent before : Int) (tx : Bs) : GoodT (Go.Proofs.writeM ns parent before tx).1 := by
  unfold Go.Proofs.writeM
  by_cases h1 : ¬ (holdB ns parent = true ∧ 0 ≤ plcP (((ns[parent.toNat]?).map (·.kids)).getD []) before)
  · rw [if_pos h1]; exact G
  rw [if_neg h1]
  by_cases h2 : tx = []
  · rw [if_pos h2]; exact G
  rw [if_neg h2]
  split
  · rename_i j z hm
    obtain ⟨k, hk, hb⟩ := Option.bind_eq_some_iff.1 hm
    split at hb
    · obtain ⟨z', hz', hb2⟩ := Option.bind_eq_some_iff.1 hb
      split at hb2
      · cases hb2; exact G.setText hz' _
      · cases hb2
    · cases hb
  · exact (G.addM _ _ _ _ _).putM _ _ _
section
variable {h : H} {K : Value → H → Prop} {col : Col} {s i p : Nat} {t a : Addr} {ads : List Addr} {ns : List NodeM} {x y : NodeM}
theorem write_calls (T : TreeP h col s t ads ns) (G : GoodT ns) {parent before : Int} {tx : Bs} (hlen : ∀ (i : Nat) x, ns[i]? = some x → x.text.length + tx.length ≤ 9223372036854775807) (htx : tx.length ≤ maxLen) (hfew : ns.length < 1000000)
    (hk : ∀ h' col' ads', TreeP h' col' s t ads' (writeM ns parent before tx).1 → Ext s h col h' col' → K (.bool (writeM ns parent before tx).2) h') :
    HCalls Tryz.prog 38 ⟨[.pointer (some t), .int .i64 parent, .int .i64 before, S tx]⟩ h K := by
  have hl := T.len
  refine Sx.dom_Tree_Write.ok _ _ _ _ _ _ (holder_calls T (fun hn => vPtrMk (ptrEq_k (by kernel_rfl) (vBool_mk (condT ?_)))) fun p ap y ep hy hap hor => vPtrMk (ptrEq_k (by kernel_rfl) (vBool_mk (condF ?_))))
  · have : writeM ns parent before tx = (ns, false) := by
      unfold writeM
      rw [if_pos (fun hh => hn (holdB_nat hh.1))]
    rw [this] at hk
    exact hk h col ads T (Ext.refl _ _ _)
  · have Np := T.nodes p y ap hy hap
    have hpl := getI hy
    have ekids : (((ns[parent.toNat]?).map (·.kids)).getD []) = y.kids := by rw [ep, Int.toNat_natCast, hy]; rfl
    have hh : holdB ns parent = true := by
      unfold holdB
      rw [ep, Int.toNat_natCast, hy, decide_eq_true (show 0 ≤ (p : Int) ∧ (p : Int) < ns.length by omega)]
      exact decide_eq_true (hor.imp (fun h => by omega) (fun h => h))
    unfold writeM at hk
    rw [ekids] at hk
    refine index_calls Np (vIntMk (spl (fun e => ?_) fun e => ?_))
    · rw [if_pos (fun hh2 => by have := hh2.2; omega)] at hk
      exact hk h col ads T (Ext.refl _ _ _)
    · rw [if_neg (fun hn => hn ⟨hh, by omega⟩)] at hk
      refine spl (fun e2 => ?_) fun e2 => ?_
      · rw [if_pos e2] at hk
        exact hk h col ads T (Ext.refl _ _ _)
      · rw [if_neg e2] at hk
        obtain ⟨k, hkk⟩ := Int.eq_ofNat_of_zero_le (show 0 ≤ plcP y.kids before by omega)
        have hkk : plcP y.kids before = (k : Int) := hkk
        rw [hkk, Int.toNat_natCast] at hk
        have other : ((y.kids[k - 1]?).bind (fun q : Int => if 0 < (k : Int) then (ns[q.toNat]?).bind fun z => if z.kind = 2 then some (q.toNat, z) else none else none)) = none → Sx.dom_Tree_Write.n6 (some t) parent before tx (fun y8 h => K (.bool y8) h) (fun y8 h => K (.bool y8) h) h := fun hnone => by
          rw [hnone] at hk
          refine make_calls T (A := fun _ => True) (attrs := []) ⟨rfl, Nat.le_refl _, Nat.zero_le _, fun i x hx => by simp at hx⟩ (fun _ => rfl) (by omega) ⟨by decide, by decide⟩ ⟨by decide, by decide⟩ (Nat.zero_le _) htx hfew fun h2 col2 ads2 T2 E2 => vIntMk ?_
          exact put_calls T2 (G.addM _ _ _ _ _) fun h3 col3 T3 E3 => vBool_mk (condB (fun eb => by have := hk h3 col3 ads2 T3 (E2.trans E3); rw [eb] at this; exact this) fun eb => by have := hk h3 col3 ads2 T3 (E2.trans E3); rw [eb] at this; exact this)
        refine index_calls Np (vIntMk ?_)
        rw [hkk]
        refine spl (fun e3 => condT ?_) fun e3 => condF (other (by
          have e4 : ¬ 0 < (k : Int) := e3
          simp only [if_neg e4]
          cases y.kids[k - 1]? <;> rfl))
        obtain ⟨ab, an, ac, kb, kn, kc, v, ra, hz, ok, hkc⟩ := Np.ex
        obtain ⟨lb, lc, vt, o, hl2⟩ := T.ex
        have hkl := ok.len
        have hkn : k ≤ y.kids.length := by
          have := hkk
          unfold plcP idxP at this
          by_cases eb : before = -1
          · rw [if_pos eb] at this; omega
          · rw [if_neg eb] at this
            by_cases em : before ∈ y.kids
            · rw [if_pos em] at this; have := idxN_lt em; omega
            · rw [if_neg em] at this; omega
        have ek : ((k : Int) - 1) = ((k - 1 : Nat) : Int) := by omega
        have hfk := G.few hy
        have hft := T.few
        refine vSomeMk ⟨_, _, _, vt.cell 0 rfl, vSomeMk ⟨_, _, _, v.cell 7 rfl, rngI (by omega) (by omega), ?_⟩⟩
        rw [ek]
        have hil : k - 1 < y.kids.length := by omega
        refine (ok.row (A := fun _ => True) fun _ _ => trivial).idxN hil rfl fun q hA => ldI hA fun _ => ?_
        obtain ⟨j, z, ej, hz', hpz⟩ := (G.kid p y _ hy).1 (List.getElem_mem hil)
        have hjl := getI hz'
        rw [ej]
        refine o.row.idxN (i := j) (by omega) rfl fun q2 hA2 => ldPtr hA2 (vSomeMk ?_)
        have haj : ads[j]? = some (ads[j]'(by omega)) := List.getElem?_eq_getElem (by omega)
        have Nj := T.nodes j z _ hz' haj
        obtain ⟨ab2, an2, ac2, kb2, kn2, kc2, v2, _⟩ := Nj.ex
        have ebind : ((y.kids[k - 1]?).bind (fun q : Int => if 0 < (k : Int) then (ns[q.toNat]?).bind fun z => if z.kind = 2 then some (q.toNat, z) else none else none)) = if z.kind = 2 then some (j, z) else none := by
          rw [List.getElem?_eq_getElem hil, ej]
          show (if 0 < (k : Int) then (ns[((j : Nat) : Int).toNat]?).bind _ else none) = _
          rw [if_pos (by omega), Int.toNat_natCast, hz']
          rfl
        refine ⟨_, v2.cellZ 0 rfl, spl (fun e4 => vSomeMk ⟨_, v2.cellZ 4 rfl, ?_, vSomeMk ?_⟩) fun e4 => other (by rw [ebind, if_neg e4])⟩
        · have := hlen j z hz'
          show ((z.text.length + tx.length : Nat) : Int) ≤ 9223372036854775807
          omega
        · rw [ebind, if_pos e4] at hk
          exact stText T haj hz' (by have := hlen j z hz'; rw [List.length_append]; simp only [maxLen]; omega) fun h2 T2 E2 => hk h2 col ads T2 E2
end
theorem add_len {ns : List NodeM} {o : Option NodeM} : (addM ns o).1.length ≤ ns.length + 1 := by
  cases o with
  | none => exact Nat.le_succ _
  | some x => show (ns ++ [x]).length ≤ _; simp
theorem put_len {ns : List NodeM} (G : GoodT ns) (p b i : Int) : (putM ns p b i).1.length = ns.length := by
  unfold putM
  by_cases hc : holdB ns p = true ∧ (0 ≤ i ∧ i < ns.length) ∧ i ≠ 0 ∧ b ≠ i ∧ 0 ≤ plcP (((ns[p.toNat]?).map (·.kids)).getD []) b ∧ withinP ns p i = false
  · rw [if_pos hc]
    show (putAt _ _ _ _).length = _
    unfold putAt
    split
    · exact cutM_len ns G i
    · split
      · exact cutM_len ns G i
      · rw [List.length_set, List.length_set]; exact cutM_len ns G i
  · rw [if_neg hc]
end Go.Proofs
