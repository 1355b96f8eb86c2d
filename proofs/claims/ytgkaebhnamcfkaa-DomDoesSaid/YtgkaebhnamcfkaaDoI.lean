/- dom: Put. No condition but that the tree is one. dom: trees stay trees; Write, Kids. No condition but that the tree is one. dom: Move. No condition but that the tree is one. -/
import Derived.Test.YtgkaebhnamcfkaaDoG
namespace Go.Proofs
open Go Go.Sh
set_option linter.unusedVariables false
set_option maxRecDepth 100000
theorem plc_nn {kids kids' : List Int} {b id : Int} (hm : ∀ k, k ∈ kids' ↔ k ∈ kids ∧ k ≠ id) (hb : b ≠ id) (h : 0 ≤ plcP kids b) : 0 ≤ plcP kids' b ∧ plcP kids' b ≤ kids'.length := by
  unfold plcP idxP at h ⊢
  by_cases e : b = -1
  · rw [if_pos e]; omega
  · rw [if_neg e] at h ⊢
    by_cases hk : b ∈ kids
    · have h2 := (hm b).2 ⟨hk, hb⟩
      rw [if_pos h2]
      have := idxN_lt h2
      omega
    · rw [if_neg hk] at h; omega
section
variable {h : H} {K : Value → H → Prop} {col : Col} {s i p : Nat} {t a : Addr} {ads : List Addr} {ns : List NodeM} {x y : NodeM}
/-- the end of Put: a kid goes into the row of kids -/
theorem put_tail (T : TreeP h col s t ads ns) (G : GoodT ns) {ai ap av : Addr} (ha : ads[i]? = some ai) (hx : ns[i]? = some x) (hap : ads[p]? = some ap) (hy : ns[p]? = some y) (hne : i ≠ p) {ab kb : Option Addr} {an ac kn kc : Nat}
    (v : Var h ap 53 (nodeC y ab an ac kb kn kc)) (ra : Row elAttr (Free col h) h ab an ac y.attrs) (hz : ab = none → ac = 0) (ok : OwnI h kb kn kc y.kids) (hkc : ∀ q, kb = some q → col q.block = some (s, 2 * p + 3))
    (vv : Var h av 3 [.int .i64 (i : Int)]) (hav : col av.block = none) {k : Nat} (hk0 : k ≤ y.kids.length)
    {Q : H → Prop} (hk : ∀ h' col', TreeP h' col' s t ads ((ns.set p { y with kids := y.kids.take k ++ (i : Int) :: y.kids.drop k }).set i { x with parent := (p : Int) }) → Ext s h col h' col' → Q h') :
    HCalls Try.prog 39 ⟨[.slice kb kn kc, .int .i64 (k : Int), .slice (some av) 1 1]⟩ h fun v72 h73 => vSlice v72 fun b n c => vSome (some ap) fun a75 => stL (a75.add 7) [(.slice b n c)] 0 h73 fun h76 => vSome (some ai) fun a77 => stL (a77.add 6) [(.int .i64 (p : Int))] 0 h76 fun h78 => Q h78 := by
  have hkl := ok.len
  have hfew := G.few hy
  have hf := T.few
  have hil := getI hx
  refine insI_calls ok (by omega) vv (fun q e e2 => by have := hkc q e; rw [e2, hav] at this; cases this) (rngI (by omega) (by omega)) (by omega) fun b' c' h3 o3 g3 nb => vSliceMk (vSomeMk (stKidsG T hap hy v ra hz hkc g3 o3 nb fun h4 col4 T4 E4 => vSomeMk ?_))
  exact stPar T4 ha (by rw [List.getElem?_set_ne (Ne.symm hne)]; exact hx) (rngI (by have := getI hy; omega) (by have := getI hy; omega)) fun h5 T5 E5 _ => hk h5 col4 T5 (E4.trans E5)
theorem put_calls (T : TreeP h col s t ads ns) (G : GoodT ns) {parent before id : Int} (hk : ∀ h' col', TreeP h' col' s t ads (putM ns parent before id).1 → Ext s h col h' col' → K (.bool (putM ns parent before id).2) h') :
    HCalls Try.prog 11 ⟨[.pointer (some t), .int .i64 parent, .int .i64 before, .int .i64 id]⟩ h K := by
  have hlen := T.len
  have no : ¬ (holdB ns parent = true ∧ (0 ≤ id ∧ id < ns.length) ∧ id ≠ 0 ∧ before ≠ id ∧ 0 ≤ plcP (((ns[parent.toNat]?).map (·.kids)).getD []) before ∧ withinP ns parent id = false) → ∀ h', KB h h' → K (.bool false) h' := fun hn h' k => by
    have : putM ns parent before id = (ns, false) := by unfold putM; rw [if_neg hn]
    rw [this] at hk
    exact hk h' col (T.kb k) (Ext.kb k)
  have hold_of : ∀ (p : Nat) y, parent = (p : Int) → ns[p]? = some y → holdB ns parent = decide (p = 0 ∨ y.kind = 1) := fun p y e hy => by
    have := getI hy
    unfold holdB
    rw [e, Int.toNat_natCast, hy, decide_eq_true (show 0 ≤ (p : Int) ∧ (p : Int) < ns.length by omega)]
    show decide _ = decide _
    congr 1
    exact propext ⟨fun h => h.imp (fun h => by omega) (fun h => h), fun h => h.imp (fun h => by omega) (fun h => h)⟩
  refine Sx.dom_Tree_Put.ok _ _ _ _ _ _ (holder_calls T (fun hn => vPtrMk ?_) fun p ap y ep hy hap hor => vPtrMk ?_)
  · have hh : ¬ holdB ns parent = true := fun hb => by
      unfold holdB at hb
      rw [Bool.and_eq_true] at hb
      have h1 := of_decide_eq_true hb.1
      obtain ⟨p, rfl⟩ := Int.eq_ofNat_of_zero_le h1.1
      have hy : ns[p]? = some ns[p] := List.getElem?_eq_getElem (by omega)
      have h2 := hb.2
      rw [Int.toNat_natCast, hy] at h2
      refine hn ⟨p, ns[p], rfl, hy, ?_⟩
      have h2 := of_decide_eq_true h2
      exact h2.imp (fun h => by omega) (fun h => h)
    refine at_calls T (fun hn2 => vPtrMk (ptrEq_k (by kernel_rfl) (vBool_mk (condT (no (fun hh2 => hh hh2.1) h (KB.refl h)))))) fun i a x e hx ha => vPtrMk (ptrEq_k (by kernel_rfl) (vBool_mk (condT (no (fun hh2 => hh hh2.1) h (KB.refl h)))))
  · refine at_calls T (fun hn2 => vPtrMk (ptrEq_k (by kernel_rfl) (vBool_mk (condF (ptrEq_k (by kernel_rfl) (vBool_mk (condT (no (fun hh => hn2 hh.2.1) h (KB.refl h))))))))) fun i ai x ei hx hai => vPtrMk (ptrEq_k (by kernel_rfl) (vBool_mk (condF (ptrEq_k (by kernel_rfl) (vBool_mk (condF ?_))))))
    have hpl := getI hy
    have hil := getI hx
    have Np := T.nodes p y ap hy hap
    have ekids : (((ns[parent.toNat]?).map (·.kids)).getD []) = y.kids := by rw [ep, Int.toNat_natCast, hy]; rfl
    rw [ekids] at no
    refine spl (fun e => no (fun hh => hh.2.2.1 e) h (KB.refl h)) fun h0 => spl (fun e => no (fun hh => hh.2.2.2.1 e) h (KB.refl h)) fun hb => index_calls Np (vIntMk (spl (fun e => no (fun hh => by have := hh.2.2.2.2.1; omega) h (KB.refl h)) fun hplc => within_calls T G (by omega) fun h1 k1 => vBool_mk (condB (fun e => no (fun hh => by rw [e] at hh; cases hh.2.2.2.2.2) h1 k1) fun hw => ?_)))
    have T1 := T.kb k1
    have hyes : holdB ns parent = true ∧ (0 ≤ id ∧ id < ns.length) ∧ id ≠ 0 ∧ before ≠ id ∧ 0 ≤ plcP (((ns[parent.toNat]?).map (·.kids)).getD []) before ∧ withinP ns parent id = false :=
      ⟨by rw [hold_of p y ep hy]; exact decide_eq_true hor, by omega, h0, hb, by rw [ekids]; omega, hw⟩
    have epm : putM ns parent before id = (putAt (cutM ns id).1 parent.toNat before id.toNat, true) := by unfold putM; rw [if_pos hyes]
    rw [epm, ep, ei, Int.toNat_natCast, Int.toNat_natCast, ← ei] at hk
    -- what Cut leaves
    have G1 := G.cutM id
    obtain ⟨y1, hy1, _, _, _, _, _, hmem, _, _⟩ := cutM_get G (id := id) hy
    obtain ⟨x1, hx1, _, _, _, _, _, _, _, _⟩ := cutM_get G (id := id) hx
    have hnw : ¬ InC ns parent id := fun hh => by
      unfold withinP at hw
      rw [@decide_eq_true (InC ns parent id) (Classical.propDecidable _) hh] at hw; cases hw
    have hne : i ≠ p := fun e => hnw (by rw [ep, ei, ← e]; exact inC_step.2 (.inl rfl))
    obtain ⟨hp1, hp2⟩ := plc_nn hmem hb (by omega)
    obtain ⟨k, hkk⟩ := Int.eq_ofNat_of_zero_le hp1
    have hkk : plcP y1.kids before = (k : Int) := hkk
    have hres : putAt (cutM ns id).1 p before i = (((cutM ns id).1.set p { y1 with kids := y1.kids.take k ++ (i : Int) :: y1.kids.drop k }).set i { x1 with parent := (p : Int) }) := by
      unfold putAt
      rw [hy1]
      dsimp only
      rw [hkk, Int.toNat_natCast, List.getElem?_set_ne (Ne.symm hne), hx1]
    rw [hres] at hk
    have tailA : ∀ h2 col2, TreeP h2 col2 s t ads (cutM ns id).1 → Ext s h col h2 col2 → Sx.dom_Tree_Put.n5 parent before id (some ap) (some ai) (fun y8 h => K (.bool y8) h) (fun y8 h => K (.bool y8) h) h2 := by
      intro h2 col2 T2 E2
      have N2 := T2.nodes p y1 ap hy1 hap
      obtain ⟨ab, an, ac, kb, kn, kc, v, ra, hz, ok, hkc⟩ := N2.ex
      refine ⟨vSomeMk ⟨_, _, _, v.cell 7 rfl, index_calls N2 (vIntMk ⟨ExtH.refl _, newx_var fun av h3 v3 k3 e3 s3 => ⟨k3.ext, ?_⟩⟩)⟩, vSomeMk ⟨_, _, _, v.cell 7 rfl, newx_var fun av h3 v3 k3 e3 s3 => ⟨k3.ext, index_calls ((T2.kb k3).nodes p y1 ap hy1 hap) (vIntMk ⟨ExtH.refl _, ?_⟩)⟩⟩⟩
      all_goals
        rw [hkk, ei] at *
        rw [ep]
        have T3 := T2.kb k3
        have fr : col2 av.block = none := T2.fresh _ (by omega)
        exact put_tail T3 G1 hai hx1 hap hy1 hne (v.kb k3) (ra.keep ((KB.w k3).less fun q hq => hq.2) fun q hq hs => ⟨hq.1, Nat.lt_of_lt_of_le hs k3.1⟩) hz (ok.keep (KB.w k3) fun q e => ok.hi q e) hkc v3 fr (by omega) fun h' col' T' E' => hk h' col' T' ((E2.trans (Ext.kb k3)).trans E')
    refine cut_calls T1 G fun h2 col2 T2 E2 => vBool_mk ?_
    have E02 : Ext s h col h2 col2 := (Ext.kb k1).trans E2
    exact condB (fun _ => tailA h2 col2 T2 E02) fun _ => tailA h2 col2 T2 E02
end
end Go.Proofs
namespace Go.Proofs
open Go Go.Sh
set_option linter.unusedVariables false
set_option maxRecDepth 100000
theorem holdB_nat {ns : List NodeM} {p : Int} (h : holdB ns p = true) : ∃ (q : Nat) (y : NodeM), p = (q : Int) ∧ ns[q]? = some y ∧ (q = 0 ∨ y.kind = 1) := by
  unfold holdB at h
  rw [Bool.and_eq_true] at h
  have h1 := of_decide_eq_true h.1
  obtain ⟨q, rfl⟩ := Int.eq_ofNat_of_zero_le h1.1
  have hy : ns[q]? = some ns[q] := List.getElem?_eq_getElem (by omega)
  have h2 := h.2
  rw [Int.toNat_natCast, hy] at h2
  have h2 := of_decide_eq_true h2
  exact ⟨q, ns[q], rfl, hy, h2.imp (fun h => by omega) (fun h => h)⟩
theorem GoodT.putM {ns : List NodeM} (G : GoodT ns) (parent before id : Int) : GoodT (Go.Proofs.putM ns parent before id).1 := by
  unfold Go.Proofs.putM
  by_cases hc : holdB ns parent = true ∧ (0 ≤ id ∧ id < ns.length) ∧ id ≠ 0 ∧ before ≠ id ∧ 0 ≤ plcP (((ns[parent.toNat]?).map (·.kids)).getD []) before ∧ withinP ns parent id = false
  · rw [if_pos hc]
    obtain ⟨hh, hid, h0, hb, hpl, hw⟩ := hc
    obtain ⟨p, y, ep, hy, _⟩ := holdB_nat hh
    obtain ⟨i, ei⟩ := Int.eq_ofNat_of_zero_le hid.1
    have ei : id = (i : Int) := ei
    have hil : i < ns.length := by omega
    have hx : ns[i]? = some ns[i] := List.getElem?_eq_getElem hil
    have ekids : (((ns[parent.toNat]?).map (·.kids)).getD []) = y.kids := by rw [ep, Int.toNat_natCast, hy]; rfl
    rw [ekids] at hpl
    have G1 := G.cutM id
    obtain ⟨y1, hy1, _, _, _, _, _, hmem, _, _⟩ := cutM_get G (id := id) hy
    obtain ⟨x1, hx1, _, _, _, _, _, _, hpar, _⟩ := cutM_get G (id := id) hx
    have hnw : ¬ InC ns parent id := fun hh => by
      unfold withinP at hw
      rw [@decide_eq_true (InC ns parent id) (Classical.propDecidable _) hh] at hw; cases hw
    have hne : i ≠ p := fun e => hnw (by rw [ep, ei, ← e]; exact inC_step.2 (.inl rfl))
    obtain ⟨hp1, hp2⟩ := plc_nn hmem hb hpl
    obtain ⟨k, hkk⟩ := Int.eq_ofNat_of_zero_le hp1
    have hkk : plcP y1.kids before = (k : Int) := hkk
    have hsame : ∀ j : Nat, (j : Int) ≠ id → parI (Go.Proofs.cutM ns id).1 j = parI ns j := fun j hj => by
      cases hz : ns[j]? with
      | none =>
        have h1 : (Go.Proofs.cutM ns id).1[j]? = none := by
          rw [List.getElem?_eq_none_iff, cutM_len ns G]
          exact List.getElem?_eq_none_iff.1 hz
        unfold parI
        rw [Int.toNat_natCast, h1, hz]
      | some z =>
        obtain ⟨z1, hz1, _, _, _, _, _, _, _, hp⟩ := cutM_get G (id := id) hz
        rw [parI_some hz1, parI_some hz]
        exact hp hj
    have hno : ¬ InC (Go.Proofs.cutM ns id).1 (p : Int) (i : Int) := fun ⟨f, hf⟩ => hnw (by
      rw [← ei, ← ep] at hf
      exact ⟨f, inC_same hsame f _ hf⟩)
    have hni : (i : Int) ∉ y1.kids := fun hm => ((hmem _).1 hm).2 ei.symm
    have hres : putAt (Go.Proofs.cutM ns id).1 parent.toNat before id.toNat = (((Go.Proofs.cutM ns id).1.set p { y1 with kids := y1.kids.take k ++ (i : Int) :: y1.kids.drop k }).set i { x1 with parent := (p : Int) }) := by
      have e1 : parent.toNat = p := by rw [ep]; exact Int.toNat_natCast p
      have e2 : id.toNat = i := by rw [ei]; exact Int.toNat_natCast i
      rw [e1, e2]
      unfold putAt
      rw [hy1]
      dsimp only
      rw [hkk, Int.toNat_natCast, List.getElem?_set_ne (Ne.symm hne), hx1]
    show GoodT (putAt (Go.Proofs.cutM ns id).1 parent.toNat before id.toNat)
    rw [hres]
    exact G1.put hx1 hy1 (hpar ei.symm) hne (by omega) hno (ins_nodup (G1.nodup p y1 hy1) hni) fun k' => ins_mem
  · rw [if_neg hc]; exact G
theorem GoodT.add {ns : List NodeM} (G : GoodT ns) {x : NodeM} (hp : x.parent = -1) (hk : x.kids = []) : GoodT (ns ++ [x]) := by
  have get : ∀ (j : Nat) z, (ns ++ [x])[j]? = some z → (j < ns.length ∧ ns[j]? = some z) ∨ (j = ns.length ∧ z = x) := fun j z hz => by
    by_cases h : j < ns.length
    · rw [List.getElem?_append_left h] at hz; exact .inl ⟨h, hz⟩
    · have hl := getI hz
      rw [List.length_append, List.length_singleton] at hl
      have e : j = ns.length := by omega
      rw [e, List.getElem?_append_right (Nat.le_refl _), Nat.sub_self] at hz
      simp at hz
      exact .inr ⟨e, hz.symm⟩
  have keyN : ∀ (j : Nat) (k : Int), (∃ (m : Nat) (w : NodeM), k = (m : Int) ∧ ns[m]? = some w ∧ w.parent = (j : Int)) ↔ ∃ (m : Nat) (w : NodeM), k = (m : Int) ∧ (ns ++ [x])[m]? = some w ∧ w.parent = (j : Int) := fun j k => by
    constructor
    · rintro ⟨m, w, rfl, hw, hq⟩
      exact ⟨m, w, rfl, by rw [List.getElem?_append_left (getI hw)]; exact hw, hq⟩
    · rintro ⟨m, w, rfl, hw, hq⟩
      rcases get m w hw with ⟨_, h⟩ | ⟨_, rfl⟩
      · exact ⟨m, w, rfl, h, hq⟩
      · rw [hp] at hq; omega
  refine ⟨fun j z hz => ?_, fun j z k hz => ?_, fun j z hz => ?_, ?_, ?_⟩
  · rw [List.length_append, List.length_singleton]
    rcases get j z hz with ⟨_, h⟩ | ⟨_, rfl⟩
    · rcases G.par j z h with h | h
      · exact .inl h
      · right; omega
    · exact .inl hp
  · rw [← keyN]
    rcases get j z hz with ⟨_, h⟩ | ⟨e, rfl⟩
    · exact G.kid j z k h
    · rw [hk]
      refine ⟨fun h => (by cases h), ?_⟩
      rintro ⟨m, w, rfl, hw, hq⟩
      rcases G.par m w hw with h | h <;> omega
  · rcases get j z hz with ⟨_, h⟩ | ⟨e, rfl⟩
    · exact G.nodup j z h
    · rw [hk]; exact List.nodup_nil
  · obtain ⟨rk, hr⟩ := G.rank
    refine ⟨rk, fun j q z hz hq => ?_⟩
    rcases get j z hz with ⟨_, h⟩ | ⟨_, rfl⟩
    · exact hr j q z h hq
    · rw [hp] at hq; omega
  · obtain ⟨r, hr, hp0⟩ := G.root
    exact ⟨r, by rw [List.getElem?_append_left (getI hr)]; exact hr, hp0⟩
theorem GoodT.addM {ns : List NodeM} (G : GoodT ns) (kd sp : Int) (nm : Bs) (at' : List AttrP) (tx : Bs) : GoodT (Go.Proofs.addM ns (bareM kd sp nm at' tx)).1 := by
  unfold bareM
  by_cases h1 : kd = 1
  · rw [if_pos h1]; exact G.add rfl rfl
  · rw [if_neg h1]
    by_cases h2 : kd = 2 ∨ kd = 3
    · rw [if_pos h2]; exact G.add rfl rfl
    · rw [if_neg h2]; exact G
theorem GoodT.copyM {ns : List NodeM} (G : GoodT ns) (id : Int) : GoodT (Go.Proofs.copyM ns id).1 := by
  unfold Go.Proofs.copyM
  by_cases h : 0 ≤ id ∧ id < ns.length
  · rw [if_pos h]
    cases hx : ns[id.toNat]? with
    | none => exact G
    | some x => exact G.addM _ _ _ _ _
  · rw [if_neg h]; exact G
theorem good_root : GoodT [rootM] := by
  have get : ∀ (j : Nat) z, [rootM][j]? = some z → j = 0 ∧ z = rootM := fun j z hz => by
    cases j with
    | zero => simp at hz; exact ⟨rfl, hz.symm⟩
    | succ j => simp at hz
  refine ⟨fun j z hz => ?_, fun j z k hz => ?_, fun j z hz => ?_, ⟨fun _ => 0, fun j q z hz hq => ?_⟩, rootM, rfl, rfl⟩
  · rw [(get j z hz).2]; exact .inl rfl
  · rw [(get j z hz).2]
    refine ⟨fun h => (by cases h), ?_⟩
    rintro ⟨m, w, rfl, hw, hq⟩
    rw [(get m w hw).2] at hq
    have : (-1 : Int) = (j : Int) := hq
    omega
  · rw [(get j z hz).2]; exact List.nodup_nil
  · rw [(get j z hz).2] at hq
    have : (-1 : Int) = (q : Int) := hq
    omega
/-! ### Write -/
noncomputable def writeM (ns : List NodeM) (parent before : Int) (tx : Bs) : List NodeM × Bool :=
  if ¬ (holdB ns parent = true ∧ 0 ≤ plcP (((ns[parent.toNat]?).map (·.kids)).getD []) before) then (ns, false)
  else if tx = [] then (ns, true)
  else
    match ((((ns[parent.toNat]?).map (·.kids)).getD [])[(plcP (((ns[parent.toNat]?).map (·.kids)).getD []) before).toNat - 1]?).bind (fun k : Int => if 0 < plcP (((ns[parent.toNat]?).map (·.kids)).getD []) before then (ns[k.toNat]?).bind fun z => if z.kind = 2 then some (k.toNat, z) else none else none) with
    | some (j, z) => (ns.set j { z with text := z.text ++ tx }, true)
    | none => putM (addM ns (bareM 2 0 [] [] tx)).1 parent before (addM ns (bareM 2 0 [] [] tx)).2
theorem GoodT.setText {ns : List NodeM} (G : GoodT ns) {j : Nat} {z : NodeM} (hz : ns[j]? = some z) (tx : Bs) : GoodT (ns.set j { z with text := tx }) := by
  have hj := getI hz
  have get : ∀ (m : Nat) w, (ns.set j { z with text := tx })[m]? = some w → ∃ v, ns[m]? = some v ∧ v.parent = w.parent ∧ v.kids = w.kids := fun m w hw => by
    by_cases e : j = m
    · subst e
      rw [List.getElem?_set_self hj] at hw; cases hw
      exact ⟨z, hz, rfl, rfl⟩
    · rw [List.getElem?_set_ne e] at hw; exact ⟨w, hw, rfl, rfl⟩
  have get' : ∀ (m : Nat) w, ns[m]? = some w → ∃ v, (ns.set j { z with text := tx })[m]? = some v ∧ v.parent = w.parent := fun m w hw => by
    by_cases e : j = m
    · subst e
      rw [hz] at hw; cases hw
      exact ⟨_, List.getElem?_set_self hj, rfl⟩
    · exact ⟨w, by rw [List.getElem?_set_ne e]; exact hw, rfl⟩
  refine ⟨fun m w hw => ?_, fun m w k hw => ?_, fun m w hw => ?_, ?_, ?_⟩
  · rw [List.length_set]
    obtain ⟨v, hv, hp, _⟩ := get m w hw
    rw [← hp]; exact G.par m v hv
  · obtain ⟨v, hv, _, hk⟩ := get m w hw
    rw [← hk, G.kid m v k hv]
    constructor
    · rintro ⟨q, u, rfl, hu, hq⟩
      obtain ⟨u', hu', hp'⟩ := get' q u hu
      exact ⟨q, u', rfl, hu', hp'.trans hq⟩
    · rintro ⟨q, u, rfl, hu, hq⟩
      obtain ⟨u', hu', hp', _⟩ := get q u hu
      exact ⟨q, u', rfl, hu', hp'.trans hq⟩
  · obtain ⟨v, hv, _, hk⟩ := get m w hw
    rw [← hk]; exact G.nodup m v hv
  · obtain ⟨rk, hr⟩ := G.rank
    refine ⟨rk, fun m q w hw hq => ?_⟩
    obtain ⟨v, hv, hp, _⟩ := get m w hw
    exact hr m q v hv (hp.trans hq)
  · obtain ⟨r, hr, hp0⟩ := G.root
    obtain ⟨v, hv, hp⟩ := get' 0 r hr
    exact ⟨v, hv, hp.trans hp0⟩
theorem GoodT.writeM {ns : List NodeM} (G : GoodT ns) (parent before : Int) (tx : Bs) : GoodT (Go.Proofs.writeM ns parent before tx).1 := by
  unfold Go.Proofs.writeM
  by_cases h1 : ¬ (holdB ns parent = true ∧ 0 ≤ plcP (((ns[parent.toNat]?).map (·.kids)).getD []) before)
  · rw [if_pos h1]; exact G
  rw [if_neg h1]
  by_cases h2 : tx = []
  · rw [if_pos h2]; exact G
  rw [if_neg h2]
  split
  · rename_i j z hm
    obtain ⟨k, hk, hb⟩ := Option.bind_eq_some_iff.1 hm
    split at hb
    · obtain ⟨z', hz', hb2⟩ := Option.bind_eq_some_iff.1 hb
      split at hb2
      · cases hb2; exact G.setText hz' _
      · cases hb2
    · cases hb
  · exact (G.addM _ _ _ _ _).putM _ _ _
section
variable {h : H} {K : Value → H → Prop} {col : Col} {s i p : Nat} {t a : Addr} {ads : List Addr} {ns : List NodeM} {x y : NodeM}
theorem kids_calls (T : TreeP h col s t ads ns) {id : Int} (hno : ¬ (0 ≤ id ∧ id < ns.length) → K (.slice none 0 0) h) (G : GoodT ns)
    (hyes : ∀ (i : Nat) x b c h', id = (i : Int) → ns[i]? = some x → OwnF (elInt .i64) h' h.size 3 b x.kids.length c x.kids → KB h h' → K (.slice b x.kids.length c) h') :
    HCalls Try.prog 15 ⟨[.pointer (some t), .int .i64 id]⟩ h K := by
  refine Sx.dom_Tree_Kids.ok _ _ _ _ (at_calls T (fun hn => vPtrMk (ptrEq_k (by kernel_rfl) (vBool_mk (condT (hno hn))))) fun i a x e hx ha => vPtrMk (ptrEq_k (by kernel_rfl) (vBool_mk (condF ?_))))
  obtain ⟨ab, an, ac, kb, kn, kc, v, ra, hz, ok, hkc⟩ := (T.nodes i x a hx ha).ex
  have hl := ok.len
  have := G.few hx
  have := T.few
  refine vSomeMk ⟨_, _, _, v.cell 7 rfl, cloneI_calls (ok.row (A := fun _ => True) fun _ _ => trivial) ok.nil (by omega) fun b' c' h' o' k' => vSliceMk ?_⟩
  rw [← hl] at o' ⊢
  exact hyes i x b' c' h' e hx o' k'
theorem write_calls (T : TreeP h col s t ads ns) (G : GoodT ns) {parent before : Int} {tx : Bs} (hlen : ∀ (i : Nat) x, ns[i]? = some x → x.text.length + tx.length ≤ 9223372036854775807) (htx : tx.length ≤ maxLen) (hfew : ns.length < 1000000)
    (hk : ∀ h' col' ads', TreeP h' col' s t ads' (writeM ns parent before tx).1 → Ext s h col h' col' → K (.bool (writeM ns parent before tx).2) h') :
    HCalls Try.prog 26 ⟨[.pointer (some t), .int .i64 parent, .int .i64 before, S tx]⟩ h K := by
  have hl := T.len
  refine Sx.dom_Tree_Write.ok _ _ _ _ _ _ (holder_calls T (fun hn => vPtrMk (ptrEq_k (by kernel_rfl) (vBool_mk (condT ?_)))) fun p ap y ep hy hap hor => vPtrMk (ptrEq_k (by kernel_rfl) (vBool_mk (condF ?_))))
  · have : writeM ns parent before tx = (ns, false) := by
      unfold writeM
      rw [if_pos (fun hh => hn (holdB_nat hh.1))]
    rw [this] at hk
    exact hk h col ads T (Ext.refl _ _ _)
  · have Np := T.nodes p y ap hy hap
    have hpl := getI hy
    have ekids : (((ns[parent.toNat]?).map (·.kids)).getD []) = y.kids := by rw [ep, Int.toNat_natCast, hy]; rfl
    have hh : holdB ns parent = true := by
      unfold holdB
      rw [ep, Int.toNat_natCast, hy, decide_eq_true (show 0 ≤ (p : Int) ∧ (p : Int) < ns.length by omega)]
      exact decide_eq_true (hor.imp (fun h => by omega) (fun h => h))
    unfold writeM at hk
    rw [ekids] at hk
    refine index_calls Np (vIntMk (spl (fun e => ?_) fun e => ?_))
    · rw [if_pos (fun hh2 => by have := hh2.2; omega)] at hk
      exact hk h col ads T (Ext.refl _ _ _)
    · rw [if_neg (fun hn => hn ⟨hh, by omega⟩)] at hk
      refine spl (fun e2 => ?_) fun e2 => ?_
      · rw [if_pos e2] at hk
        exact hk h col ads T (Ext.refl _ _ _)
      · rw [if_neg e2] at hk
        obtain ⟨k, hkk⟩ := Int.eq_ofNat_of_zero_le (show 0 ≤ plcP y.kids before by omega)
        have hkk : plcP y.kids before = (k : Int) := hkk
        rw [hkk, Int.toNat_natCast] at hk
        have other : ((y.kids[k - 1]?).bind (fun q : Int => if 0 < (k : Int) then (ns[q.toNat]?).bind fun z => if z.kind = 2 then some (q.toNat, z) else none else none)) = none → Sx.dom_Tree_Write.n6 (some t) parent before tx (fun y8 h => K (.bool y8) h) (fun y8 h => K (.bool y8) h) h := fun hnone => by
          rw [hnone] at hk
          refine make_calls T (A := fun _ => True) (attrs := []) ⟨rfl, Nat.le_refl _, Nat.zero_le _, fun i x hx => by simp at hx⟩ (fun _ => rfl) (by omega) ⟨by decide, by decide⟩ ⟨by decide, by decide⟩ (Nat.zero_le _) htx hfew fun h2 col2 ads2 T2 E2 => vIntMk ?_
          exact put_calls T2 (G.addM _ _ _ _ _) fun h3 col3 T3 E3 => vBool_mk (condB (fun eb => by have := hk h3 col3 ads2 T3 (E2.trans E3); rw [eb] at this; exact this) fun eb => by have := hk h3 col3 ads2 T3 (E2.trans E3); rw [eb] at this; exact this)
        refine index_calls Np (vIntMk ?_)
        rw [hkk]
        refine spl (fun e3 => condT ?_) fun e3 => condF (other (by
          have e4 : ¬ 0 < (k : Int) := e3
          simp only [if_neg e4]
          cases y.kids[k - 1]? <;> rfl))
        obtain ⟨ab, an, ac, kb, kn, kc, v, ra, hz, ok, hkc⟩ := Np.ex
        obtain ⟨lb, lc, vt, o, hl2⟩ := T.ex
        have hkl := ok.len
        have hkn : k ≤ y.kids.length := by
          have := hkk
          unfold plcP idxP at this
          by_cases eb : before = -1
          · rw [if_pos eb] at this; omega
          · rw [if_neg eb] at this
            by_cases em : before ∈ y.kids
            · rw [if_pos em] at this; have := idxN_lt em; omega
            · rw [if_neg em] at this; omega
        have ek : ((k : Int) - 1) = ((k - 1 : Nat) : Int) := by omega
        have hfk := G.few hy
        have hft := T.few
        refine vSomeMk ⟨_, _, _, vt.cell 0 rfl, vSomeMk ⟨_, _, _, v.cell 7 rfl, rngI (by omega) (by omega), ?_⟩⟩
        rw [ek]
        have hil : k - 1 < y.kids.length := by omega
        refine (ok.row (A := fun _ => True) fun _ _ => trivial).idxN hil rfl fun q hA => ldI hA fun _ => ?_
        obtain ⟨j, z, ej, hz', hpz⟩ := (G.kid p y _ hy).1 (List.getElem_mem hil)
        have hjl := getI hz'
        rw [ej]
        refine o.row.idxN (i := j) (by omega) rfl fun q2 hA2 => ldPtr hA2 (vSomeMk ?_)
        have haj : ads[j]? = some (ads[j]'(by omega)) := List.getElem?_eq_getElem (by omega)
        have Nj := T.nodes j z _ hz' haj
        obtain ⟨ab2, an2, ac2, kb2, kn2, kc2, v2, _⟩ := Nj.ex
        have ebind : ((y.kids[k - 1]?).bind (fun q : Int => if 0 < (k : Int) then (ns[q.toNat]?).bind fun z => if z.kind = 2 then some (q.toNat, z) else none else none)) = if z.kind = 2 then some (j, z) else none := by
          rw [List.getElem?_eq_getElem hil, ej]
          show (if 0 < (k : Int) then (ns[((j : Nat) : Int).toNat]?).bind _ else none) = _
          rw [if_pos (by omega), Int.toNat_natCast, hz']
          rfl
        refine ⟨_, v2.cellZ 0 rfl, spl (fun e4 => vSomeMk ⟨_, v2.cellZ 4 rfl, ?_, vSomeMk ?_⟩) fun e4 => other (by rw [ebind, if_neg e4])⟩
        · have := hlen j z hz'
          show ((z.text.length + tx.length : Nat) : Int) ≤ 9223372036854775807
          omega
        · rw [ebind, if_pos e4] at hk
          exact stText T haj hz' (by have := hlen j z hz'; rw [List.length_append]; simp only [maxLen]; omega) fun h2 T2 E2 => hk h2 col ads T2 E2
end
end Go.Proofs
namespace Go.Proofs
open Go Go.Sh
set_option linter.unusedVariables false
set_option maxRecDepth 100000
/-! ### plain -/
def parsTo (ns : List NodeM) (ks : List Int) (p : Nat) : List NodeM := ns.mapIdx fun j z => if (j : Int) ∈ ks then { z with parent := (p : Int) } else z
def moveAt (ns : List NodeM) (i p : Nat) (xk yk : List Int) : List NodeM := ns.mapIdx fun j z => { z with parent := if (j : Int) ∈ xk then (p : Int) else z.parent, kids := if j = i then [] else if j = p then yk ++ xk else z.kids }
noncomputable def moveM (ns : List NodeM) (from' dst : Int) : List NodeM × Bool :=
  if (0 ≤ from' ∧ from' < ns.length) ∧ holdB ns dst = true ∧ (((ns[from'.toNat]?).map (·.kids)).getD []) ≠ [] ∧ withinP ns dst from' = false then
    (moveAt ns from'.toNat dst.toNat (((ns[from'.toNat]?).map (·.kids)).getD []) (((ns[dst.toNat]?).map (·.kids)).getD []), true)
  else (ns, false)
theorem parsTo_get {ns : List NodeM} {ks : List Int} {p j : Nat} {z : NodeM} (h : ns[j]? = some z) : (parsTo ns ks p)[j]? = some (if (j : Int) ∈ ks then { z with parent := (p : Int) } else z) := by
  unfold parsTo; rw [List.getElem?_mapIdx, h]; rfl
theorem parsTo_len {ns : List NodeM} {ks : List Int} {p : Nat} : (parsTo ns ks p).length = ns.length := by unfold parsTo; simp
theorem parsTo_nil {ns : List NodeM} {p : Nat} : parsTo ns [] p = ns := by
  unfold parsTo
  refine List.ext_getElem? fun j => ?_
  rw [List.getElem?_mapIdx]
  cases ns[j]? <;> simp
theorem parsTo_step {ns : List NodeM} {ks : List Int} {p j : Nat} {z : NodeM} (h : ns[j]? = some z) (hno : (j : Int) ∉ ks) : (parsTo ns ks p).set j { z with parent := (p : Int) } = parsTo ns (ks ++ [(j : Int)]) p := by
  refine List.ext_getElem? fun m => ?_
  have hj := getI h
  by_cases e : j = m
  · subst e
    rw [List.getElem?_set_self (by rw [parsTo_len]; exact hj), parsTo_get h, if_pos (by simp)]
  · rw [List.getElem?_set_ne e]
    cases hm : ns[m]? with
    | none =>
      unfold parsTo
      rw [List.getElem?_mapIdx, List.getElem?_mapIdx, hm]
      rfl
    | some w =>
      rw [parsTo_get hm, parsTo_get hm]
      have : ((m : Int) ∈ ks ++ [(j : Int)]) ↔ (m : Int) ∈ ks := by
        rw [List.mem_append, List.mem_singleton]
        exact ⟨fun h => h.resolve_right (by omega), .inl⟩
      simp only [this]
theorem moveAt_get {ns : List NodeM} {i p j : Nat} {xk yk : List Int} {z : NodeM} (h : ns[j]? = some z) : (moveAt ns i p xk yk)[j]? = some { z with parent := if (j : Int) ∈ xk then (p : Int) else z.parent, kids := if j = i then [] else if j = p then yk ++ xk else z.kids } := by
  unfold moveAt; rw [List.getElem?_mapIdx, h]; rfl
theorem moveAt_len {ns : List NodeM} {i p : Nat} {xk yk : List Int} : (moveAt ns i p xk yk).length = ns.length := by unfold moveAt; simp
theorem moveAt_inv {ns : List NodeM} {i p j : Nat} {xk yk : List Int} {w : NodeM} (h : (moveAt ns i p xk yk)[j]? = some w) : ∃ z, ns[j]? = some z ∧ w = { z with parent := if (j : Int) ∈ xk then (p : Int) else z.parent, kids := if j = i then [] else if j = p then yk ++ xk else z.kids } := by
  have hl := getI h
  rw [moveAt_len] at hl
  have hz : ns[j]? = some ns[j] := List.getElem?_eq_getElem hl
  rw [moveAt_get hz] at h
  exact ⟨_, hz, (Option.some.inj h).symm⟩
theorem shiftR_le {ns : List NodeM} {i m j : Nat} {rk : Nat → Nat} : shiftR ns i m rk j ≤ rk j + m := by
  unfold shiftR
  rcases Classical.em (InC ns (j : Int) (i : Int)) with h | h
  · rw [if_pos h]; exact Nat.le_refl _
  · rw [if_neg h]; exact Nat.le_add_right _ _
theorem GoodT.move {ns : List NodeM} (G : GoodT ns) {i p : Nat} {x y : NodeM} (hx : ns[i]? = some x) (hy : ns[p]? = some y) (hno : ¬ InC ns (p : Int) (i : Int)) : GoodT (moveAt ns i p x.kids y.kids) := by
  have hi := getI hx
  have hpl := getI hy
  have hne : i ≠ p := fun e => hno (by rw [← e]; exact inC_step.2 (.inl rfl))
  have kin : ∀ (m : Nat) w, ns[m]? = some w → ((m : Int) ∈ x.kids ↔ w.parent = (i : Int)) := fun m w hw => by
    rw [G.kid i x _ hx]
    refine ⟨fun ⟨q, v, e, hv, hq⟩ => ?_, fun h => ⟨m, w, rfl, hw, h⟩⟩
    have : q = m := by omega
    subst this
    rw [hw] at hv; cases hv
    exact hq
  have keyN : ∀ (j : Nat) (k : Int), j ≠ i → j ≠ p → ((∃ (m : Nat) (w : NodeM), k = (m : Int) ∧ ns[m]? = some w ∧ w.parent = (j : Int)) ↔ ∃ (m : Nat) (w : NodeM), k = (m : Int) ∧ (moveAt ns i p x.kids y.kids)[m]? = some w ∧ w.parent = (j : Int)) := fun j k hji hjp => by
    constructor
    · rintro ⟨m, w, rfl, hw, hq⟩
      refine ⟨m, _, rfl, moveAt_get hw, ?_⟩
      show (if (m : Int) ∈ x.kids then (p : Int) else w.parent) = _
      rw [if_neg (fun h => by have := (kin m w hw).1 h; omega)]; exact hq
    · rintro ⟨m, w, rfl, hw, hq⟩
      obtain ⟨z, hz, rfl⟩ := moveAt_inv hw
      have hq : (if (m : Int) ∈ x.kids then (p : Int) else z.parent) = (j : Int) := hq
      by_cases hm : (m : Int) ∈ x.kids
      · rw [if_pos hm] at hq; omega
      · rw [if_neg hm] at hq; exact ⟨m, z, rfl, hz, hq⟩
  refine ⟨fun j z hz => ?_, fun j z k hz => ?_, fun j z hz => ?_, ?_, ?_⟩
  · rw [moveAt_len]
    obtain ⟨w, hw, rfl⟩ := moveAt_inv hz
    show (if (j : Int) ∈ x.kids then (p : Int) else w.parent) = -1 ∨ (0 ≤ (if (j : Int) ∈ x.kids then (p : Int) else w.parent) ∧ (if (j : Int) ∈ x.kids then (p : Int) else w.parent) < _)
    by_cases hm : (j : Int) ∈ x.kids
    · rw [if_pos hm]; right; omega
    · rw [if_neg hm]; exact G.par j w hw
  · obtain ⟨w, hw, rfl⟩ := moveAt_inv hz
    show k ∈ (if j = i then [] else if j = p then y.kids ++ x.kids else w.kids) ↔ _
    by_cases e : j = i
    · rw [if_pos e]
      refine ⟨fun h => (by cases h), ?_⟩
      rintro ⟨m, v, rfl, hv, hq⟩
      obtain ⟨u, hu, rfl⟩ := moveAt_inv hv
      have hq : (if (m : Int) ∈ x.kids then (p : Int) else u.parent) = (j : Int) := hq
      by_cases hm : (m : Int) ∈ x.kids
      · rw [if_pos hm] at hq; omega
      · rw [if_neg hm] at hq
        exact absurd ((kin m u hu).2 (by omega)) hm
    · rw [if_neg e]
      by_cases e2 : j = p
      · rw [if_pos e2]
        subst e2
        rw [hy] at hw; cases hw
        rw [List.mem_append, G.kid j _ k hy, G.kid i _ k hx]
        constructor
        · rintro (⟨m, v, rfl, hv, hq⟩ | ⟨m, v, rfl, hv, hq⟩)
          · refine ⟨m, _, rfl, moveAt_get hv, ?_⟩
            show (if (m : Int) ∈ x.kids then (j : Int) else v.parent) = _
            rw [if_neg (fun h => by have := (kin m v hv).1 h; omega)]; exact hq
          · refine ⟨m, _, rfl, moveAt_get hv, ?_⟩
            show (if (m : Int) ∈ x.kids then (j : Int) else v.parent) = _
            rw [if_pos ((kin m v hv).2 hq)]
        · rintro ⟨m, v, rfl, hv, hq⟩
          obtain ⟨u, hu, rfl⟩ := moveAt_inv hv
          have hq : (if (m : Int) ∈ x.kids then (j : Int) else u.parent) = (j : Int) := hq
          by_cases hm : (m : Int) ∈ x.kids
          · exact .inr ⟨m, u, rfl, hu, (kin m u hu).1 hm⟩
          · rw [if_neg hm] at hq; exact .inl ⟨m, u, rfl, hu, hq⟩
      · rw [if_neg e2, G.kid j w k hw]
        exact keyN j k e e2
  · obtain ⟨w, hw, rfl⟩ := moveAt_inv hz
    show (if j = i then [] else if j = p then y.kids ++ x.kids else w.kids).Nodup
    by_cases e : j = i
    · rw [if_pos e]; exact List.nodup_nil
    · rw [if_neg e]
      by_cases e2 : j = p
      · rw [if_pos e2]
        refine List.nodup_append.2 ⟨G.nodup p y hy, G.nodup i x hx, fun a ha b hb e3 => ?_⟩
        subst e3
        obtain ⟨m, v, rfl, hv, hq⟩ := (G.kid p y a hy).1 ha
        have := (kin m v hv).1 hb
        omega
      · rw [if_neg e2]; exact G.nodup j w hw
  · obtain ⟨rk, hr⟩ := G.rank
    refine ⟨shiftR ns i (rk p + 1) rk, fun j q z hz hq => ?_⟩
    obtain ⟨w, hw, rfl⟩ := moveAt_inv hz
    have hq : (if (j : Int) ∈ x.kids then (p : Int) else w.parent) = (q : Int) := hq
    by_cases hm : (j : Int) ∈ x.kids
    · rw [if_pos hm] at hq
      have e1 : q = p := by omega
      have hji : InC ns (j : Int) (i : Int) := inC_step.2 (.inr (by rw [parI_some hw, (kin j w hw).1 hm]; exact inC_step.2 (.inl rfl)))
      rw [e1, shiftR_out hno, shiftR_in hji]; omega
    · rw [if_neg hm] at hq
      have hlt := hr j q w hw hq
      by_cases hj : InC ns (j : Int) (i : Int)
      · rw [shiftR_in hj]
        have := shiftR_le (ns := ns) (i := i) (m := rk p + 1) (j := q) (rk := rk)
        omega
      · have hq2 : ¬ InC ns (q : Int) (i : Int) := fun h => hj (inC_step.2 (.inr (by rw [parI_some hw, hq]; exact h)))
        rw [shiftR_out hj, shiftR_out hq2]; exact hlt
  · obtain ⟨r, hr, hp0⟩ := G.root
    refine ⟨_, moveAt_get hr, ?_⟩
    show (if ((0 : Nat) : Int) ∈ x.kids then (p : Int) else r.parent) = -1
    rw [if_neg (fun h => by have := (kin 0 r hr).1 h; omega)]; exact hp0
theorem GoodT.moveM {ns : List NodeM} (G : GoodT ns) (f dst : Int) : GoodT (Go.Proofs.moveM ns f dst).1 := by
  unfold Go.Proofs.moveM
  by_cases hc : (0 ≤ f ∧ f < ns.length) ∧ holdB ns dst = true ∧ (((ns[f.toNat]?).map (·.kids)).getD []) ≠ [] ∧ withinP ns dst f = false
  · rw [if_pos hc]
    obtain ⟨hf, hh, hk, hw⟩ := hc
    obtain ⟨p, y, ep, hy, _⟩ := holdB_nat hh
    obtain ⟨i, ei⟩ := Int.eq_ofNat_of_zero_le hf.1
    have ei : f = (i : Int) := ei
    have hil : i < ns.length := by omega
    have hx : ns[i]? = some ns[i] := List.getElem?_eq_getElem hil
    have hnw : ¬ InC ns dst f := fun hh => by
      unfold withinP at hw
      rw [@decide_eq_true (InC ns dst f) (Classical.propDecidable _) hh] at hw; cases hw
    have e1 : f.toNat = i := by rw [ei]; exact Int.toNat_natCast i
    have e2 : dst.toNat = p := by rw [ep]; exact Int.toNat_natCast p
    show GoodT (moveAt ns f.toNat dst.toNat (((ns[f.toNat]?).map (·.kids)).getD []) (((ns[dst.toNat]?).map (·.kids)).getD []))
    rw [e1, e2, hx, hy]
    exact G.move hx hy (by rw [← ei, ← ep]; exact hnw)
  · rw [if_neg hc]; exact G
/-! ### the walk -/
section
variable {h : H} {K : Value → H → Prop} {col : Col} {s i p : Nat} {t a : Addr} {ads : List Addr} {ns : List NodeM} {x y : NodeM}
theorem appI_k {b b2 : Option Addr} {n c n2 c2 : Nat} {l l2 : List Int} (o : OwnI h b n c l) (o2 : OwnI h b2 n2 c2 l2) (hn : n + n2 ≤ 1000000)
    (hk : ∀ b' c' h', OwnI h' b' (n + n2) c' (l ++ l2) → Grow h h' b → NewB h b b' → K (.slice b' (n + n2) c') h') :
    SemH Try.prog (Builtin.append_ #[38, 38] 38 ⟨[.slice b n c, .slice b2 n2 c2]⟩) h K := by
  obtain ⟨i, z, ht, hi, hz, hzs, hsz, hby⟩ := apdInt.is
  have hsz : i.size = 1 := hsz
  refine append_own (base := 0) ht hi hz hzs (by rw [hsz]; exact o.own) (by rw [hsz]; simpa using o2.len) o2.own.cells (oneI l2) (by rw [hsz]; decide) (by simp only [maxLen]; omega) (by rw [hby]; omega) (Nat.zero_le _) fun b' c' h' o' g' hb h0 => hk b' c' h' ⟨by rw [hsz] at o'; rw [List.map_append]; exact o', fun x hx => ?_, fun e => ?_, fun q e => ?_⟩ g' fun q e => ?_
  · rcases List.mem_append.1 hx with hx | hx
    · exact o.rng x hx
    · exact o2.rng x hx
  · rcases o'.is with h1 | ⟨g, cur, e1, _⟩
    · exact h1.2
    · rw [e] at e1; cases e1
  · rcases o'.is with h1 | ⟨g, cur, e1, _, hg, _⟩
    · have := h0 h1.1
      exact Nat.lt_of_lt_of_le (o.hi q (this.1 ▸ e)) g'.size
    · rw [e] at e1; cases e1; exact (Array.getElem?_eq_some_iff.1 hg).1
  · rcases hb with rfl | rfl
    · exact .inl e
    · cases e; exact .inr (Nat.le_refl _)
theorem move_calls (T : TreeP h col s t ads ns) (G : GoodT ns) {f dst : Int} (hk : ∀ h' col', TreeP h' col' s t ads (moveM ns f dst).1 → Ext s h col h' col' → K (.bool (moveM ns f dst).2) h') :
    HCalls Try.prog 24 ⟨[.pointer (some t), .int .i64 f, .int .i64 dst]⟩ h K := by
  have hlen := T.len
  have no : ¬ ((0 ≤ f ∧ f < ns.length) ∧ holdB ns dst = true ∧ (((ns[f.toNat]?).map (·.kids)).getD []) ≠ [] ∧ withinP ns dst f = false) → ∀ h', KB h h' → K (.bool false) h' := fun hn h' k => by
    have : moveM ns f dst = (ns, false) := by unfold moveM; rw [if_neg hn]
    rw [this] at hk
    exact hk h' col (T.kb k) (Ext.kb k)
  refine Sx.dom_Tree_Move.ok _ _ _ _ _ (at_calls T (fun hn => vPtrMk (holder_calls T (fun hn2 => vPtrMk (ptrEq_k (by kernel_rfl) (vBool_mk (condT (no (fun hh => hn hh.1) h (KB.refl h)))))) fun p ap y ep hy hap hor => vPtrMk (ptrEq_k (by kernel_rfl) (vBool_mk (condT (no (fun hh => hn hh.1) h (KB.refl h))))))) fun i ai x ei hx hai => vPtrMk (holder_calls T (fun hn2 => vPtrMk (ptrEq_k (by kernel_rfl) (vBool_mk (condF (ptrEq_k (by kernel_rfl) (vBool_mk (condT (no (fun hh => hn2 (holdB_nat hh.2.1)) h (KB.refl h))))))))) fun p ap y ep hy hap hor => vPtrMk (ptrEq_k (by kernel_rfl) (vBool_mk (condF (ptrEq_k (by kernel_rfl) (vBool_mk (condF ?_))))))))
  have hil := getI hx
  have hpl := getI hy
  have Ni := T.nodes i x ai hx hai
  obtain ⟨ab, an, ac, kb, kn, kc, v, ra, hz, ok, hkc⟩ := Ni.ex
  have e1 : f.toNat = i := by rw [ei]; exact Int.toNat_natCast i
  have e2 : dst.toNat = p := by rw [ep]; exact Int.toNat_natCast p
  rw [e1, hx] at no
  have hkl := ok.len
  refine vSomeMk ⟨_, _, _, v.cell 7 rfl, spl (fun e => no (fun hh => hh.2.2.1 (List.eq_nil_of_length_eq_zero (by show x.kids.length = 0; omega))) h (KB.refl h)) fun e => within_calls T G (by omega) fun h1 k1 => vBool_mk (condB (fun e => no (fun hh => by rw [e] at hh; cases hh.2.2.2) h1 k1) fun hw => ?_)⟩
  have hhb : holdB ns dst = true := by
    unfold holdB
    rw [ep, Int.toNat_natCast, hy, decide_eq_true (show 0 ≤ (p : Int) ∧ (p : Int) < ns.length by omega)]
    exact decide_eq_true (hor.imp (fun h => by omega) (fun h => h))
  have hm : moveM ns f dst = (moveAt ns i p x.kids y.kids, true) := by
    unfold moveM
    rw [e1, e2, hx, hy]
    rw [if_pos ⟨by omega, hhb, fun h0 => by have h0 : x.kids = [] := h0; rw [h0] at hkl; simp at hkl; omega, hw⟩]
    rfl
  rw [hm] at hk
  have hnw : ¬ InC ns dst f := fun hh => by
    unfold withinP at hw
    rw [@decide_eq_true (InC ns dst f) (Classical.propDecidable _) hh] at hw; cases hw
  have hne : i ≠ p := fun e => hnw (by rw [ep, ei, ← e]; exact inC_step.2 (.inl rfl))
  have T1 := T.kb k1
  have v1 := v.kb k1
  have ok1 : OwnI h1 kb kn kc x.kids := ok.keep (KB.w k1) fun q e => ok.hi q e
  have hfew := G.few hx
  have hfy := G.few hy
  have hft := T.few
  have hnd := G.nodup i x hx
  refine vSomeMk ⟨_, _, _, v1.cell 7 rfl, kn + 1, ?_⟩
  have key : ∀ N m h2, m + N = kn → TreeP h2 col s t ads (parsTo ns (x.kids.take m) p) → OwnI h2 kb kn kc x.kids → Ext s h col h2 col →
      Sx.dom_Tree_Move.n8_L (fun z7 z8 h => Sx.dom_Tree_Move.n5 z7 z8 (fun y6 h => K (.bool y6) h) (fun y6 h => K (.bool y6) h) h) (fun z7 z8 h => Sx.dom_Tree_Move.n5 z7 z8 (fun y6 h => K (.bool y6) h) (fun y6 h => K (.bool y6) h) h) (fun y6 h => K (.bool y6) h) (N + 1) (some t) dst (some ai) (some ap) kb kn kc (kn : Int) (m : Int) h2 := by
    intro N
    induction N with
    | zero =>
      intro m h2 hmN T2 o2 E2
      unfold Sx.dom_Tree_Move.n8_L
      refine splF (by omega) ?_
      rw [List.take_of_length_le (by omega)] at T2
      -- the kids' rows
      have hip : (i : Int) ∉ x.kids := fun h => by
        obtain ⟨q, w, e, hw2, hq⟩ := (G.kid i x _ hx).1 h
        have : q = i := by omega
        subst this
        rw [hx] at hw2; cases hw2
        exact G.ne_par hx hq rfl
      have hpp : (p : Int) ∉ x.kids := fun h => by
        obtain ⟨q, w, e, hw2, hq⟩ := (G.kid i x _ hx).1 h
        have : q = p := by omega
        subst this
        exact hnw (by rw [ep, ei]; exact inC_step.2 (.inr (by rw [parI_some hw2, hq]; exact inC_step.2 (.inl rfl))))
      have hx2 : (parsTo ns x.kids p)[i]? = some x := by rw [parsTo_get hx, if_neg hip]
      have hy2 : (parsTo ns x.kids p)[p]? = some y := by rw [parsTo_get hy, if_neg hpp]
      obtain ⟨ab2, an2, ac2, kb2, kn2, kc2, v2, ra2, hz2, ok2, hkc2⟩ := (T2.nodes p y ap hy2 hap).ex
      obtain ⟨ab3, an3, ac3, kb3, kn3, kc3, v3, ra3, hz3, ok3, hkc3⟩ := (T2.nodes i x ai hx2 hai).ex
      have hl2 := ok2.len
      have hl3 := ok3.len
      have hsum : kn2 + kn3 ≤ 1000000 := by
        have Gm := G.move hx hy (by rw [← ei, ← ep]; exact hnw)
        have h1 := Gm.few (moveAt_get hy)
        have h1 : (if p = i then [] else if p = p then y.kids ++ x.kids else y.kids).length ≤ _ := h1
        rw [if_neg (Ne.symm hne), if_pos rfl, List.length_append, moveAt_len] at h1
        omega
      refine vSomeMk ⟨_, _, _, v2.cell 7 rfl, vSomeMk ⟨_, _, _, v3.cell 7 rfl, appI_k ok2 ok3 hsum fun b' c' h3 o3 g3 nb => vSliceMk (vSomeMk (stKidsG T2 hap hy2 v2 ra2 hz2 hkc2 g3 o3 nb fun h4 col4 T4 E4 => vSomeMk ?_))⟩⟩
      have hx4 : ((parsTo ns x.kids p).set p { y with kids := y.kids ++ x.kids })[i]? = some x := by rw [List.getElem?_set_ne (Ne.symm hne)]; exact hx2
      obtain ⟨ab5, an5, ac5, kb5, kn5, kc5, v5, ra5, hz5, ok5, hkc5⟩ := (T4.nodes i x ai hx4 hai).ex
      refine stKidsG T4 hai hx4 v5 ra5 hz5 hkc5 (Grow.refl h4 kb5) (OwnI.none h4) (fun q e => by cases e) fun h5 col5 T5 E5 => ?_
      have efin : ((parsTo ns x.kids p).set p { y with kids := y.kids ++ x.kids }).set i { x with kids := [] } = moveAt ns i p x.kids y.kids := by
        refine List.ext_getElem? fun j => ?_
        rw [get_set2 (by rw [parsTo_len]; exact hil) (by rw [parsTo_len]; exact hpl)]
        by_cases e : j = i
        · rw [if_pos e, e, moveAt_get hx, if_neg hip, if_pos rfl]
        · rw [if_neg e]
          by_cases e2 : j = p
          · rw [if_pos e2, e2, moveAt_get hy, if_neg hpp, if_neg (Ne.symm hne), if_pos rfl]
          · rw [if_neg e2]
            cases hj : ns[j]? with
            | none =>
              rw [List.getElem?_eq_none (by rw [parsTo_len]; exact List.getElem?_eq_none_iff.1 hj), List.getElem?_eq_none (by rw [moveAt_len]; exact List.getElem?_eq_none_iff.1 hj)]
            | some z =>
              rw [parsTo_get hj, moveAt_get hj, if_neg e, if_neg e2]
              by_cases hm2 : (j : Int) ∈ x.kids
              · rw [if_pos hm2, if_pos hm2]
              · rw [if_neg hm2, if_neg hm2]
      rw [efin] at T5
      exact hk h5 col5 T5 ((E2.trans E4).trans E5)
    | succ N ih =>
      intro m h2 hmN T2 o2 E2
      unfold Sx.dom_Tree_Move.n8_L
      have hml : m < x.kids.length := by omega
      refine splT (by omega) ((o2.row (A := fun _ => True) fun _ _ => trivial).idxN hml rfl fun q hA => ldI hA fun _ => ?_)
      obtain ⟨j, z, ej, hz', hpz⟩ := (G.kid i x _ hx).1 (List.getElem_mem hml)
      have hjl := getI hz'
      obtain ⟨lb, lc, vt, o, hl2⟩ := T2.ex
      have hll : (parsTo ns (x.kids.take m) p).length = ns.length := parsTo_len
      have hno : (j : Int) ∉ x.kids.take m := fun hm2 => by
        rw [← ej] at hm2
        obtain ⟨q, hq, e⟩ := List.getElem_of_mem hm2
        rw [List.length_take] at hq
        rw [List.getElem_take] at e
        have := (List.getElem_inj hnd).1 e
        omega
      rw [ej]
      refine vSomeMk ⟨_, _, _, vt.cell 0 rfl, ?_⟩
      rw [hll]
      have o' := o
      rw [hll] at o'
      refine o'.row.idxN (i := j) (by omega) rfl fun q2 hA2 => ldPtr hA2 (vSomeMk ?_)
      have haj : ads[j]? = some (ads[j]'(by omega)) := List.getElem?_eq_getElem (by omega)
      have hzj : (parsTo ns (x.kids.take m) p)[j]? = some z := by rw [parsTo_get hz', if_neg hno]
      have Nj := T2.nodes j z _ hzj haj
      rw [ep]
      refine stPar T2 haj hzj (rngI (by omega) (by omega)) fun h3 T3 E3 k3 => ⟨rngI (by omega) (by omega), ?_⟩
      rw [parsTo_step hz' hno, ← ej, show x.kids.take m ++ [x.kids[m]] = x.kids.take (m + 1) by rw [List.take_add_one, List.getElem?_eq_getElem hml]; rfl] at T3
      have := ih (m + 1) h3 (by omega) T3 (o2.keep k3.w fun q e e3 => by
        have h1 := hkc q e
        have h2 := Nj.col
        rw [← e3, h1] at h2
        have := (Prod.mk.inj (Option.some.inj h2)).2; omega) (E2.trans E3)
      rw [ep] at this
      exact this
  exact key kn 0 h1 (by omega) (by rw [List.take_zero, parsTo_nil]; exact T1) ok1 (Ext.kb k1)
end
end Go.Proofs
