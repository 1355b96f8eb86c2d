/- dom: the chapter's tree: Move, Write. No condition but that the tree is one. -/
import Derived.Test.YtgkaebhnamcfkaaDrD
namespace Go.Proofs
open Go Go.Sh
set_option linter.unusedVariables false
set_option maxRecDepth 100000
section
variable {h h' : H} {K : Value → H → Prop} {col col' : Col} {s i p : Nat} {t a : Addr} {ns : List NodeM} {x y : NodeM} {lb : Option Addr} {lc : Nat} {rs : List RawN} {r : RawN}
/-- what Move comes to: first the kids are taken away, then they are told where they stand, then they are added -/
theorem move_eq (hx : ns[i]? = some x) (hy : ns[p]? = some y) (hne : i ≠ p) (hip : (i : Int) ∉ x.kids) (hpp : (p : Int) ∉ x.kids) :
    (parsTo (ns.set i { x with kids := [] }) x.kids p).set p { y with kids := y.kids ++ x.kids } = moveAt ns i p x.kids y.kids := by
  have hil := getI hx
  have hpl := getI hy
  refine List.ext_getElem? fun j => ?_
  by_cases e2 : p = j
  · subst e2
    rw [List.getElem?_set_self (by rw [parsTo_len, List.length_set]; exact hpl), moveAt_get hy, if_neg hpp, if_neg (Ne.symm hne), if_pos rfl]
  · rw [List.getElem?_set_ne e2]
    by_cases e : i = j
    · subst e
      rw [parsTo_get (List.getElem?_set_self hil), if_neg hip, moveAt_get hx, if_neg hip, if_pos rfl]
    · cases hj : ns[j]? with
      | none =>
        rw [List.getElem?_eq_none (by rw [parsTo_len, List.length_set]; exact List.getElem?_eq_none_iff.1 hj), List.getElem?_eq_none (by rw [moveAt_len]; exact List.getElem?_eq_none_iff.1 hj)]
      | some z =>
        rw [parsTo_get (z := z) (by rw [List.getElem?_set_ne e]; exact hj), moveAt_get hj, if_neg (Ne.symm e), if_neg (Ne.symm e2)]
        by_cases hm2 : (j : Int) ∈ x.kids
        · rw [if_pos hm2, if_pos hm2]
        · rw [if_neg hm2, if_neg hm2]
theorem move_r (T : RefP h col s t ns) (G : GoodT ns) {f dst : Int} (hk : ∀ h' col', RefP h' col' s t (moveM ns f dst).1 → Ext s h col h' col' → K (.bool (moveM ns f dst).2) h') :
    HCalls Try.prog 25 ⟨[.pointer (some t), .int .i64 f, .int .i64 dst]⟩ h K := by
  have no : ¬ ((0 ≤ f ∧ f < ns.length) ∧ holdB ns dst = true ∧ (((ns[f.toNat]?).map (·.kids)).getD []) ≠ [] ∧ withinP ns dst f = false) → K (.bool false) h := fun hn => by
    have : moveM ns f dst = (ns, false) := by unfold moveM; rw [if_neg hn]
    rw [this] at hk
    exact hk h col T (Ext.refl _ _ _)
  refine Sx.r10_Tree_Move.ok _ _ _ _ _ (there_r T (vBool_mk (condB (fun hid => ?_) fun hid => holds_r T (vBool_mk (condB (fun _ => no fun hy => of_decide_eq_false hid hy.1) fun _ => no fun hy => of_decide_eq_false hid hy.1)))))
  refine holds_r T (vBool_mk (condB (fun hh => ?_) fun hh => no fun hy => by rw [hh] at hy; cases hy.2.1))
  have hid := of_decide_eq_true hid
  obtain ⟨p, y, ep, hy, hor⟩ := holdB_nat hh
  obtain ⟨i, ei⟩ := Int.eq_ofNat_of_zero_le hid.1
  have ei : f = (i : Int) := ei
  have hpl := getI hy
  have hil : i < ns.length := by omega
  have hx : ns[i]? = some (ns[i]'hil) := List.getElem?_eq_getElem hil
  generalize ns[i]'hil = x at hx
  have e1 : f.toNat = i := by rw [ei]; exact Int.toNat_natCast i
  have e2 : dst.toNat = p := by rw [ep]; exact Int.toNat_natCast p
  rw [e1, hx] at no
  have hft := T.few
  have T0 := T
  obtain ⟨lb, lc, rs, C, em⟩ := T
  obtain ⟨q, hq, rfl⟩ := map_get em hx
  have N := C.nodes i q hq
  have hkl := N.ok.len
  have hkcp := N.ok.own.cap
  have hk0 := hk
  rw [ei] at no ⊢
  refine condT (condT (rf_rd C hq fun a hc => ⟨_, _, _, hc 7 _ rfl, spl (fun e => no (fun hh => hh.2.2.1 (List.eq_nil_of_length_eq_zero (by show q.x.kids.length = 0; omega)))) fun e => within_r T0 G (by omega) (vBool_mk (condB (fun e => no (fun hh => by rw [e] at hh; cases hh.2.2.2)) fun hw => condF (rf_rd C hq fun a2 hc2 => ⟨_, _, _, hc2 7 _ rfl, ?_⟩)))⟩))
  have hm : moveM ns f dst = (moveAt ns i p q.x.kids y.kids, true) := by
    unfold moveM
    rw [e1, e2, hx, hy]
    rw [if_pos ⟨by omega, hh, fun h0 => by have h0 : q.x.kids = [] := h0; rw [h0] at hkl; simp at hkl; omega, by rw [ei]; exact hw⟩]
    rfl
  rw [hm] at hk
  have hnw : ¬ InC ns dst (i : Int) := fun hh => by
    unfold withinP at hw
    rw [@decide_eq_true (InC ns dst (i : Int)) (Classical.propDecidable _) hh] at hw; cases hw
  have hne : i ≠ p := fun e => hnw (by rw [ep, ← e]; exact inC_step.2 (.inl rfl))
  have hip : (i : Int) ∉ q.x.kids := fun h => by
    obtain ⟨m, w, e, hw2, hq2⟩ := (G.kid i _ _ hx).1 h
    have : m = i := by omega
    subst this
    rw [hx] at hw2; cases hw2
    exact G.ne_par hx hq2 rfl
  have hpp : (p : Int) ∉ q.x.kids := fun h => by
    obtain ⟨m, w, e, hw2, hq2⟩ := (G.kid i _ _ hx).1 h
    have : m = p := by omega
    subst this
    exact hnw (by rw [ep]; exact inC_step.2 (.inr (by rw [parI_some hw2, hq2]; exact inC_step.2 (.inl rfl))))
  have hfew := G.few hx
  have hfy := G.few hy
  have hnd := G.nodup i _ hx
  have hsum : q.x.kids.length + y.kids.length ≤ 1000000 := by
    have Gm := G.move hx hy (by rw [← ep]; exact hnw)
    have h1 := Gm.few (moveAt_get hy)
    have h1 : (if p = i then [] else if p = p then y.kids ++ q.x.kids else y.kids).length ≤ _ := h1
    rw [if_neg (Ne.symm hne), if_pos rfl, List.length_append, moveAt_len] at h1
    omega
  refine vSomeMk ⟨_, _, _, C.v.cell 0 rfl, ref_kids C hq (Grow.refl h q.kb) (OwnI.none h) (fun q e => by cases e) fun h1 col1 C1 E1 k1 => ⟨q.kn + 1, ?_⟩⟩
  have T1 : RefP h1 col1 s t (ns.set i { q.x with kids := [] }) := ⟨_, _, _, C1, map_set em⟩
  have ok1 : OwnI h1 q.kb q.kn q.kc q.x.kids := N.ok.keep k1.w fun z e => ⟨N.ok.hi z e, fun e2 => by
    have h1 := N.hkc z e; rw [e2] at h1; have := (Prod.mk.inj (Option.some.inj h1)).2; omega⟩
  have hc1 : ∀ z, q.kb = some z → col1 z.block = some (s, 2 * i + 3) := fun z e => by rw [E1.cl _ (N.ok.hi z e)]; exact N.hkc z e
  have hlen0 : (ns.set i { q.x with kids := [] }).length = ns.length := List.length_set
  clear hk0 C1 k1
  have key : ∀ N' m h2, m + N' = q.kn → RefP h2 col1 s t (parsTo (ns.set i { q.x with kids := [] }) (q.x.kids.take m) p) → OwnI h2 q.kb q.kn q.kc q.x.kids → Ext s h col h2 col1 →
      Sx.r10_Tree_Move.n13_L (fun z0 z2 z10b z10n z10c h => Sx.r10_Tree_Move.n10 z0 z2 z10b z10n z10c (fun y6 h => K (.bool y6) h) (fun y6 h => K (.bool y6) h) h) (fun z0 z2 z10b z10n z10c h => Sx.r10_Tree_Move.n10 z0 z2 z10b z10n z10c (fun y6 h => K (.bool y6) h) (fun y6 h => K (.bool y6) h) h) (fun y6 h => K (.bool y6) h) (N' + 1) (some t) dst q.kb q.kn q.kc (m : Int) h2 := by
    intro N'
    induction N' with
    | zero =>
      intro m h2 hmN T2 o2 E2
      unfold Sx.r10_Tree_Move.n13_L
      refine splF (by omega) ?_
      rw [List.take_of_length_le (by omega)] at T2
      have hy2 : (parsTo (ns.set i { q.x with kids := [] }) q.x.kids p)[p]? = some y := by rw [parsTo_get (z := y) (by rw [List.getElem?_set_ne hne]; exact hy), if_neg hpp]
      obtain ⟨lb2, lc2, rs2, C2, em2⟩ := T2
      obtain ⟨qp, hqp, eqp⟩ := map_get em2 hy2
      have Np := C2.nodes p qp hqp
      have hlp := Np.ok.len
      rw [eqp] at hlp
      have fin : ∀ b3 c3 h3, OwnI h3 b3 (qp.kn + q.kn) c3 (qp.x.kids ++ q.x.kids) → Grow h2 h3 qp.kb → NewB h2 qp.kb b3 → (0 ≤ (p : Int) ∧ (p : Int) < (rs2.length : Int)) ∧ vSome lb2 fun a => stL ((a.add (Int.toNat (p : Int) * 8)).add 7) [.slice b3 (qp.kn + q.kn) c3] 0 h3 fun h' => K (.bool true) h' := fun b3 c3 h3 o3 g3 nb => by
        refine ref_kids C2 hqp g3 o3 nb fun h4 col4 C4 E4 _ => ?_
        have em4 := map_set (i := p) (r' := ⟨{ qp.x with kids := qp.x.kids ++ q.x.kids }, qp.ab, qp.an, qp.ac, b3, qp.kn + q.kn, c3⟩) em2
        have T4 : RefP h4 col4 s t _ := ⟨_, _, _, C4, em4⟩
        rw [show (({ qp.x with kids := qp.x.kids ++ q.x.kids } : NodeM)) = { y with kids := y.kids ++ q.x.kids } by rw [eqp], move_eq hx hy hne hip hpp] at T4
        exact hk h4 col4 T4 (E2.trans E4)
      rw [ep]
      have ht := C2.v.lt
      have far : ∀ h3, Grow h2 h3 qp.kb → Var h3 t 68 [.slice lb2 rs2.length lc2] := fun h3 g => C2.v.keep g.keep.w ⟨ht, fun z e e2 => by
        have h1 := Np.hkc z e; rw [e2, C2.colt] at h1; have := (Prod.mk.inj (Option.some.inj h1)).2; omega⟩
      refine ⟨vSomeMk (rf_rd C2 hqp fun a3 hc3 => ⟨_, _, _, hc3 7 _ rfl, appI_k Np.ok o2 (by omega) fun b3 c3 h3 o3 g3 nb => vSliceMk ⟨_, _, _, (far h3 g3).cell 0 rfl, fin b3 c3 h3 o3 g3 nb⟩⟩), vSomeMk ⟨_, _, _, C2.v.cell 0 rfl, rf_rd C2 hqp fun a3 hc3 => ⟨_, _, _, hc3 7 _ rfl, appI_k Np.ok o2 (by omega) fun b3 c3 h3 o3 g3 nb => vSliceMk (fin b3 c3 h3 o3 g3 nb)⟩⟩⟩
    | succ N' ih =>
      intro m h2 hmN T2 o2 E2
      unfold Sx.r10_Tree_Move.n13_L
      have hml : m < q.x.kids.length := by omega
      obtain ⟨j, z, ej, hz', hpz⟩ := (G.kid i _ _ hx).1 (List.getElem_mem hml)
      have hjl := getI hz'
      have hji : j ≠ i := fun e => hip (by rw [← e, ← ej]; exact List.getElem_mem hml)
      have hz0 : (ns.set i { q.x with kids := [] })[j]? = some z := by rw [List.getElem?_set_ne (Ne.symm hji)]; exact hz'
      have hno : (j : Int) ∉ q.x.kids.take m := fun hm2 => by
        rw [← ej] at hm2
        obtain ⟨v, hv, e⟩ := List.getElem_of_mem hm2
        rw [List.length_take] at hv
        rw [List.getElem_take] at e
        have := (List.getElem_inj hnd).1 e
        omega
      have hzj : (parsTo (ns.set i { q.x with kids := [] }) (q.x.kids.take m) p)[j]? = some z := by rw [parsTo_get hz0, if_neg hno]
      have st := ref_par T2 hzj (q := (p : Int)) (rngI (by omega) (by omega)) (Q := fun h129 => Rng .i64 ((m : Int) + (1 : Int)) ∧ (Sx.r10_Tree_Move.n13_L (fun z0 z2 z10b z10n z10c h => Sx.r10_Tree_Move.n10 z0 z2 z10b z10n z10c (fun y6 h => K (.bool y6) h) (fun y6 h => K (.bool y6) h) h) (fun z0 z2 z10b z10n z10c h => Sx.r10_Tree_Move.n10 z0 z2 z10b z10n z10c (fun y6 h => K (.bool y6) h) (fun y6 h => K (.bool y6) h) h) (fun y6 h => K (.bool y6) h) (N' + 1) (some t) dst q.kb q.kn q.kc ((m : Int) + (1 : Int)) h129)) fun h3 T3 E3 k3 => ⟨rngI (by omega) (by omega), by
        rw [parsTo_step hz0 hno, ← ej, show q.x.kids.take m ++ [q.x.kids[m]] = q.x.kids.take (m + 1) by rw [List.take_add_one, List.getElem?_eq_getElem hml]; rfl] at T3
        exact ih (m + 1) h3 (by omega) T3 (o2.keep k3.w fun z e e3 => by
          have h1 := hc1 z e; rw [e3] at h1; have := (Prod.mk.inj (Option.some.inj h1)).2; omega) (E2.trans E3)⟩
      obtain ⟨b, n, c, hcell, hst⟩ := st
      refine splT (by omega) (vSomeMk ⟨b, n, c, hcell, (o2.row (A := fun _ => True) fun _ _ => trivial).idxN hml rfl fun q hA => ldI hA fun _ => ?_⟩)
      rw [ej, ep]
      rw [ep] at hst
      exact hst
  exact key q.kn 0 h1 (by omega) (by rw [List.take_zero, parsTo_nil]; exact T1) ok1 E1
theorem write_r (T : RefP h col s t ns) (G : GoodT ns) {parent before : Int} {tx : Bs} (hlen : ∀ (i : Nat) x, ns[i]? = some x → x.text.length + tx.length ≤ 9223372036854775807) (htx : tx.length ≤ maxLen) (hfew : ns.length < 1000000)
    (hk : ∀ h' col', RefP h' col' s t (writeM ns parent before tx).1 → Ext s h col h' col' → K (.bool (writeM ns parent before tx).2) h') :
    HCalls Try.prog 27 ⟨[.pointer (some t), .int .i64 parent, .int .i64 before, S tx]⟩ h K := by
  refine Sx.r10_Tree_Write.ok _ _ _ _ _ _ (holds_r T (vBool_mk (condB (fun hh => ?_) fun hh => ?_)))
  · obtain ⟨p, y, ep, hy, hor⟩ := holdB_nat hh
    have hpl := getI hy
    have ekids : (((ns[parent.toNat]?).map (·.kids)).getD []) = y.kids := by rw [ep, Int.toNat_natCast, hy]; rfl
    unfold writeM at hk
    rw [ekids] at hk
    have T0 := T
    have hft := T.few
    have hfk := G.few hy
    rw [ep]
    refine condT (place_r T hy (vIntMk (spl (fun e => ?_) fun e => ?_)))
    · rw [if_pos (fun hh2 => by have := hh2.2; omega)] at hk
      exact hk h col T (Ext.refl _ _ _)
    · rw [if_neg (fun hn => hn ⟨hh, by omega⟩)] at hk
      refine spl (fun e2 => ?_) fun e2 => ?_
      · rw [if_pos e2] at hk
        exact hk h col T (Ext.refl _ _ _)
      · rw [if_neg e2] at hk
        obtain ⟨k, hkk⟩ := Int.eq_ofNat_of_zero_le (show 0 ≤ plcP y.kids before by omega)
        have hkk : plcP y.kids before = (k : Int) := hkk
        rw [hkk, Int.toNat_natCast, ep] at hk
        have other : ((y.kids[k - 1]?).bind (fun q : Int => if 0 < (k : Int) then (ns[q.toNat]?).bind fun z => if z.kind = 2 then some (q.toNat, z) else none else none)) = none → Sx.r10_Tree_Write.n8 (some t) (p : Int) before tx (fun y8 h => K (.bool y8) h) (fun y8 h => K (.bool y8) h) h := fun hnone => by
          rw [hnone] at hk
          refine make_r T (A := fun _ => True) (attrs := []) ⟨rfl, Nat.le_refl _, Nat.zero_le _, fun i x hx => by simp at hx⟩ (by omega) ⟨by decide, by decide⟩ ⟨by decide, by decide⟩ (Nat.zero_le _) htx hfew fun h2 col2 T2 E2 => vIntMk ?_
          exact put_r T2 (G.addM _ _ _ _ _) fun h3 col3 T3 E3 => vBool_mk (condB (fun eb => by have := hk h3 col3 T3 (E2.trans E3); rw [eb] at this; exact this) fun eb => by have := hk h3 col3 T3 (E2.trans E3); rw [eb] at this; exact this)
        rw [hkk]
        refine spl (fun e3 => ?_) fun e3 => other (by
          have e4 : ¬ 0 < (k : Int) := e3
          simp only [if_neg e4]
          cases y.kids[k - 1]? <;> rfl)
        obtain ⟨lb, lc, rs, C, em⟩ := T
        obtain ⟨q, hq, rfl⟩ := map_get em hy
        have N := C.nodes p q hq
        have hkl := N.ok.len
        have hkn : k ≤ q.x.kids.length := by
          have := hkk
          unfold plcP idxP at this
          by_cases eb : before = -1
          · rw [if_pos eb] at this; omega
          · rw [if_neg eb] at this
            by_cases em : before ∈ q.x.kids
            · rw [if_pos em] at this; have := idxN_lt em; omega
            · rw [if_neg em] at this; omega
        have ek : ((k : Int) - 1) = ((k - 1 : Nat) : Int) := by omega
        refine condT (rf_rd C hq fun a hc => ⟨_, _, _, hc 7 _ rfl, rngI (by omega) (by omega), ?_⟩)
        rw [ek]
        have hil : k - 1 < q.x.kids.length := by omega
        refine (N.ok.row (A := fun _ => True) fun _ _ => trivial).idxN hil rfl fun a hA => ldI hA fun _ => ?_
        obtain ⟨j, z, ej, hz', hpz⟩ := (G.kid p _ _ hy).1 (List.getElem_mem hil)
        have hjl := getI hz'
        rw [ej]
        obtain ⟨w, hw, rfl⟩ := map_get em hz'
        have Nw := C.nodes j w hw
        have ebind : ((q.x.kids[k - 1]?).bind (fun q : Int => if 0 < (k : Int) then (ns[q.toNat]?).bind fun z => if z.kind = 2 then some (q.toNat, z) else none else none)) = if w.x.kind = 2 then some (j, w.x) else none := by
          rw [List.getElem?_eq_getElem hil, ej]
          show (if 0 < (k : Int) then (ns[((j : Nat) : Int).toNat]?).bind _ else none) = _
          rw [if_pos (by omega), Int.toNat_natCast, hz']
          rfl
        refine rf_rd C hw fun a2 hc2 => ⟨_, hcZ hc2 0 rfl, spl (fun e4 => ?_) fun e4 => condF (other (by rw [ebind, if_neg e4]))⟩
        rw [ebind, if_pos e4] at hk
        have hlz := hlen j _ hz'
        refine condT (vSomeMk ⟨_, _, _, C.v.cell 0 rfl, rf_rd C hw fun a3 hc3 => ⟨_, hcZ hc3 4 rfl, ?_, ?_⟩⟩)
        · show ((w.x.text.length + tx.length : Nat) : Int) ≤ 9223372036854775807
          omega
        · refine ref_field C hw (f := 4) (r' := { w with x := { w.x with text := w.x.text ++ tx } }) (by omega) rfl rfl ⟨rfl, rfl, rfl, rfl, rfl, rfl, rfl, rfl⟩ ⟨Nw.rk, Nw.rs, Nw.rp, Nw.fn, ?_⟩ fun h2 C2 E2 _ => hk h2 col ⟨_, _, _, C2, map_set em⟩ E2
          show (w.x.text ++ tx).length ≤ _
          rw [List.length_append]; simp only [maxLen]; omega
  · have : writeM ns parent before tx = (ns, false) := by
      unfold writeM
      rw [if_pos (fun hy => by rw [hh] at hy; cases hy.1)]
    rw [this] at hk
    exact hk h col T (Ext.refl _ _ _)
end
end Go.Proofs
