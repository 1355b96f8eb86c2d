/- stars: the program's Match: the loop. No condition. -/
import Derived.Test.YtgpfanbjchieiaaDoorSrD
namespace Go.Proofs
open Go Go.Sh
set_option linter.unusedVariables false
set_option maxRecDepth 100000
section
variable {h0 : H} {K : Value → H → Prop} {B : Nat} {fin : List PairP}
/-- where the loop stands -/
structure MInv (h0 h : H) (B : Nat) (fin : List PairP) (left cs : NL) (ob : Option Addr) (on oc : Nat) (out : List PairP) : Prop where
  L : LeftC h left
  R : RightC h (hd left) cs
  nd : (blks (left ++ cs)).Nodup
  bd : ∀ k ∈ blks (left ++ cs), h0.size ≤ k ∧ k < B
  nb : ∀ x ∈ left ++ cs, NdB x.2
  own : OwnF elPr h B 35 ob on oc out
  kb : KB h0 h
  sz : B ≤ h.size
  res : matchN (left.map (·.2)) (cs.map (·.2)) out = fin
  few : out.length + meas (cs.map (·.2)) ≤ 100000000
abbrev mL (K : Value → H → Prop) (N : Nat) (ob : Option Addr) (on oc : Nat) (p : Option Addr) (h : H) : Prop :=
  Sx.stars_Match.n7_L (fun z3b z3n z3c h => Sx.stars_Match.n4 z3b z3n z3c (fun y2b y2n y2c h => K (.slice y2b y2n y2c) h) (fun y2b y2n y2c h => K (.slice y2b y2n y2c) h) h) (fun z3b z3n z3c h => Sx.stars_Match.n4 z3b z3n z3c (fun y2b y2n y2c h => K (.slice y2b y2n y2c) h) (fun y2b y2n y2c h => K (.slice y2b y2n y2c) h) h) (fun y2b y2n y2c h => K (.slice y2b y2n y2c) h) N ob on oc p h
theorem ownPr_kx {h h' : H} {ob : Option Addr} {on oc : Nat} {out : List PairP} {Bk : Nat → Prop} (o : OwnF elPr h B 35 ob on oc out) (k : SK Bk h h') (hb : ∀ k, B ≤ k → Bk k) : OwnF elPr h' B 35 ob on oc out := o.flatK k flatPr hb
theorem vPtr_mk {p : Option Addr} {k : Option Addr → Prop} (h : k p) : vPtr (.pointer p) k := h
theorem W_id {x : Int} (h1 : -200000 ≤ x) (h2 : x ≤ 200000) : W64 x = x := wrap_small (by omega) (by omega)
theorem match_loop (hk : ∀ h' b n c, KB h0 h' → OwnF elPr h' B 35 b n c fin → K (.slice b n c) h') :
    ∀ (N : Nat) (left cs : NL) h ob on oc out, meas (cs.map (·.2)) ≤ N → MInv h0 h B fin left cs ob on oc out → mL K (N + 1) ob on oc (hd cs) h := by
  intro N
  have stop : ∀ (M : Nat) (left : NL) h ob on oc out, MInv h0 h B fin left [] ob on oc out → mL K (M + 1) ob on oc none h := by
    intro M left h ob on oc out I
    unfold mL Sx.stars_Match.n7_L
    refine ptrNe_k undP (vBool_mk (condF ?_))
    have := I.res
    exact hk h ob on oc I.kb (by rw [← this]; exact I.own)
  induction N with
  | zero =>
    intro left cs h ob on oc out hm I
    cases cs with
    | nil => exact stop 0 left h ob on oc out I
    | cons x cs => rw [List.map_cons, meas_cons] at hm; omega
  | succ N ih =>
    intro left cs h ob on oc out hm I
    cases cs with
    | nil => exact stop _ left h ob on oc out I
    | cons x cs =>
    obtain ⟨ca, c⟩ := x
    rw [List.map_cons, meas_cons] at hm
    have few := I.few
    rw [List.map_cons, meas_cons] at few
    have hm : c.ov.toNat + 1 + meas (cs.map (·.2)) ≤ N + 1 := hm
    have few : out.length + (c.ov.toNat + 1 + meas (cs.map (·.2))) ≤ 100000000 := few
    obtain ⟨vc, hR⟩ := I.R
    obtain ⟨n1, n2, n3, n4, n5⟩ := nd_split I.nd
    have hcB : NdB c := I.nb (ca, c) (by simp)
    have hcb := I.bd ca.block (by simp [blks])
    have e2 : left ++ (ca, c) :: cs = (left ++ [(ca, c)]) ++ cs := by simp
    -- c goes to the left
    have push : matchN (((ca, c) :: left).map (·.2)) (cs.map (·.2)) out = fin → mL K (N + 1) ob on oc (hd cs) h := fun hres => by
      refine ih ((ca, c) :: left) cs h ob on oc out (by omega) ⟨⟨⟨hd cs, vc⟩, I.L⟩, hR, ?_, fun k hk => I.bd k ?_, fun y hy => I.nb y ?_, I.own, I.kb, I.sz, hres, by omega⟩
      · have h := I.nd
        unfold blks at *
        rw [List.map_append, List.nodup_append] at h ⊢
        rw [List.map_cons, List.nodup_cons] at h
        rw [List.map_cons]
        refine ⟨List.nodup_cons.2 ⟨n3, h.1⟩, h.2.1.2, fun a ha b hb => ?_⟩
        rcases List.mem_cons.1 ha with rfl | ha
        · exact fun e => h.2.1.1 (e ▸ hb)
        · exact h.2.2 a ha b (by simp only [List.mem_cons]; exact .inr hb)
      · unfold blks at *
        simp only [List.map_append, List.map_cons, List.mem_append, List.mem_cons] at hk ⊢
        rcases hk with (h | h) | h
        · exact .inr (.inl h)
        · exact .inl h
        · exact .inr (.inr h)
      · simp only [List.mem_append, List.mem_cons] at hy ⊢
        rcases hy with (h | h) | h
        · exact .inr (.inl h)
        · exact .inl h
        · exact .inr (.inr h)
    unfold mL Sx.stars_Match.n7_L
    refine ptrNe_k undP (vBool_mk (condT (nd_cl vc (condB (fun hcl => ?_) fun hcl => nd_laf vc (push (by rw [← I.res, List.map_cons, List.map_cons]; exact (matchN_open hcl).symm))))))
    refine nd_lah vc ⟨left.length + 1, search vc hcB.few left I.L (fun y hy => (I.nb y (by simp [hy])).few) ?_⟩
    have hsp := split_drop c.r left
    cases hdw : left.dropWhile (fun x => !suitsP x.2.r c.r) with
    | nil =>
      rw [hdw] at hsp
      have hres := I.res
      rw [List.map_cons, matchN_none hcl hcB.ov hsp] at hres
      refine ptrEq_k undP (vBool_mk (condT (condT (nd_laf vc (nd_op vc (condB (fun hop => ?_) fun hop => ?_))))))
      · rw [if_pos hop] at hres
        exact push hres
      · rw [if_neg (by rw [hop]; decide)] at hres
        refine cutC I.L vc hR I.nd fun h' hL' hR' k' z' => ?_
        have hb : ∀ k, k ∈ blks left ∨ k ∈ blks cs → h0.size ≤ k ∧ k < B := fun k hk => I.bd k (by
          unfold blks at *
          simp only [List.map_append, List.map_cons, List.mem_append, List.mem_cons]
          rcases hk with h | h
          · exact .inl h
          · exact .inr (.inr h))
        have kb' : KB h0 h' := SK.trans I.kb (k'.less fun k hk => ⟨fun e => by have := hb k (.inl e); have : k < h0.size := hk; omega, fun e => by have := hb k (.inr e); have : k < h0.size := hk; omega⟩)
        refine ih left cs h' ob on oc out (by omega) ⟨hL', hR', ?_, fun k hk => hb k ?_, fun y hy => I.nb y ?_, ownPr_kx I.own k' fun k hk => ⟨fun e => by have := hb k (.inl e); omega, fun e => by have := hb k (.inr e); omega⟩, kb', by rw [z']; exact I.sz, hres, by omega⟩
        · unfold blks at *
          rw [List.map_append, List.nodup_append]
          exact ⟨n1, n2, fun a ha b hb e => n5 a ha (e ▸ hb)⟩
        · unfold blks at *
          simpa [List.map_append, List.mem_append] using hk
        · simp only [List.mem_append, List.mem_cons] at hy ⊢
          rcases hy with h | h
          · exact .inl h
          · exact .inr (.inr h)
    | cons y rest =>
      obtain ⟨oa, o⟩ := y
      rw [hdw] at hsp
      obtain ⟨hspl, mid, hmid⟩ := hsp
      obtain ⟨m1, m2, m3, m4, m5⟩ : (blks ((oa, o) :: rest)).Nodup ∧ oa.block ∉ blks rest ∧ (blks rest).Nodup ∧ (∀ k ∈ blks ((oa, o) :: rest), k ∈ blks left) ∧ (∀ z ∈ (oa, o) :: rest, z ∈ left) := by
        rw [hmid] at n1
        unfold blks at n1 ⊢
        rw [List.map_append, List.nodup_append] at n1
        have := List.nodup_cons.1 (show (oa.block :: blks rest).Nodup from n1.2.1)
        exact ⟨n1.2.1, this.1, this.2, fun k hk => by rw [hmid, List.map_append]; exact List.mem_append_right _ hk, fun z hz => by rw [hmid]; exact List.mem_append_right _ hz⟩
      have hLo : LeftC h ((oa, o) :: rest) := by
        have hL := I.L
        rw [hmid] at hL
        clear hmid m4 m5
        induction mid with
        | nil => exact hL
        | cons w mid ihm => obtain ⟨w1, w2⟩ := w; exact ihm hL.2
      obtain ⟨⟨of, vo⟩, hLr⟩ := hLo
      have hoB : NdB o := I.nb (oa, o) (by simp [m5])
      have hob := I.bd oa.block (by
        have := m4 oa.block (by simp [blks])
        unfold blks at *
        rw [List.map_append]; exact List.mem_append_left _ this)
      have hoc : oa.block ≠ ca.block := fun e => n3 (e ▸ m4 oa.block (by simp [blks]))
      have hrb : ∀ k ∈ blks rest, (h0.size ≤ k ∧ k < B) ∧ k ≠ oa.block ∧ k ≠ ca.block := fun k hk => by
        have hkl := m4 k (by simp only [blks, List.map_cons, List.mem_cons]; exact .inr hk)
        exact ⟨I.bd k (by unfold blks at *; rw [List.map_append]; exact List.mem_append_left _ hkl), fun e => m2 (e ▸ hk), fun e => n3 (e ▸ hkl)⟩
      have hcsb : ∀ k ∈ blks cs, (h0.size ≤ k ∧ k < B) ∧ k ≠ oa.block ∧ k ≠ ca.block := fun k hk =>
        ⟨I.bd k (by unfold blks at *; rw [List.map_append, List.map_cons]; exact List.mem_append_right _ (List.mem_cons_of_mem _ hk)), fun e => n5 oa.block (m4 oa.block (by simp [blks])) (e ▸ hk), fun e => n4 (e ▸ hk)⟩
      have hrc : ∀ k ∈ blks rest, k ∉ blks cs := fun k hk => n5 k (m4 k (by simp only [blks, List.map_cons, List.mem_cons]; exact .inr hk))
      have hocs : oa.block ∉ blks cs := n5 oa.block (m4 oa.block (by simp [blks]))
      have hn := nOf_bd hoB.ov hcB.ov
      have hres := I.res
      rw [List.map_cons, matchN_some hcl hcB.ov (fun z hz => by
        rcases List.mem_cons.1 hz with rfl | hz
        · exact hoB.ov
        · obtain ⟨w, hw, rfl⟩ := List.mem_map.1 hz
          exact (I.nb w (by simp [m5 w (by simp [hw])])).ov) hspl] at hres
      have o1 := hoB.fr; have o2 := hoB.ov; have o3 := hoB.sm
      have c1 := hcB.fr; have c2 := hcB.ov; have c3 := hcB.sm
      have hL' : leftO o c (rest.map (·.2)) = (if o.ov - nOf o c = 0 then rest else (oa, ⟨o.r, o.fr, o.ov - nOf o c⟩) :: rest).map (·.2) := by
        unfold leftO; split <;> rfl
      rw [hL'] at hres
      have go : ∀ n : Int, n = nOf o c → Sx.stars_Match.n16 ob on oc (some ca) (some oa) n (fun z3b z3n z3c z4 h => mL K (N + 1) z3b z3n z3c z4 h) (fun z3b z3n z3c z4 h => mL K (N + 1) z3b z3n z3c z4 h) (fun z3b z3n z3c h => Sx.stars_Match.n4 z3b z3n z3c (fun y2b y2n y2c h => K (.slice y2b y2n y2c) h) (fun y2b y2n y2c h => K (.slice y2b y2n y2c) h) h) (fun y2b y2n y2c h => K (.slice y2b y2n y2c) h) h := by
        intro n hnn
        have ep : pairOf o c = (W64 (o.r.pl + o.fr + (o.ov - n)), W64 (c.r.pl + (c.fr + n)), n) := by unfold pairOf; rw [← hnn]
        have hc' : nextC o c = ⟨c.r, c.fr + n, c.ov - n⟩ := by unfold nextC; rw [← hnn]
        rw [← hnn] at hres hn
        rw [hc', ep] at hres
        clear ep hc' hL'
        refine nd_lov vo ?_
        rw [show IntKind.wrap .i64 (o.ov - n) = o.ov - n from W_id (by omega) (by omega)]
        refine nd_ov vo fun h1 vo1 k1 z1 => nd_lov (vc.keep k1.w (Ne.symm hoc)) ?_
        rw [show IntKind.wrap .i64 (c.ov - n) = c.ov - n from W_id (by omega) (by omega)]
        refine nd_ov (vc.keep k1.w (Ne.symm hoc)) fun h2 vc2 k2 z2 => nd_lfr vc2 ?_
        rw [show IntKind.wrap .i64 (c.fr + n) = c.fr + n from W_id (by omega) (by omega)]
        refine nd_fr vc2 fun h3 vc3 k3 z3 => ?_
        have vo3 := (vo1.keep k2.w hoc).keep k3.w hoc
        refine nd_pl vo3 (nd_lfr vo3 (nd_lov vo3 (nd_pl vc3 (nd_lfr vc3 ?_))))
        rw [show IntKind.wrap .i64 (IntKind.wrap .i64 (o.r.pl + o.fr) + (o.ov - n)) = W64 (o.r.pl + o.fr + (o.ov - n)) from W_add _ _]
        have k03 : SK (fun k => k ≠ oa.block ∧ k ≠ ca.block) h h3 := ((k1.less fun k hk => hk.1).trans (k2.less fun k hk => hk.2)).trans (k3.less fun k hk => hk.2)
        have own3 := ownPr_kx I.own k03 fun k hk => ⟨by omega, by omega⟩
        have ol := own3.own.len
        have z03 : h3.size = h.size := by rw [z3, z2, z1]
        have sz := I.sz
        refine one_app (x := (W64 (o.r.pl + o.fr + (o.ov - n)), W64 (c.r.pl + (c.fr + n)), n)) apdPr (fun A h => prR rngW rngW ⟨by show (-9223372036854775808 : Int) ≤ n; omega, by show n ≤ (9223372036854775807 : Int); omega⟩) own3 (by omega) (by simp only [maxLen]; omega) (by omega) fun b6 c6 h6 own6 k6 => vSliceMk ?_
        have vo6 := vo3.keep k6.w hob.2
        have vc6 := vc3.keep k6.w hcb.2
        refine nd_af vo6 fun h7 vo7 k7 z7 => nd_ah (vc6.keep k7.w (Ne.symm hoc)) fun h8 vc8 k8 z8 => ?_
        have vo8 := vo7.keep k8.w hoc
        have k68 : SK (fun k => k ≠ oa.block ∧ k ≠ ca.block) h6 h8 := (k7.less fun k hk => hk.1).trans (k8.less fun k hk => hk.2)
        have own8 := ownPr_kx own6 k68 fun k hk => ⟨by omega, by omega⟩
        have k08 : SK (fun k => k < B ∧ k ≠ oa.block ∧ k ≠ ca.block) h h8 := ((k03.less fun k hk => hk.2).trans (k6.less fun k hk => hk.1)).trans (k68.less fun k hk => hk.2)
        have hL8 := hLr.keep k08 fun k hk => ⟨(hrb k hk).1.2, (hrb k hk).2⟩
        have hR8 := hR.keep k08 fun k hk => ⟨(hcsb k hk).1.2, (hcsb k hk).2⟩
        have kb8 : KB h0 h8 := SK.trans I.kb (k08.less fun k hk => by have hk : k < h0.size := hk; exact ⟨by omega, by omega, by omega⟩)
        have s8 : B ≤ h8.size := Nat.le_trans sz k08.1
        have fewc : (out ++ [((W64 (o.r.pl + o.fr + (o.ov - n)), W64 (c.r.pl + (c.fr + n)), n) : PairP)]).length = out.length + 1 := by simp
        generalize out ++ [((W64 (o.r.pl + o.fr + (o.ov - n)), W64 (c.r.pl + (c.fr + n)), n) : PairP)] = out' at *
        clear own3 own6 vo1 vc2 vc3 vo3 vo6 vc6 vo7 k1 k2 k3 k6 k7 k8 k68 k03 z1 z2 z3 z7 z8 z03 ol
        -- c, behind the opener
        have last : ∀ h9 (left' : NL), LeftC h9 left' → NodeAt h9 ca ⟨c.r, c.fr + n, c.ov - n⟩ (hd left') (hd cs) → RightC h9 (some ca) cs → (blks (left' ++ (ca, ⟨c.r, c.fr + n, c.ov - n⟩) :: cs)).Nodup → (∀ k ∈ blks left', h0.size ≤ k ∧ k < B) → (∀ z ∈ left', NdB z.2) →
            OwnF elPr h9 B 35 b6 (on + 1) c6 out' → KB h0 h9 → B ≤ h9.size → left' = (if o.ov - n = 0 then rest else (oa, ⟨o.r, o.fr, o.ov - n⟩) :: rest) →
            Sx.stars_Match.n22 b6 (on + 1) c6 (some ca) (fun z3b z3n z3c z4 h => mL K (N + 1) z3b z3n z3c z4 h) (fun z3b z3n z3c z4 h => mL K (N + 1) z3b z3n z3c z4 h) (fun z3b z3n z3c h => Sx.stars_Match.n4 z3b z3n z3c (fun y2b y2n y2c h => K (.slice y2b y2n y2c) h) (fun y2b y2n y2c h => K (.slice y2b y2n y2c) h) h) (fun y2b y2n y2c h => K (.slice y2b y2n y2c) h) h9 := by
          intro h9 left' hL9 vc9 hR9 nd9 bd9 nb9 own9 kb9 s9 el
          rw [← el] at hres
          obtain ⟨q1, q2, q3, q4, q5⟩ := nd_split nd9
          refine nd_lov vc9 (spl (fun e => nd_laf vc9 (cutC hL9 vc9 hR9 nd9 fun h10 hL10 hR10 k10 z10 => ?_)) fun e => ?_)
          · have e : c.ov - n = 0 := e
            rw [if_pos e] at hres
            refine ih left' cs h10 b6 _ c6 out' (by omega) ⟨hL10, hR10, ?_, fun k hk => ?_, fun z hz => ?_, ownPr_kx own9 k10 fun k hk => ⟨fun e => by have := bd9 k e; omega, fun e => by have := (hcsb k e).1; omega⟩, SK.trans kb9 (k10.less fun k hk => by have hk : k < h0.size := hk; exact ⟨fun e => by have := bd9 k e; omega, fun e => by have := (hcsb k e).1; omega⟩), by omega, hres, by omega⟩
            · unfold blks at *
              rw [List.map_append, List.nodup_append]
              exact ⟨q1, q2, fun a ha b hb e => q5 a ha (e ▸ hb)⟩
            · unfold blks at *
              rw [List.map_append] at hk
              rcases List.mem_append.1 hk with hk | hk
              · exact bd9 k hk
              · exact (hcsb k hk).1
            · rcases List.mem_append.1 hz with hz | hz
              · exact nb9 z hz
              · exact I.nb z (by simp [hz])
          · have e : ¬ c.ov - n = 0 := e
            rw [if_neg e] at hres
            refine ih left' ((ca, ⟨c.r, c.fr + n, c.ov - n⟩) :: cs) h9 b6 _ c6 out' ?_ ⟨hL9, ⟨vc9, hR9⟩, nd9, fun k hk => ?_, fun z hz => ?_, own9, kb9, s9, hres, ?_⟩
            · rw [List.map_cons, meas_cons]; show (c.ov - n).toNat + 1 + _ ≤ N; omega
            · unfold blks at *
              rw [List.map_append, List.map_cons] at hk
              rcases List.mem_append.1 hk with hk | hk
              · exact bd9 k hk
              · rcases List.mem_cons.1 hk with rfl | hk
                · exact hcb
                · exact (hcsb k hk).1
            · rcases List.mem_append.1 hz with hz | hz
              · exact nb9 z hz
              · rcases List.mem_cons.1 hz with rfl | hz
                · exact ⟨hcB.r, hcB.mn, hcB.mx, show 0 ≤ c.fr + n by omega, show 1 ≤ c.ov - n by omega, show c.fr + n + (c.ov - n) ≤ _ by omega⟩
                · exact I.nb z (by simp [hz])
            · rw [List.map_cons, meas_cons]; show _ + ((c.ov - n).toNat + 1 + _) ≤ _; omega
        have ndr : (blks (rest ++ (ca, (⟨c.r, c.fr + n, c.ov - n⟩ : Nd)) :: cs)).Nodup := by
          unfold blks at *
          rw [List.map_append, List.nodup_append, List.map_cons, List.nodup_cons]
          refine ⟨m3, ⟨n4, n2⟩, fun a ha b hb e => ?_⟩
          subst e
          rcases List.mem_cons.1 hb with hb | hb
          · exact (hrb a ha).2.2 hb
          · exact hrc a ha hb
        refine nd_lov vo8 (spl (fun e => cutO hL8 vo8 vc8 m3 m2 (fun e => (hrb _ e).2.2 rfl) hoc fun h9 hL9 vc9 k9 z9 => ?_) fun e => ?_)
        · refine last h9 rest hL9 vc9 (hR8.keep k9 fun k hk => ⟨fun e => hrc k e hk, (hcsb k hk).2.2⟩) ndr (fun k hk => (hrb k hk).1) (fun z hz => I.nb z (by simp [m5 z (by simp [hz])])) (ownPr_kx own8 k9 fun k hk => ⟨fun e => by have := (hrb k e).1; omega, by omega⟩) (SK.trans kb8 (k9.less fun k hk => by have hk : k < h0.size := hk; exact ⟨fun e => by have := (hrb k e).1; omega, by omega⟩)) (by omega) (by rw [if_pos (show o.ov - n = 0 from e)])
        · have e : ¬ o.ov - n = 0 := e
          refine last h8 ((oa, ⟨o.r, o.fr, o.ov - n⟩) :: rest) ⟨⟨_, vo8⟩, hL8⟩ vc8 hR8 ?_ (fun k hk => ?_) (fun z hz => ?_) own8 kb8 s8 (by rw [if_neg e])
          · show (oa.block :: blks (rest ++ _)).Nodup
            refine List.nodup_cons.2 ⟨fun hm => ?_, ndr⟩
            unfold blks at *
            rw [List.map_append, List.map_cons] at hm
            rcases List.mem_append.1 hm with hm | hm
            · exact m2 hm
            · rcases List.mem_cons.1 hm with hm | hm
              · exact hoc hm
              · exact hocs hm
          · rcases List.mem_cons.1 (show k ∈ oa.block :: blks rest from hk) with rfl | hk
            · exact hob
            · exact (hrb k hk).1
          · rcases List.mem_cons.1 hz with rfl | hz
            · exact ⟨hoB.r, hoB.mn, hoB.mx, o1, show 1 ≤ o.ov - n by omega, show o.fr + (o.ov - n) ≤ _ by omega⟩
            · exact I.nb z (by simp [m5 z (by simp [hz])])
      refine ptrEq_k undP (vBool_mk (condF (condF (nd_lov vo (spl (fun e1 => nd_lov vc (spl (fun e2 => go 2 ?_) fun e2 => go 1 ?_)) fun e1 => go 1 ?_)))))
      · unfold nOf; rw [if_pos ⟨by omega, by omega⟩]
      · unfold nOf; rw [if_neg (by omega)]
      · unfold nOf; rw [if_neg (by omega)]
variable {h : H} {A : Nat → Prop} {b : Option Addr} {n c : Nat} {l : List RunP}
theorem liveL_ok {l : List RunP} (hb : ∀ r ∈ l, r.mn ≤ 100000) {ns : NL} (e : ns.map (·.2) = liveL l) (hr : ∀ x ∈ ns, RunR x.2.r) : ∀ x ∈ ns, NdB x.2 := fun x hx => by
  have hm : x.2 ∈ liveL l := by rw [← e]; exact List.mem_map_of_mem hx
  unfold liveL at hm
  obtain ⟨r, hr1, hr2⟩ := List.mem_map.1 hm
  rw [List.mem_filter] at hr1
  have h1 : r.2.2.1 > 0 := by simpa using hr1.2
  have h2 := hb r hr1.1
  have h2 : r.2.2.1 ≤ 100000 := h2
  have h3 := hr x hx
  rw [← hr2] at h3 ⊢
  exact ⟨h3, show 1 ≤ r.2.2.1 by omega, h2, Int.le_refl _, show 1 ≤ r.2.2.1 by omega, show 0 + r.2.2.1 ≤ _ by omega⟩
theorem match_calls (r : Row elRun A h b n c l) (hn : n ≤ 1000) (hb : ∀ r ∈ l, r.mn ≤ 10000) (hk : ∀ h' b' n' c', KB h h' → OwnF elPr h' h.size 35 b' n' c' (matchP l) → K (.slice b' n' c') h') : HCalls Tryd.prog 11 ⟨[.slice b n c]⟩ h K := by
  have hl := r.len
  refine Sx.stars_Match.ok _ _ _ _ _ (chain_calls r (by omega) fun ns h1 e1 hR hnd hbd hrr k1 => ?_)
  have hm : meas (ns.map (·.2)) ≤ 100000000 := by
    rw [e1]
    have : ∀ l : List RunP, (∀ r ∈ l, r.mn ≤ 10000) → meas (liveL l) ≤ l.length * 10001 := by
      intro l
      induction l with
      | nil => intro _; exact Nat.le_refl _
      | cons r l ih =>
        intro hb
        have h1 : r.2.2.1 ≤ 10000 := hb r (by simp)
        have := ih fun x hx => hb x (by simp [hx])
        unfold liveL at *
        rw [List.length_cons, Nat.add_mul]
        by_cases h : r.2.2.1 > 0
        · rw [List.filter_cons_of_pos (by simpa using h), List.map_cons, meas_cons]
          show r.2.2.1.toNat + 1 + _ ≤ _
          omega
        · rw [List.filter_cons_of_neg (by simpa using h)]; omega
    have := this l hb
    have : l.length * 10001 ≤ 1000 * 10001 := Nat.mul_le_mul_right _ (by omega)
    omega
  refine vPtr_mk ⟨meas (ns.map (·.2)) + 1, match_loop (h0 := h) (B := h1.size) (fin := matchP l) (fun h' b' n' c' k' o' => hk h' b' n' c' k' (o'.lower k1.1)) _ [] ns h1 none 0 0 [] (Nat.le_refl _) ⟨trivial, hR, hnd, hbd, liveL_ok (fun r hr => by have := hb r hr; omega) e1 hrr, OwnF.none _ _ _, k1, Nat.le_refl _, ?_, by simpa using hm⟩⟩
  rw [e1, match_live]; rfl
end
end Go.Proofs
