/- dom: the chapter's tree: Whole. No condition but that the tree is one and its nodes hold what their kinds have. -/
import Derived.Test.YtmnjhhgdhlgjfaaGreatDrE
import Derived.Test.YtmnjhhgdhlgjfaaGreatDoL
import Derived.Test.YtmnjhhgdhlgjfaaGreatDoM
namespace Go.Proofs
open Go Go.Sh
set_option linter.unusedVariables false
set_option maxRecDepth 100000
theorem _root_.Go.Sh.OwnF.flatNe {α : Type} {E : El α} {h h' : H} {base e n c g : Nat} {b : Option Addr} {l : List α} (o : OwnF E h base e b n c l) (k : KX g h h') (hf : Flat E) (hne : ∀ q, b = some q → q.block ≠ g) : OwnF E h' base e b n c l :=
  ⟨o.own.flatK k.w hf fun g e _ _ => hne _ e, o.lo, fun a ea => Nat.lt_of_lt_of_le (o.hi a ea) k.1, o.nil⟩
section
variable {h h' : H} {K : Value → H → Prop} {col col' : Col} {s i p : Nat} {t a : Addr} {ns : List NodeM} {x y z : NodeM} {lb : Option Addr} {lc : Nat} {rs : List RawN} {r : RawN}
theorem bare_n (B : BareN z) {ab kb : Option Addr} {an ac kn kc : Nat} {A : Nat → Prop} (r : Row elAttr A h ab an ac z.attrs) (han : an ≤ 1000000)
    (hk : ∀ b' n' c' h', OwnF elAttr h' h.size 79 b' n' c' z.attrs → KB h h' → K (.agg ⟨[.int .u8 z.kind, .int .u8 z.space, S z.name, .slice b' n' c', S z.text, .slice none 0 0]⟩) h') :
    HCalls Tryz.prog 65 ⟨[.agg ⟨[.int .u8 z.kind, .int .u8 z.space, S z.name, .slice ab an ac, S z.text, .slice kb kn kc]⟩]⟩ h K := by
  refine bare_r r han (fun e b' c' h' o k => ?_) fun e h' k => ?_
  · rcases B with ⟨_, et⟩ | ⟨e2, _⟩
    · have := hk b' an c' h' o k
      rw [et] at this
      exact this
    · exact absurd e e2
  · rcases B with ⟨e2, _⟩ | ⟨_, e1, e2, e3⟩
    · exact absurd e2 e
    · have := hk none 0 0 h' (by rw [e3]; exact OwnF.none _ _ _) k
      rw [e1, e2] at this
      exact this
theorem whole_r (G : GoodT ns) (B : BareT ns) : ∀ (d : Nat) (id : Int) {h : H} {K : Value → H → Prop} (T : RefP h col s t ns) (hd : Deep d ns id)
    (hk : ∀ h' b n c, KB h h' → OwnR (elNode d) h' h.size 57 b n c (wholeL d ns id) → K (.slice b n c) h'),
    HCalls Tryz.prog 50 ⟨[.pointer (some t), .int .i64 id]⟩ h K := by
  intro d
  induction d with
  | zero => intro id h K T hd; exact hd.elim
  | succ d ihd =>
    intro id h K T hd hk
    have hft := T.few
    refine Sx.r10_Tree_Whole.ok _ _ _ _ (there_r T (vBool_mk (condB (fun e => ?_) fun e => ?_)))
    · have e := of_decide_eq_true e
      obtain ⟨i, rfl⟩ := Int.eq_ofNat_of_zero_le e.1
      have hx : ns[i]? = some (ns[i]'(by omega)) := List.getElem?_eq_getElem (by omega)
      generalize ns[i]'(by omega) = x at hx
      have T0 := T
      have hfx := G.few hx
      obtain ⟨lb, lc, rs, C, em⟩ := T
      obtain ⟨r, hr, rfl⟩ := map_get em hx
      have N := C.nodes i r hr
      have hkl := N.ok.len
      have ew : wholeL (d + 1) ns (i : Int) = r.x.kids.map fun k => nodeVI ns k (wholeL d ns k) := by
        show (kidsI ns (i : Int)).map _ = _
        rw [kidsI_some hx]
      have hdk : ∀ k ∈ r.x.kids, Deep d ns k := by
        have := hd
        intro k hk2
        exact this k (by rw [kidsI_some hx]; exact hk2)
      have hk : ∀ h' b n c, KB h h' → OwnR (elNode (d + 1)) h' h.size 57 b n c (wholeL (d + 1) ns (i : Int)) → K (.slice b n c) h' := hk
      rw [ew] at hk
      refine condT (rf_rd C hr fun a hc => ⟨_, _, _, hc 7 _ rfl, r.kn + 1, ?_⟩)
      have key : ∀ N' m h2 ob oc (out : List NodeV), m + N' = r.kn → KB h h2 → OwnR (elNode (d + 1)) h2 h.size 57 ob m oc out → out = (r.x.kids.take m).map (fun k => nodeVI ns k (wholeL d ns k)) →
          Sx.r10_Tree_Whole.n10_L (fun z6b z6n z6c h => Sx.r10_Tree_Whole.n7 z6b z6n z6c (fun y4b y4n y4c h => K (.slice y4b y4n y4c) h) (fun y4b y4n y4c h => K (.slice y4b y4n y4c) h) h) (fun z6b z6n z6c h => Sx.r10_Tree_Whole.n7 z6b z6n z6c (fun y4b y4n y4c h => K (.slice y4b y4n y4c) h) (fun y4b y4n y4c h => K (.slice y4b y4n y4c) h) h) (fun y4b y4n y4c h => K (.slice y4b y4n y4c) h) (N' + 1) (some t) ob m oc r.kb r.kn r.kc (m : Int) h2 := by
        intro N'
        induction N' with
        | zero =>
          intro m h2 ob oc out hmN k2 o2 eo
          unfold Sx.r10_Tree_Whole.n10_L
          refine splF (by omega) ?_
          rw [List.take_of_length_le (by omega)] at eo
          rw [eo] at o2
          exact hk h2 ob m oc k2 o2
        | succ N' ih =>
          intro m h2 ob oc out hmN k2 o2 eo
          have hml : m < r.x.kids.length := by omega
          have ok2 : OwnI h2 r.kb r.kn r.kc r.x.kids := N.ok.keep (KB.w k2) fun q e => N.ok.hi q e
          obtain ⟨j, z, ej, hz', hpz⟩ := (G.kid i _ _ hx).1 (List.getElem_mem hml)
          have hjl := getI hz'
          obtain ⟨w, hw, rfl⟩ := map_get em hz'
          have C2 := C.kb k2
          have Nw := C2.nodes j w hw
          have Bw := B.all j _ hz'
          have hal2 := Nw.ra.len
          have hfa := Nw.fa
          have hdj : Deep d ns (j : Int) := by rw [← ej]; exact hdk _ (List.getElem_mem hml)
          have hs2 := k2.1
          have hob := o2.hi
          have rdI : ∀ (h3 : H) (Q : Int → Prop), KB h2 h3 → Q (j : Int) → (0 ≤ (m : Int) ∧ (m : Int) < (r.kn : Int)) ∧ vSome r.kb fun a => ∃ i, cell h3 (a.add (Int.toNat (m : Int) * 1)) = some (.int .i64 i) ∧ Q i := fun h3 Q k3 hq => by
            have ok3 : OwnI h3 r.kb r.kn r.kc r.x.kids := ok2.keep (KB.w k3) fun q e => ok2.hi q e
            refine (ok3.row (A := fun _ => True) fun _ _ => trivial).idxN hml rfl fun q hA => ldI hA fun _ => ?_
            rw [ej]; exact hq
          -- what stands behind both orders
          have tail : ∀ (a3 : Addr) (h4 : H) (b5 : Option Addr) (n5 c5 base : Nat), KB h2 h4 → Var h4 a3 57 [.int .u8 w.x.kind, .int .u8 w.x.space, S w.x.name, .slice b5 n5 c5, S w.x.text, .slice none 0 0] → h2.size ≤ a3.block → h2.size ≤ base → OwnF elAttr h4 base 79 b5 n5 c5 w.x.attrs → (∀ q, b5 = some q → q.block ≠ a3.block) →
              ((0 ≤ (m : Int) ∧ (m : Int) < (r.kn : Int)) ∧ (vSome r.kb fun a104 => ∃ i105, cell h4 (a104.add (Int.toNat (m : Int) * 1)) = some (.int .i64 i105) ∧ (HCalls Tryz.prog 50 ⟨[(.pointer (some t)), (.int .i64 i105)]⟩ h4 fun v106 h107 => vSlice v106 fun s108b s108n s108c => stL (a3.add 5) [(.slice s108b s108n s108c)] 0 h107 fun h109 => ∃ i110, cell h109 ((a3).add 0) = some (.int .u8 i110) ∧ (∃ i111, cell h109 ((a3).add 1) = some (.int .u8 i111) ∧ (∃ s112, cell h109 ((a3).add 2) = some (S s112) ∧ (∃ s113b s113n s113c, cell h109 ((a3).add 3) = some (.slice s113b s113n s113c) ∧ (∃ s114, cell h109 ((a3).add 4) = some (S s114) ∧ (∃ s115b s115n s115c, cell h109 ((a3).add 5) = some (.slice s115b s115n s115c) ∧ (newx h109 #[(.int .u8 i110), (.int .u8 i111), (S s112), (.slice s113b s113n s113c), (S s114), (.slice s115b s115n s115c)] 57 fun a116 h117 => SemH Tryz.prog (Builtin.append_ #[54, 54] 54 ⟨[(.slice ob m oc), (.slice (some a116) 1 1)]⟩) h117 fun v118 h119 => vSlice v118 fun s120b s120n s120c => Rng .i64 ((m : Int) + (1 : Int)) ∧ (Sx.r10_Tree_Whole.n10_L (fun z6b z6n z6c h => Sx.r10_Tree_Whole.n7 z6b z6n z6c (fun y4b y4n y4c h => K (.slice y4b y4n y4c) h) (fun y4b y4n y4c h => K (.slice y4b y4n y4c) h) h) (fun z6b z6n z6c h => Sx.r10_Tree_Whole.n7 z6b z6n z6c (fun y4b y4n y4c h => K (.slice y4b y4n y4c) h) (fun y4b y4n y4c h => K (.slice y4b y4n y4c) h) h) (fun y4b y4n y4c h => K (.slice y4b y4n y4c) h) (N' + 1) (some t) s120b s120n s120c r.kb r.kn r.kc ((m : Int) + (1 : Int)) h119)))))))))) := by
            intro a3 h4 b5 n5 c5 base k24 v4 ha3 hbase o5 hne
            have hs4 := k24.1
            refine rdI h4 _ k24 (ihd (j : Int) (T0.kb (k2.trans k24)) hdj fun h6 b6 n6 c6 k6 o6 => vSliceMk ?_)
            have hs6 := k6.1
            have hv4 := v4.lt
            refine stL_var (m := 5) (i := 0) (v4.kb k6) (by show 5 + 0 + 1 ≤ 6; omega) fun h8 v8 k8 s8 => ?_
            have v8 : Var h8 a3 57 [.int .u8 w.x.kind, .int .u8 w.x.space, S w.x.name, .slice b5 n5 c5, S w.x.text, .slice b6 n6 c6] := v8
            refine ⟨_, v8.cell 0 rfl, _, v8.cell 1 rfl, _, v8.cell 2 rfl, _, _, _, v8.cell 3 rfl, _, v8.cell 4 rfl, _, _, _, v8.cell 5 rfl, newx_var fun a9 h9 v9 k9 e9 s9 => ?_⟩
            have k28 : KB h2 h8 := KB.step (k24.trans k6) k8 (by omega)
            have o9 : OwnR (elNode (d + 1)) h9 h.size 57 ob m oc out := (o2.kb k28).kb k9
            have oa : OwnF elAttr h9 base 79 b5 n5 c5 w.x.attrs := ((o5.kb k6).flatNe k8 flatAttr hne).kb k9
            have okk : OwnR (elNode d) h9 h4.size 57 b6 n6 c6 (wholeL d ns j) := (o6.kw (k8.w.less fun g (hg : h4.size ≤ g) => by omega)).kb k9
            have hR : nodeR (d + 1) (fun k => h.size ≤ k ∧ But h9 ob k) h9 (.mk w.x.kind w.x.space w.x.name w.x.attrs w.x.text (wholeL d ns j)) [.int .u8 w.x.kind, .int .u8 w.x.space, S w.x.name, .slice b5 n5 c5, S w.x.text, .slice b6 n6 c6] :=
              nodeR_mk (x := .mk w.x.kind w.x.space w.x.name w.x.attrs w.x.text (wholeL d ns j)) (oa.behind flatAttr fun k h1 h2' => ⟨by omega, h2', fun q e => by have := hob q e; omega⟩) oa.nil
                (okk.row.keep (Keep.refl _ _) fun k hk hs => ⟨by have := hk.1; omega, hs, fun q e => by have := hob q e; have := hk.1; omega⟩) okk.nil Nw.rk Nw.rs Nw.fn Nw.ft
            have r9 : Row (elNode (d + 1)) (fun k => h.size ≤ k ∧ But h9 ob k) h9 (some a9) 1 1 [.mk w.x.kind w.x.space w.x.name w.x.attrs w.x.text (wholeL d ns j)] := v9.row1 hR ⟨by omega, v9.lt, fun q e => by have := hob q e; omega⟩
            refine OwnR.append (apdNode (d + 1)) o9 r9 (by simp only [maxLen]; omega) (by omega) (by omega) fun b10 c10 h10 o10 g10 => vSliceMk ⟨rngI (by omega) (by omega), ?_⟩
            refine ih (m + 1) h10 b10 c10 _ (by omega) ?_ o10 ?_
            · exact g10.kb0 ((k2.trans k28).trans k9) fun q e => o2.lo q e
            · rw [eo, List.take_add_one, List.getElem?_eq_getElem hml, List.map_append, ej]
              congr 1
              show [_] = [nodeVI ns (j : Int) _]
              unfold nodeVI
              rw [Int.toNat_natCast, hz']
          unfold Sx.r10_Tree_Whole.n10_L
          refine splT (by omega) ⟨vSomeMk ⟨_, _, _, C2.v.cell 0 rfl, rdI h2 _ (KB.refl h2) (rf_el C2 hw fun a2 hc2 => ?_)⟩, vSomeMk ⟨_, _, _, C2.v.cell 0 rfl, rdI h2 _ (KB.refl h2) (rf_el C2 hw fun a2 hc2 => ?_)⟩⟩
          · refine ⟨_, hcZ hc2 0 rfl, _, hcZ hc2 1 rfl, _, hcZ hc2 2 rfl, _, _, _, hcZ hc2 3 rfl, _, hcZ hc2 4 rfl, _, _, _, hcZ hc2 5 rfl, bare_n Bw Nw.ra (by omega) fun b5 n5 c5 h3 o3 k3 => aggN (newx_var fun a4 h4 v4 k4 e4 s4 => stL_var0 v4 (Nat.le_refl 6) fun h5 v5 k5 s5 => ?_)⟩
            have hs3 := k3.1
            exact tail a4 h5 b5 n5 c5 h2.size (KB.step (k3.trans k4) k5 (by omega)) v5 (by omega) (Nat.le_refl _) ((o3.kb k4).flatNe k5 flatAttr fun q e => by have := o3.hi q e; omega) fun q e => by have := o3.hi q e; omega
          · refine ⟨_, hcZ hc2 0 rfl, _, hcZ hc2 1 rfl, _, hcZ hc2 2 rfl, _, _, _, hcZ hc2 3 rfl, _, hcZ hc2 4 rfl, _, _, _, hcZ hc2 5 rfl, newx_var fun a4 h4 v4 k4 e4 s4 => ⟨k4.ext, ?_⟩⟩
            refine bare_n Bw ((C2.kb k4).nodes j w hw).ra (by omega) fun b5 n5 c5 h3 o3 k3 => aggN (stL_var0 (v4.kb k3) (Nat.le_refl 6) fun h5 v5 k5 s5 => ?_)
            have hs3 := k3.1
            exact tail a4 h5 b5 n5 c5 h4.size (KB.step (k4.trans k3) k5 (by omega)) v5 (by omega) (by omega) (o3.flatNe k5 flatAttr fun q e => by have := o3.lo q e; omega) fun q e => by have := o3.lo q e; omega
      exact key r.kn 0 h none 0 [] (by omega) (KB.refl h) (OwnR.none _ _ _) rfl
    · have e0 := of_decide_eq_false e
      have e : wholeL (d + 1) ns id = [] := by
        unfold wholeL kidsI
        by_cases h0 : 0 ≤ id
        · rw [if_pos h0, List.getElem?_eq_none (by omega)]; rfl
        · rw [if_neg h0]; rfl
      rw [e] at hk
      exact hk h none 0 0 (KB.refl h) (OwnR.none _ _ _)
end
end Go.Proofs
