/- stars: the chapter's Match: the walk. No condition. -/
import Derived.Test.YtgpfanbjchieiaaDoorSrG
namespace Go.Proofs
open Go Go.Sh
set_option linter.unusedVariables false
set_option maxRecDepth 100000
section
variable {h0 : H} {K : Value → H → Prop} {B : Nat} {A : Nat → Prop} {b sb : Option Addr} {n c sn sc : Nat} {l : List RunP}
abbrev KT := Option Addr → Nat → Nat → Option Addr → Nat → Nat → Option Addr → Nat → Nat → Int → H → Prop
/-- the runs between two that belong together are out -/
theorem ref_marks {Kn Ke8 : Option Addr → Nat → Nat → Option Addr → Nat → Nat → Option Addr → Nat → Nat → Int → Int → H → Prop} {Ke5 Ke4 Ke3 : KT} {Ke2 Kr : Option Addr → Nat → Nat → H → Prop} {ob : Option Addr} {on oc ci o : Nat} {out : List PairP} (hcl : ci < l.length) (hln : l.length ≤ 1000)
    {st0 : List StP} (hk : ∀ h st, SI h0 h B sb sn sc l st → OwnF elPr h B 35 ob on oc out → (∀ j, g st j = if o < j ∧ j < ci then ((g st0 j).1, (g st0 j).2.1, true) else g st0 j) → Ke8 b n c sb sn sc ob on oc (ci : Int) (o : Int) h) :
    ∀ N k h st, SI h0 h B sb sn sc l st → OwnF elPr h B 35 ob on oc out → k ≤ ci → ci ≤ k + N → o < k → (∀ j, g st j = if o < j ∧ j < k then ((g st0 j).1, (g st0 j).2.1, true) else g st0 j) →
      Sx.r27_Match.n32_L Kn Ke8 Ke5 Ke4 Ke3 Ke2 Kr (N + 1) b n c sb sn sc ob on oc (ci : Int) (o : Int) (k : Int) h := by
  intro N
  induction N with
  | zero =>
    intro k h st I oo hk1 hk2 hok hg
    unfold Sx.r27_Match.n32_L
    obtain rfl : k = ci := by omega
    exact splF (by omega) (hk h st I oo hg)
  | succ N ih =>
    intro k h st I oo hk1 hk2 hok hg
    unfold Sx.r27_Match.n32_L
    refine spl (fun hlt => ?_) fun hge => ?_
    · rw [show IntKind.wrap .i64 ((k : Int) + 1) = ((k + 1 : Nat) : Int) from (W_id (by omega) (by omega)).trans (by omega)]
      refine I.set oo (f := 2) (x' := ((g st k).1, (g st k).2.1, true)) (by rw [I.len]; omega) (by decide) rfl stSet2 fun h' st' I' oo' hg' => ih (k + 1) h' st' I' oo' (by omega) (by omega) (by omega) fun j => ?_
      rw [hg' j]
      by_cases e : j = k
      · subst e
        rw [if_pos rfl, if_pos ⟨by omega, by omega⟩, hg j, if_neg (by omega)]
      · rw [if_neg e, hg j]
        by_cases e2 : o < j ∧ j < k
        · rw [if_pos e2, if_pos ⟨e2.1, by omega⟩]
        · rw [if_neg e2, if_neg (by omega)]
    · obtain rfl : k = ci := by omega
      exact hk h st I oo hg
theorem ref_inner {Kn Ke4 Ke3 : KT} {Ke2 Kr : Option Addr → Nat → Nat → H → Prop} {ci : Nat} {Res : List Nd × List PairP → Prop} (hB : h0.size ≤ B) (r : Row elRun A h0 b n c l) (hci : ci < l.length) (hln : l.length ≤ 1000)
    (hk : ∀ h st ob on oc out, SI h0 h B sb sn sc l st → OwnF elPr h B 35 ob on oc out → SN l st ci → out.length ≤ (ci + 1) * 10000 → Res (leftOf l st (ci + 1), out) → Ke4 b n c sb sn sc ob on oc (ci : Int) h) :
    ∀ (M : Nat) h st ob on oc out, SI h0 h B sb sn sc l st → OwnF elPr h B 35 ob on oc out → SN l st ci → ((g st ci).2.2 = false → (g st ci).2.1 ≤ (M : Int) ∧ (out.length : Int) + (g st ci).2.1 ≤ (ci + 1) * 10000) → out.length ≤ (ci + 1) * 10000 → Res (innerRes l st ci out) →
      Sx.r27_Match.n15_L Kn Ke4 Ke3 Ke2 Kr (M + 1) b n c sb sn sc ob on oc (ci : Int) h := by
  intro M
  induction M with
  | zero =>
    intro h st ob on oc out I oo N hm ho hres
    have hrl := r.len
    have hls := I.len
    unfold Sx.r27_Match.n15_L
    refine rnAt (r.kb I.kb) hci fun a c1 _ => ⟨_, c1 4 _ rfl, condB (fun hcl => stAt I.own.row (show ci < st.length by omega) fun a2 c2 _ _ => ⟨_, c2 2 _ rfl, condB (fun hco => ?_) fun hco => ?_⟩) fun hcl => ?_⟩
    · rw [g_get (by omega)] at hco
      refine hk h st ob on oc out I oo N ho ?_
      unfold innerRes at hres
      rw [if_pos hco] at hres
      rw [leftOf_out hco]; exact hres
    · rw [g_get (by omega)] at hco
      have := N.live ci hci hco
      have := hm hco
      omega
    · rw [gl_get hci] at hcl
      refine hk h st ob on oc out I oo N ho ?_
      unfold innerRes at hres
      cases hco : (g st ci).2.2 with
      | true => rw [if_pos hco] at hres; rw [leftOf_out hco]; exact hres
      | false => rw [if_neg (by rw [hco]; decide), if_neg (by rw [show (gl l ci).cl = false from hcl]; decide)] at hres; rw [leftOf_in hco]; exact hres
  | succ M ih =>
    intro h st ob on oc out I oo N hm ho hres
    have hrl := r.len
    have hls := I.len
    unfold Sx.r27_Match.n15_L
    refine rnAt (r.kb I.kb) hci fun a c1 _ => ⟨_, c1 4 _ rfl, condB (fun hcl => stAt I.own.row (show ci < st.length by omega) fun a2 c2 _ _ => ⟨_, c2 2 _ rfl, condB (fun hco => ?_) fun hco => ?_⟩) fun hcl => ?_⟩
    · rw [g_get (by omega)] at hco
      refine hk h st ob on oc out I oo N ho ?_
      unfold innerRes at hres
      rw [if_pos hco] at hres
      rw [leftOf_out hco]; exact hres
    · rw [g_get (by omega)] at hco
      rw [gl_get hci] at hcl
      have hcl : (gl l ci).cl = true := hcl
      obtain ⟨q1, q2, q3, q4, q5⟩ := N.live ci hci hco
      obtain ⟨hm1, hm2⟩ := hm hco
      unfold Sx.r27_Match.n17 Sx.r27_Match.n18
      rw [show IntKind.wrap .i64 ((ci : Int) - 1) = (ci : Int) - 1 from W_id (by omega) (by omega)]
      refine ⟨ci + 1, refSearch (h0 := h) hci hls (by omega) (fun i hi hl => by have := N.live i hi hl; omega) hco (fun h1 k1 => ?_) ci h (fun i h1 h2 => absurd h1 (by omega)) rfl (Nat.le_refl _) (KB.refl h) (r.kb I.kb) I.own.row⟩
      have I1 := I.kb' k1
      have oo1 := oo.kb k1
      rcases findI_spec (l := l) (st := st) (c := gl l ci) (k := ci) with ⟨f1, f2⟩ | ⟨o, f1, f2, f3, f4⟩
      · rw [f1]
        have hfin : ∀ v : Bool, v = !(gl l ci).op → ∀ h' st', SI h0 h' B sb sn sc l st' → OwnF elPr h' B 35 ob on oc out → (∀ j, g st' j = if j = ci then ((g st ci).1, (g st ci).2.1, v) else g st j) → Ke4 b n c sb sn sc ob on oc (ci : Int) h' := by
          intro v hv h' st' I' oo' hg'
          have hgc := hg' ci
          rw [if_pos rfl] at hgc
          have hlo : leftOf l st' ci = leftOf l st ci := leftOf_congr fun i hi => by rw [hg' i, if_neg (by omega)]
          refine hk h' st' ob on oc out I' oo' ⟨fun i hi hl => ?_, fun i h1 h2 => by rw [hg' i, if_neg (by omega)]; exact N.late i h1 h2⟩ ho ?_
          · rw [hg' i] at hl ⊢
            split at hl
            · rename_i e; subst e; rw [if_pos rfl]; exact ⟨q1, q2, q3, q4, q5⟩
            · rename_i e; rw [if_neg e]; exact N.live i hi hl
          · unfold innerRes at hres
            rw [if_neg (by rw [hco]; decide), if_pos hcl] at hres
            obtain ⟨k, hk2⟩ : ∃ k, (g st ci).2.1.toNat = k + 1 := ⟨(g st ci).2.1.toNat - 1, by omega⟩
            rw [hk2, closeGo, show (ndOf l st ci).r = gl l ci from rfl, f2] at hres
            simp only at hres
            cases hop : (gl l ci).op with
            | true =>
              rw [if_pos hop] at hres
              rw [leftOf_in (by rw [hgc, hv, hop]; rfl), hlo, hgc]; exact hres
            | false =>
              rw [if_neg (by rw [hop]; decide)] at hres
              rw [leftOf_out (by rw [hgc, hv, hop]; rfl), hlo]; exact hres
        refine splT (by omega) (rnAt (r.kb I1.kb) hci fun a c1 _ => ⟨_, c1 3 _ rfl, condB (fun hop => ?_) fun hop => ?_⟩)
        · rw [gl_get hci] at hop
          exact I1.set oo1 (f := 2) (x' := ((g st ci).1, (g st ci).2.1, false)) (by omega) (by decide) rfl stSet2 (hfin false (by rw [show (gl l ci).op = true from hop]; rfl))
        · rw [gl_get hci] at hop
          exact I1.set oo1 (f := 2) (x' := ((g st ci).1, (g st ci).2.1, true)) (by omega) (by decide) rfl stSet2 (hfin true (by rw [show (gl l ci).op = false from hop]; rfl))
      · rw [f1]
        have hos : o < st.length := by omega
        have hcs : ci < st.length := by omega
        obtain ⟨p1, p2, p3, p4, p5⟩ := N.live o (by omega) f3
        have hn := nOf_bd (o := ndOf l st o) (c := ndOf l st ci) p4 q4
        have h12 : nOf (ndOf l st o) (ndOf l st ci) = 1 ∨ nOf (ndOf l st o) (ndOf l st ci) = 2 := by unfold nOf; split <;> simp
        have go : ∀ m : Int, m = nOf (ndOf l st o) (ndOf l st ci) → Sx.r27_Match.n23 b n c sb sn sc ob on oc (ci : Int) (o : Int) m (fun z0b z0n z0c z3b z3n z3c z5b z5n z5c z6 h => Sx.r27_Match.n15_L Kn Ke4 Ke3 Ke2 Kr (M + 1) z0b z0n z0c z3b z3n z3c z5b z5n z5c z6 h) (fun z0b z0n z0c z3b z3n z3c z5b z5n z5c z6 h => Sx.r27_Match.n15_L Kn Ke4 Ke3 Ke2 Kr (M + 1) z0b z0n z0c z3b z3n z3c z5b z5n z5c z6 h) Ke4 Ke3 Ke2 Kr h1 := by
          intro m hm0
          have hnm : nOf (ndOf l st o) (ndOf l st ci) = m := hm0.symm
          rw [hnm] at hn h12
          have hv1 : (ndOf l st o).ov = (g st o).2.1 := rfl
          have hv2 : (ndOf l st ci).ov = (g st ci).2.1 := rfl
          rw [hv1, hv2] at hn
          refine rnAt (r.kb I1.kb) (show o < l.length by omega) fun a c1 _ => ⟨_, c1 1 _ rfl, stAt I1.own.row hos fun a2 c2 _ _ => ⟨_, c2 0 _ rfl, stAt I1.own.row hos fun a3 c3 _ _ => ⟨_, c3 1 _ rfl, stAt I1.own.row hos fun a4 c4 _ _ => ⟨_, c4 1 _ rfl, ?_⟩⟩⟩⟩
          rw [g_get hos, gl_get (show o < l.length by omega)]
          rw [show IntKind.wrap .i64 ((g st o).2.1 - m) = (g st o).2.1 - m from W_id (by omega) (by omega)]
          refine I1.set oo1 (f := 1) (x' := ((g st o).1, (g st o).2.1 - m, (g st o).2.2)) hos (by decide) rfl (stSet1 (rng64 (by omega) (by omega))) fun h2 st2 I2 oo2 g2 => ?_
          have hl2 := I2.len
          have gc2 : g st2 ci = g st ci := by rw [g2, if_neg (by omega)]
          refine stAt I2.own.row (show ci < st2.length by omega) fun a c1 _ _ => ⟨_, c1 0 _ rfl, ?_⟩
          rw [g_get (show ci < st2.length by omega), gc2]
          rw [show IntKind.wrap .i64 ((g st ci).1 + m) = (g st ci).1 + m from W_id (by omega) (by omega)]
          refine I2.set oo2 (f := 0) (x' := ((g st ci).1 + m, (g st ci).2.1, (g st ci).2.2)) (show ci < st2.length by omega) (by decide) rfl (by rw [gc2]; exact stSet0 (rng64 (by omega) (by omega))) fun h3 st3 I3 oo3 g3 => ?_
          have hl3 := I3.len
          have gc3 : g st3 ci = ((g st ci).1 + m, (g st ci).2.1, (g st ci).2.2) := by rw [g3, if_pos rfl]
          refine stAt I3.own.row (show ci < st3.length by omega) fun a c1 _ _ => ⟨_, c1 1 _ rfl, ?_⟩
          rw [g_get (show ci < st3.length by omega), gc3]
          rw [show IntKind.wrap .i64 ((g st ci).2.1 - m) = (g st ci).2.1 - m from W_id (by omega) (by omega)]
          refine I3.set oo3 (f := 1) (x' := ((g st ci).1 + m, (g st ci).2.1 - m, (g st ci).2.2)) (show ci < st3.length by omega) (by decide) rfl (by rw [gc3]; exact stSet1 (x := ((g st ci).1 + m, (g st ci).2.1, (g st ci).2.2)) (rng64 (by omega) (by omega))) fun h4 st4 I4 oo4 g4 => ?_
          have hl4 := I4.len
          have gc4 : g st4 ci = ((g st ci).1 + m, (g st ci).2.1 - m, (g st ci).2.2) := by rw [g4, if_pos rfl]
          have go4 : g st4 o = ((g st o).1, (g st o).2.1 - m, (g st o).2.2) := by rw [g4, if_neg (by omega), g3, if_neg (by omega), g2, if_pos rfl]
          have gj4 : ∀ j, j ≠ o → j ≠ ci → g st4 j = g st j := fun j e1 e2 => by rw [g4, if_neg e2, g3, if_neg e2, g2, if_neg e1]
          refine rnAt (r.kb I4.kb) hci fun a c1 _ => ⟨_, c1 1 _ rfl, stAt I4.own.row (show ci < st4.length by omega) fun a2 c2 _ _ => ⟨_, c2 0 _ rfl, ?_⟩⟩
          rw [g_get (show ci < st4.length by omega), gc4, gl_get hci]
          have e1 : IntKind.wrap .i64 (IntKind.wrap .i64 (IntKind.wrap .i64 ((gl l o).2.1 + (g st o).1) + (g st o).2.1) - m) = W64 ((gl l o).2.1 + (g st o).1 + ((g st o).2.1 - m)) := by
            have h1 : W64 (W64 ((gl l o).2.1 + (g st o).1) + (g st o).2.1) = W64 ((gl l o).2.1 + (g st o).1 + (g st o).2.1) := W_add _ _
            show W64 (W64 (W64 ((gl l o).2.1 + (g st o).1) + (g st o).2.1) - m) = _
            rw [h1, W_sub]
            congr 1; omega
          have ep : pairOf (ndOf l st o) (ndOf l st ci) = (W64 ((gl l o).2.1 + (g st o).1 + ((g st o).2.1 - m)), W64 ((gl l ci).2.1 + ((g st ci).1 + m)), m) := by unfold pairOf; rw [hnm]; rfl
          rw [e1]
          have hoo := oo4.own.len
          have hB4 := I4.sz
          refine one_app (x := (W64 ((gl l o).2.1 + (g st o).1 + ((g st o).2.1 - m)), W64 ((gl l ci).2.1 + ((g st ci).1 + m)), m)) apdPr (fun A h => prR rngW rngW (rng64 (n := m) (by omega) (by omega))) oo4 hB4 (by simp only [maxLen]; omega) (by omega) fun b5 c5 h5 oo5 k5 => vSliceMk ?_
          have I5 := I4.app k5 hB
          rw [← ep] at oo5
          unfold Sx.r27_Match.n28 Sx.r27_Match.n30
          rw [show IntKind.wrap .i64 ((o : Int) + 1) = ((o + 1 : Nat) : Int) from (W_id (by omega) (by omega)).trans (by omega)]
          refine ⟨ci + 1, ref_marks hci hln (st0 := st4) (fun h6 st6 I6 oo6 g6 => ?_) ci (o + 1) h5 st4 I5 oo5 (by omega) (by omega) (by omega) fun j => by rw [if_neg (by omega)]⟩
          have hl6 := I6.len
          have go6 : g st6 o = ((g st o).1, (g st o).2.1 - m, (g st o).2.2) := by rw [g6, if_neg (by omega), go4]
          have gc6 : g st6 ci = ((g st ci).1 + m, (g st ci).2.1 - m, (g st ci).2.2) := by rw [g6, if_neg (by omega), gc4]
          -- the last two stores
          have two : ∀ (v : Bool) h7 st7, v = decide ((g st o).2.1 - m ≤ 0) → SI h0 h7 B sb sn sc l st7 → OwnF elPr h7 B 35 b5 (on + 1) c5 (out ++ [pairOf (ndOf l st o) (ndOf l st ci)]) → (∀ j, g st7 j = if j = o then ((g st6 o).1, (g st6 o).2.1, v) else g st6 j) →
              (0 ≤ (ci : Int) ∧ (ci : Int) < (sn : Int)) ∧ (vSome sb fun a125 => ∃ i126, cell h7 ((a125.add (Int.toNat (ci : Int) * 3)).add 1) = some (.int .i64 i126) ∧ (Spl (i126 ≤ (0 : Int)) ((0 ≤ (ci : Int) ∧ (ci : Int) < (sn : Int)) ∧ (vSome sb fun a127 => stL ((a127.add (Int.toNat (ci : Int) * 3)).add 2) [(.bool true)] 0 h7 fun h128 => Sx.r27_Match.n15_L Kn Ke4 Ke3 Ke2 Kr (M + 1) b n c sb sn sc b5 (on + 1) c5 (ci : Int) h128)) ((0 ≤ (ci : Int) ∧ (ci : Int) < (sn : Int)) ∧ (vSome sb fun a129 => stL ((a129.add (Int.toNat (ci : Int) * 3)).add 2) [(.bool false)] 0 h7 fun h130 => Sx.r27_Match.n15_L Kn Ke4 Ke3 Ke2 Kr (M + 1) b n c sb sn sc b5 (on + 1) c5 (ci : Int) h130)))) := by
            intro v h7 st7 hv I7 oo7 g7
            have hl7 := I7.len
            have gc7 : g st7 ci = ((g st ci).1 + m, (g st ci).2.1 - m, (g st ci).2.2) := by rw [g7, if_neg (by omega), gc6]
            have done : ∀ (u : Bool), u = decide ((g st ci).2.1 - m ≤ 0) → ∀ h8 st8, SI h0 h8 B sb sn sc l st8 → OwnF elPr h8 B 35 b5 (on + 1) c5 (out ++ [pairOf (ndOf l st o) (ndOf l st ci)]) → (∀ j, g st8 j = if j = ci then ((g st7 ci).1, (g st7 ci).2.1, u) else g st7 j) → Sx.r27_Match.n15_L Kn Ke4 Ke3 Ke2 Kr (M + 1) b n c sb sn sc b5 (on + 1) c5 (ci : Int) h8 := by
              intro u hu h8 st8 I8 oo8 g8
              have hgg : ∀ j, g st8 j = if j = ci then ((g st ci).1 + nOf (ndOf l st o) (ndOf l st ci), (g st ci).2.1 - nOf (ndOf l st o) (ndOf l st ci), decide ((g st ci).2.1 - nOf (ndOf l st o) (ndOf l st ci) ≤ 0)) else if j = o then ((g st o).1, (g st o).2.1 - nOf (ndOf l st o) (ndOf l st ci), decide ((g st o).2.1 - nOf (ndOf l st o) (ndOf l st ci) ≤ 0)) else if o < j ∧ j < ci then ((g st j).1, (g st j).2.1, true) else g st j := by
                intro j
                rw [hnm, g8]
                by_cases e : j = ci
                · rw [if_pos e, if_pos e, gc7, hu]
                · rw [if_neg e, if_neg e, g7]
                  by_cases e2 : j = o
                  · rw [if_pos e2, if_pos e2, go6, hv]
                  · rw [if_neg e2, if_neg e2, g6, gj4 j e2 e]
              obtain ⟨r1, r2⟩ := inner_found hcl hco N hci f2 f3 f4 hgg
              rw [r1] at hres
              have hol : (out ++ [pairOf (ndOf l st o) (ndOf l st ci)]).length = out.length + 1 := by simp
              refine ih h8 st8 b5 (on + 1) c5 _ I8 oo8 r2 (fun hf => ?_) (by rw [hol]; omega) hres
              rw [hgg ci, if_pos rfl, hnm, hol]
              exact ⟨show (g st ci).2.1 - m ≤ _ by omega, show _ + ((g st ci).2.1 - m) ≤ _ by push_cast; omega⟩
            refine stAt I7.own.row (show ci < st7.length by omega) fun a c1 _ _ => ⟨_, c1 1 _ rfl, ?_⟩
            rw [g_get (show ci < st7.length by omega), gc7]
            refine spl (fun e => ?_) fun e => ?_
            · exact I7.set oo7 (f := 2) (x' := ((g st7 ci).1, (g st7 ci).2.1, true)) (show ci < st7.length by omega) (by decide) rfl stSet2 (done true (decide_eq_true (show (g st ci).2.1 - m ≤ 0 from e)).symm)
            · exact I7.set oo7 (f := 2) (x' := ((g st7 ci).1, (g st7 ci).2.1, false)) (show ci < st7.length by omega) (by decide) rfl stSet2 (done false (decide_eq_false (show ¬ (g st ci).2.1 - m ≤ 0 from e)).symm)
          refine stAt I6.own.row (show o < st6.length by omega) fun a c1 _ _ => ⟨_, c1 1 _ rfl, ?_⟩
          rw [g_get (show o < st6.length by omega), go6]
          refine spl (fun e => ?_) fun e => ?_
          · exact I6.set oo6 (f := 2) (x' := ((g st6 o).1, (g st6 o).2.1, true)) (show o < st6.length by omega) (by decide) rfl stSet2 fun h7 st7 => two true h7 st7 (decide_eq_true (show (g st o).2.1 - m ≤ 0 from e)).symm
          · exact I6.set oo6 (f := 2) (x' := ((g st6 o).1, (g st6 o).2.1, false)) (show o < st6.length by omega) (by decide) rfl stSet2 fun h7 st7 => two false h7 st7 (decide_eq_false (show ¬ (g st o).2.1 - m ≤ 0 from e)).symm
        refine splF (by omega) (stAt I1.own.row hos fun a c1 _ _ => ⟨_, c1 1 _ rfl, ?_⟩)
        rw [g_get hos]
        refine spl (fun e1 => stAt I1.own.row hcs fun a c1 _ _ => ⟨_, c1 1 _ rfl, ?_⟩) fun e1 => go 1 ?_
        · rw [g_get hcs]
          refine spl (fun e2 => go 2 ?_) fun e2 => go 1 ?_
          · unfold nOf; rw [if_pos ⟨show 2 ≤ (g st o).2.1 by omega, show 2 ≤ (g st ci).2.1 by omega⟩]
          · unfold nOf; rw [if_neg (fun h => e2 (show (g st ci).2.1 ≥ 2 from h.2))]
        · unfold nOf; rw [if_neg (fun h => e1 (show (g st o).2.1 ≥ 2 from h.1))]
    · rw [gl_get hci] at hcl
      refine hk h st ob on oc out I oo N ho ?_
      unfold innerRes at hres
      cases hco : (g st ci).2.2 with
      | true => rw [if_pos hco] at hres; rw [leftOf_out hco]; exact hres
      | false => rw [if_neg (by rw [hco]; decide), if_neg (by rw [show (gl l ci).cl = false from hcl]; decide)] at hres; rw [leftOf_in hco]; exact hres
end
end Go.Proofs
