/- stars: law StarsNest. No condition but that the library's tables hold what they hold. -/
import Derived.Test.YtgpfanbjchieiaaDoorSrV
import Derived.Test.YtgpfanbjchieiaaDoorTxC
namespace Go.Proofs
open Go Go.Sh
set_option linter.unusedVariables false
set_option maxRecDepth 100000
theorem row_ok {s : Bs} (hs : s.length ≤ 100000) {i : Nat} (h : starAt s (i : Int)) : RunOK s (rowP s i) ∧ RunR (rowP s i) ∧ (rowP s i).pl = (i : Int) := by
  obtain ⟨h1, h2, h3⟩ := h
  rw [Int.toNat_natCast] at h3
  have hi : i < s.length := by omega
  have hle := cnt_le (s.getD i 0) (s.drop i)
  rw [List.length_drop] at hle
  have hall := cnt_all (s.getD i 0) (s.drop i)
  have h1' : 1 ≤ cntP (s.getD i 0) (s.drop i) := by
    rw [List.drop_eq_getElem_cons hi, getD_get hi]
    unfold cntP
    rw [if_pos rfl]; omega
  have hx := u8_lt (s.getD i 0)
  rw [rowP_eq]
  generalize hn : cntP (s.getD i 0) (s.drop i) = n at *
  refine ⟨⟨show 1 ≤ (n : Int) by omega, show 0 ≤ (i : Int) by omega, show (i : Int) + n ≤ _ by omega, show ((s.getD i 0).toNat : Int) = 42 ∨ ((s.getD i 0).toNat : Int) = 95 by omega, fun j hj1 hj2 => ?_⟩, ⟨?_, ?_, ?_⟩, rfl⟩
  · have hj1 : (i : Int) ≤ (j : Int) := hj1
    have hj2 : (j : Int) < (i : Int) + n := hj2
    have := hall (j - i) (by omega)
    rw [List.getD_eq_getElem?_getD, List.getElem?_drop, show i + (j - i) = j by omega, ← List.getD_eq_getElem?_getD] at this
    show ((s.getD j 0).toNat : Int) = ((s.getD i 0).toNat : Int)
    rw [this]
  · exact ⟨show (0 : Int) ≤ ((s.getD i 0).toNat : Int) by omega, show ((s.getD i 0).toNat : Int) ≤ 255 by omega⟩
  · exact rng64 (n := (i : Int)) (by omega) (by omega)
  · exact rng64 (n := (n : Int)) (by omega) (by omega)
section
variable {h h0 : H} {K : Value → H → Prop} {A : Nat → Prop} {b : Option Addr} {n c i k : Nat} {s : Bs} {ps : List PairP}
abbrev N5 := H → Prop
abbrev N6 := List UInt8 → Option Addr → Nat → Nat → Int → H → Prop
abbrev N7 := List UInt8 → Option Addr → Nat → Nat → Int → Int → H → Prop
/-- of two pairs -/
theorem nest_26 {Kn Ke7 : N7} {Ke6 Ke3 : N6} {Ke2 : N5} {Kr : Bool → H → Prop} {a3 : Addr} {Q P : PairP} (v : Var h a3 35 (prCells Q)) (r : Row elPr A h b n c ps) (hi : i < ps.length) (hP : ps[i] = P) (hq : PairOK s Q) (hp : PairOK s P) (hs : s.length ≤ 100000) (hn : Nested Q P)
    (hk : Kn s b n c (i : Int) (k : Int) h) : Sx.l27_StarsNest.n26 s b n c (i : Int) (k : Int) a3 Kn Ke7 Ke6 Ke3 Ke2 Kr h := by
  obtain ⟨p1, p2, p3, p4, _⟩ := hp
  have rd : ∀ {Kx : Addr → Prop}, (∀ a, (∀ (j : Nat) v, (prCells P)[j]? = some v → cell h ((a.add (Int.toNat (i : Int) * 3)).add j) = some v) → Kx a) → (0 ≤ (i : Int) ∧ (i : Int) < (n : Int)) ∧ vSome b Kx := fun hK => prAt r hi fun a ca _ _ _ => hK a (by rw [hP] at ca; exact ca)
  have fin : ∀ x15 x16 : Bool, (x15 = true ∨ x16 = true) → Sx.l27_StarsNest.n28 s b n c (i : Int) (k : Int) x15 x16 Kn Ke7 Ke6 Ke3 Ke2 Kr h := fun x15 x16 hx => by
    cases x15
    · cases x16
      · rcases hx with h | h <;> cases h
      · exact condF (condT hk)
    · exact condT hk
  have two : ∀ x15 : Bool, (x15 = false → Q.2.1 ≤ P.1 ∨ Q.1 ≥ P.2.1) → Sx.l27_StarsNest.n27 s b n c (i : Int) (k : Int) a3 x15 Kn Ke7 Ke6 Ke3 Ke2 Kr h := fun x15 hx =>
    ⟨_, v.cell 1 rfl, rd fun a ca => ⟨_, ca 0 _ rfl, spl (fun e => fin x15 true (.inr rfl)) fun e => ⟨_, v.cell 0 rfl, rd fun a ca => ⟨_, ca 1 _ rfl, spl (fun e2 => fin x15 true (.inr rfl)) fun e2 => fin x15 false (.inl (by
      cases x15 with
      | true => rfl
      | false => rcases hx rfl with h | h <;> omega))⟩⟩⟩⟩
  unfold Nested at hn
  exact ⟨_, v.cell 0 rfl, rd fun a ca => ⟨_, ca 0 _ rfl, rd fun a ca => ⟨_, ca 2 _ rfl, rng64 (by omega) (by omega), spl (fun e => ⟨_, v.cell 1 rfl, rd fun a ca => ⟨_, ca 1 _ rfl, rd fun a ca => ⟨_, ca 2 _ rfl, rng64 (by omega) (by omega), spl (fun e2 => two true fun e => by cases e) fun e2 => two false fun _ => hn.resolve_left fun h => e2 h.2⟩⟩⟩) fun e => two false fun _ => hn.resolve_left fun h => e h.1⟩⟩⟩
theorem nest_inner {Kn Ke6 Ke3 : N6} {Ke2 : N5} {Kr : Bool → H → Prop} (r : Row elPr A h0 b n c ps) (hO : OutOK s ps) (hi : i < ps.length) (hs : s.length ≤ 100000) (hk : ∀ h', KB h0 h' → Ke6 s b n c (i : Int) h') :
    ∀ M k h, k + M = i → KB h0 h → Sx.l27_StarsNest.n20_L Kn Ke6 Ke3 Ke2 Kr (M + 1) s b n c (i : Int) (k : Int) h := by
  have hl := r.len
  have hm : n ≤ maxLen := Nat.le_trans r.cap r.max
  simp only [maxLen] at hm
  intro M
  induction M with
  | zero => intro k h hk2 k0; unfold Sx.l27_StarsNest.n20_L; exact splF (by omega) (hk h k0)
  | succ M ih =>
    intro k h hk2 k0
    have hkl : k < ps.length := by omega
    unfold Sx.l27_StarsNest.n20_L
    refine splT (by omega) (prAt (r.kb k0) hkl fun a ca _ _ _ => ⟨_, ca 0 _ rfl, _, ca 1 _ rfl, _, ca 2 _ rfl, newx_var (cs := prCells (0, 0, 0)) fun a3 h3 v3 k3 e3 z3 => stL_var0 v3 (Nat.le_refl 3) fun h4 v4 k4 z4 => ?_⟩)
    have v4 : Var h4 a3 35 (prCells ps[k]) := v4
    have k04 := k0.trans (KB.step k3 k4 (by omega))
    exact nest_26 v4 (r.kb k04) hi rfl (hO.all _ (List.getElem_mem hkl)) (hO.all _ (List.getElem_mem hi)) hs (List.pairwise_iff_getElem.1 hO.nest k i hkl hi (by omega)) ⟨rng64 (by omega) (by omega), ih (k + 1) h4 (by omega) k04⟩
theorem nest_signs {Kn Ke4 Ke3 : N6} {Ke2 : N5} {Kr : Bool → H → Prop} {P : PairP} (r : Row elPr A h b n c ps) (hi : i < ps.length) (hP : ps[i] = P) (hp : PairOK s P) (hs : s.length ≤ 100000) (hk : Ke4 s b n c (i : Int) h) :
    ∀ M k : Nat, (k : Int) + M = P.2.2 → Sx.l27_StarsNest.n31_L Kn Ke4 Ke3 Ke2 Kr (M + 1) s b n c (i : Int) (k : Int) h := by
  obtain ⟨p1, p2, p3, p4, p5⟩ := hp
  have rd : ∀ {Kx : Addr → Prop}, (∀ a, (∀ (j : Nat) v, (prCells P)[j]? = some v → cell h ((a.add (Int.toNat (i : Int) * 3)).add j) = some v) → Kx a) → (0 ≤ (i : Int) ∧ (i : Int) < (n : Int)) ∧ vSome b Kx := fun hK => prAt r hi fun a ca _ _ _ => hK a (by rw [hP] at ca; exact ca)
  intro M
  induction M with
  | zero => intro k hk2; unfold Sx.l27_StarsNest.n31_L; exact rd fun a ca => ⟨_, ca 2 _ rfl, splF (by omega) hk⟩
  | succ M ih =>
    intro k hk2
    obtain ⟨ch, hch, e1, e2⟩ := p5 k (by omega)
    unfold Sx.l27_StarsNest.n31_L
    refine rd fun a ca => ⟨_, ca 2 _ rfl, splT (by omega) (rd fun a ca => ⟨_, ca 0 _ rfl, rng64 (by omega) (by omega), ⟨by omega, by omega⟩, rd fun a ca => ⟨_, ca 1 _ rfl, rng64 (by omega) (by omega), rng64 (by omega) (by omega), ⟨by omega, by omega⟩, ?_⟩⟩)⟩
    have next : Rng .i64 ((k : Int) + 1) ∧ Sx.l27_StarsNest.n31_L Kn Ke4 Ke3 Ke2 Kr (M + 1) s b n c (i : Int) ((k : Int) + 1) h := ⟨rng64 (by omega) (by omega), ih (k + 1) (by omega)⟩
    refine splT (e1.trans e2.symm) (spl (fun _ => next) fun e3 => splT ?_ next)
    rcases hch with rfl | rfl
    · exact absurd e1 e3
    · exact e1
theorem nest_checks (r : Row elPr A h b n c ps) (hO : OutOK s ps) (hs : s.length ≤ 100000) (hk : ∀ h', KB h h' → K (.bool true) h') : Sx.l27_StarsNest.n7 s b n c (fun y2 h => K (.bool y2) h) (fun y2 h => K (.bool y2) h) h := by
  have hl := r.len
  have hm : n ≤ maxLen := Nat.le_trans r.cap r.max
  simp only [maxLen] at hm
  have key : ∀ N i h1, i + N = n → KB h h1 → Sx.l27_StarsNest.n11_L (fun h => K (.bool true) h) (fun h => K (.bool true) h) (fun y2 h => K (.bool y2) h) (N + 1) s b n c (i : Int) h1 := by
    intro N
    induction N with
    | zero => intro i h1 hi k1; unfold Sx.l27_StarsNest.n11_L; exact splF (by omega) (hk h1 k1)
    | succ N ih =>
      intro i h1 hi k1
      have hi' : i < ps.length := by omega
      have hp := hO.all _ (List.getElem_mem hi')
      have r1 := r.kb k1
      generalize hP : ps[i] = P at *
      obtain ⟨p1, p2, p3, p4, p5⟩ := hp
      have rd : ∀ {Kx : Addr → Prop}, (∀ a, (∀ (j : Nat) v, (prCells P)[j]? = some v → cell h1 ((a.add (Int.toNat (i : Int) * 3)).add j) = some v) → Kx a) → (0 ≤ (i : Int) ∧ (i : Int) < (n : Int)) ∧ vSome b Kx := fun hK => prAt r1 hi' fun a ca _ _ _ => hK a (by rw [hP] at ca; exact ca)
      unfold Sx.l27_StarsNest.n11_L
      refine splT (by omega) (rd fun a ca => ⟨_, ca 2 _ rfl, splF (by omega) (rd fun a ca => ⟨_, ca 2 _ rfl, splF (by omega) (rd fun a ca => ⟨_, ca 0 _ rfl, splF (by omega) (rd fun a ca => ⟨_, ca 1 _ rfl, splF (by omega) (rd fun a ca => ⟨_, ca 0 _ rfl, rd fun a ca => ⟨_, ca 2 _ rfl, rng64 (by omega) (by omega), rng64 (by omega) (by omega), rd fun a ca => ⟨_, ca 1 _ rfl, splF (by omega) ?_⟩⟩⟩)⟩)⟩)⟩)⟩)
      obtain ⟨M, hM⟩ : ∃ M : Nat, (M : Int) = P.2.2 := ⟨P.2.2.toNat, by omega⟩
      refine ⟨M + 1, nest_signs r1 hi' hP ⟨p1, p2, p3, p4, p5⟩ hs ⟨i + 1, nest_inner r1 hO hi' hs (fun h2 k2 => ⟨rng64 (by omega) (by omega), ih (i + 1) h2 (by omega) (k1.trans k2)⟩) i 0 h1 (by omega) (KB.refl h1)⟩ M 0 (by omega)⟩
  exact ⟨n + 1, key n 0 h (by omega) (KB.refl h)⟩
theorem lawNest_calls {l : Bs} (u : U8 h) (r : Row elB A h b n c l) (hk : ∀ h', KB h h' → K (.bool true) h') : HCalls Tryd.prog 5 ⟨[.slice b n c]⟩ h K := by
  have hl := r.len
  have htx := textP_text l
  have htl := textP_len l
  refine Sx.l27_StarsNest.ok _ _ _ _ _ (spl (fun _ => known_calls u fun h1 k1 => vBool_mk (condT (hk h1 k1))) fun hle => known_calls u fun h1 k1 => vBool_mk (condT (text_calls (r.kb k1) (by omega) fun h2 k2 => vStrMk ?_)))
  have k02 := k1.trans k2
  generalize textP l = s at *
  have hs : s.length ≤ 900 := by omega
  have key : ∀ N i h3 ob on oc (out : List RunP), s.length ≤ i + N → i ≤ s.length → KB h h3 → OwnF elRun h3 h.size 25 ob on oc out → (∀ x ∈ out, RunOK s x ∧ x.pl + x.mn ≤ (i : Int)) → (out.Pairwise fun a b => a.pl + a.mn ≤ b.pl) → out.length ≤ i →
      Sx.l27_StarsNest.n34_L (fun z3 z4b z4n z4c h => Sx.l27_StarsNest.n6 z3 z4b z4n z4c (fun y2 h => K (.bool y2) h) (fun y2 h => K (.bool y2) h) h) (fun z3 z4b z4n z4c h => Sx.l27_StarsNest.n6 z3 z4b z4n z4c (fun y2 h => K (.bool y2) h) (fun y2 h => K (.bool y2) h) h) (fun y2 h => K (.bool y2) h) (N + 1) s ob on oc (i : Int) h3 := by
    intro N
    have fin : ∀ i h3 ob on oc (out : List RunP), i ≤ s.length → KB h h3 → OwnF elRun h3 h.size 25 ob on oc out → (∀ x ∈ out, RunOK s x ∧ x.pl + x.mn ≤ (i : Int)) → (out.Pairwise fun a b => a.pl + a.mn ≤ b.pl) → out.length ≤ i → Sx.l27_StarsNest.n6 s ob on oc (fun y2 h => K (.bool y2) h) (fun y2 h => K (.bool y2) h) h3 := by
      intro i h3 ob on oc out hi k3 o3 hall hpw hle2
      have ol := o3.own.len
      refine match_calls o3.row (by omega) (fun x hx => ?_) fun h4 b4 n4 c4 k4 o4 => vSliceMk (nest_checks o4.row ?_ (by omega) fun h5 k5 => hk h5 ((k3.trans k4).trans k5))
      · have h1 := (hall x hx).1.hi
        have h2 := (hall x hx).1.lo
        omega
      · exact match_ok (by omega) out [] [] 0 (fun x hx => ⟨(hall x hx).1, (hall x hx).1.lo⟩) hpw ⟨fun x hx => (by cases hx), List.Pairwise.nil, fun x hx => (by cases hx), fun x hx => (by cases hx)⟩ (fun x hx => by cases hx) ⟨fun x hx => (by cases hx), List.Pairwise.nil⟩
    induction N with
    | zero =>
      intro i h3 ob on oc out hN hi k3 o3 hall hpw hle2
      unfold Sx.l27_StarsNest.n34_L
      exact splF (by omega) (fin i h3 ob on oc out hi k3 o3 hall hpw hle2)
    | succ N ih =>
      intro i h3 ob on oc out hN hi k3 o3 hall hpw hle2
      unfold Sx.l27_StarsNest.n34_L
      refine spl (fun hlt => read2_calls (rng64 (by omega) (by omega)) (u.kb k3) htx (by omega) fun h4 k4 => tupRun ?_) fun hge => fin i h3 ob on oc out hi k3 o3 hall hpw hle2
      unfold readP
      by_cases hst : starAt s (i : Int)
      · rw [if_pos hst, Int.toNat_natCast]
        obtain ⟨w1, w2, w3⟩ := row_ok (by omega) hst
        have w4 := w1.mn
        have w5 := w1.hi
        generalize rowP s i = q at *
        refine condT (var_runB fun a5 h5 v5 k5 hb5 => condT ⟨_, v5.cell 0 rfl, _, v5.cell 1 rfl, _, v5.cell 2 rfl, _, v5.cell 3 rfl, _, v5.cell 4 rfl, ?_⟩)
        have k05 := (k3.trans k4).trans k5
        have ol := o3.own.len
        refine one_appG (x := q) apdRun (fun A h => runR w2) ((o3.kb k4).kb k5) k05.1 (by simp only [maxLen]; omega) (by omega) fun b6 c6 h6 o6 k6 => vSliceMk ⟨_, (v5.keep k6.w ⟨v5.lt, fun x hx => ?_⟩).cell 2 rfl, ?_⟩
        · have := o3.hi x hx; have := k4.1; omega
        · have e1 : (if (1 : Int) > q.2.2.1 then (1 : Int) else q.2.2.1) = q.mn := by rw [if_neg (by show ¬ (1 : Int) > q.mn; omega)]
          have k06 : KB h h6 := SK.trans k05 (k6.less fun k hk => by
            have hk : k < h.size := hk
            have := k05.1
            exact ⟨by omega, fun x hx => by have := o3.lo x hx; omega⟩)
          rw [e1]
          refine ⟨rng64 (by omega) (by omega), rng64 (by omega) (by omega), rng64 (by omega) (by omega), ?_⟩
          obtain ⟨m, hm⟩ : ∃ m : Nat, (m : Int) = q.mn := ⟨q.mn.toNat, by omega⟩
          have e2 : (i : Int) + (q.mn - 1) + 1 = ((i + m : Nat) : Int) := by omega
          rw [e2]
          refine ih (i + m) h6 b6 _ c6 (out ++ [q]) (by omega) (by omega) k06 o6 (fun x hx => ?_) ?_ (by simp; omega)
          · rcases List.mem_append.1 hx with hx | hx
            · exact ⟨(hall x hx).1, by have := (hall x hx).2; omega⟩
            · rw [List.mem_singleton] at hx; subst hx; exact ⟨w1, by omega⟩
          · refine List.pairwise_append.2 ⟨hpw, List.pairwise_singleton _ _, fun x hx y hy => ?_⟩
            rw [List.mem_singleton] at hy; subst hy
            have := (hall x hx).2
            omega
      · rw [if_neg hst]
        exact condF (var_run (r := r0) fun a5 h5 v5 k5 => condF ⟨rng64 (by omega) (by omega), ih (i + 1) h5 ob on oc out (by omega) (by omega) ((k3.trans k4).trans k5) ((o3.kb k4).kb k5) (fun x hx => ⟨(hall x hx).1, by have := (hall x hx).2; omega⟩) hpw (by omega)⟩)
  exact ⟨s.length + 1, key s.length 0 h2 none 0 0 [] (by omega) (by omega) k02 (OwnF.none _ _ _) (fun x hx => by cases hx) List.Pairwise.nil (by simp)⟩
end
end Go.Proofs
