/- stars: the example; laws StarsReads, StarsMatches. No condition but that the library's tables hold what they hold. -/
import Derived.Test.YtgpfanbjchieiaaDoorSrL
namespace Go.Proofs
open Go Go.Sh
set_option linter.unusedVariables false
set_option maxRecDepth 100000
theorem tupRun {r : RunP} {b : Bool} {k : Int → Int → Int → Bool → Bool → Bool → Prop} (h : k r.1 r.2.1 r.2.2.1 r.2.2.2.1 r.2.2.2.2 b) : vTup (.tuple ⟨[.agg ⟨runCells r⟩, .bool b]⟩) fun l57 => uncons l57 fun e58 l59 => vAgg e58 fun l60 => uncons l60 fun e61 l62 => vInt .u8 e61 fun i63 => uncons l62 fun e64 l65 => vInt .i64 e64 fun i66 => uncons l65 fun e67 l68 => vInt .i64 e67 fun i69 => uncons l68 fun e70 l71 => vBool e70 fun b72 => uncons l71 fun e73 l74 => vBool e73 fun b75 => unnil l74 (uncons l59 fun e76 l77 => vBool e76 fun b78 => unnil l77 (k i63 i66 i69 b72 b75 b78)) :=
  show vInt .u8 (.int .u8 r.1) fun i63 => vInt .i64 (.int .i64 r.2.1) fun i66 => vInt .i64 (.int .i64 r.2.2.1) fun i69 => k i63 i66 i69 r.2.2.2.1 r.2.2.2.2 b from vIntMk (vIntMk (vIntMk h))
theorem eqRun (x y : RunP) : eqAll (runCells x) (runCells y) = decide (x = y) := by
  obtain ⟨x1, x2, x3, x4, x5⟩ := x; obtain ⟨y1, y2, y3, y4, y5⟩ := y
  simp only [runCells, eqAll, eqV, Bool.and_true]
  rw [Bool.eq_iff_iff]
  simp
def prCells (p : PairP) : List Value := [.int .i64 p.1, .int .i64 p.2.1, .int .i64 p.2.2]
theorem eqPr (x y : PairP) : eqAll (prCells x) (prCells y) = decide (x = y) := by
  obtain ⟨x1, x2, x3⟩ := x; obtain ⟨y1, y2, y3⟩ := y
  simp only [prCells, eqAll, eqV, Bool.and_true]
  rw [Bool.eq_iff_iff]
  simp
theorem runEq {x y : RunP} {p q : Operand} {h : H} {K : Value → Prop} (hk : K (.bool (decide (x = y)))) : SemR Tryd.prog (binS .eql 25 p q (.agg ⟨runCells x⟩) (.agg ⟨runCells y⟩)) h K :=
  semR_eql (by kernel_rfl) (by kernel_rfl) (by rw [eqRun]; exact hk)
theorem runNe {x y : RunP} {p q : Operand} {h : H} {K : Value → Prop} (hk : K (.bool (!decide (x = y)))) : SemR Tryd.prog (binS .neq 25 p q (.agg ⟨runCells x⟩) (.agg ⟨runCells y⟩)) h K :=
  semR_neq (by kernel_rfl) (by kernel_rfl) (by rw [eqRun]; exact hk)
theorem prEq {x y : PairP} {p q : Operand} {h : H} {K : Value → Prop} (hk : K (.bool (decide (x = y)))) : SemR Tryd.prog (binS .eql 35 p q (.agg ⟨prCells x⟩) (.agg ⟨prCells y⟩)) h K :=
  semR_eql (by kernel_rfl) (by kernel_rfl) (by rw [eqPr]; exact hk)
theorem prNe {x y : PairP} {p q : Operand} {h : H} {K : Value → Prop} (hk : K (.bool (!decide (x = y)))) : SemR Tryd.prog (binS .neq 35 p q (.agg ⟨prCells x⟩) (.agg ⟨prCells y⟩)) h K :=
  semR_neq (by kernel_rfl) (by kernel_rfl) (by rw [eqPr]; exact hk)
theorem prInv {A : Nat → Prop} {h : H} {s : PairP} {cs : List Value} (hR : elPr.R A h s cs) : cs = prCells s ∧ Rng .i64 s.1 ∧ Rng .i64 s.2.1 ∧ Rng .i64 s.2.2 := by
  obtain ⟨c1, c2, rfl, ⟨rfl, h1⟩, c3, c4, rfl, ⟨rfl, h2⟩, ⟨rfl, h3⟩⟩ := hR
  exact ⟨rfl, h1, h2, h3⟩
theorem apdRun : Apd Tryd.prog elRun 30 25 32 := apd_of (sz := 5) (by kernel_rfl) rfl
section
variable {h : H} {K : Value → H → Prop} {A B : Nat → Prop} {b b2 : Option Addr} {n c n2 c2 : Nat} {l : List RunP} {ps : List PairP}
theorem prAt (r : Row elPr A h b n c ps) {i : Nat} (hi : i < ps.length) {K : Addr → Prop} (hk : ∀ a, (∀ (j : Nat) v, (prCells ps[i])[j]? = some v → cell h ((a.add (Int.toNat (i : Int) * 3)).add j) = some v) → Rng .i64 ps[i].1 → Rng .i64 ps[i].2.1 → Rng .i64 ps[i].2.2 → K a) : (0 ≤ (i : Int) ∧ (i : Int) < (n : Int)) ∧ vSome b K := by
  have hn := r.len
  refine ⟨⟨by omega, by omega⟩, ?_⟩
  obtain ⟨a, rfl, hA⟩ := r.at' i _ (List.getElem?_eq_getElem hi)
  rw [Int.toNat_natCast] at hk
  obtain ⟨_, cs, hR, h4⟩ := hA
  obtain ⟨rfl, h1, h2, h3⟩ := prInv hR
  exact hk a h4 h1 h2 h3
theorem t_ab : IsText [97, 95, 98] := (isText_iff _).2 (by decide)
theorem t_a : IsText [42, 97] := (isText_iff _).2 (by decide)
theorem read_ab : readP [97, 95, 98] 1 = ((95, 1, 1, false, false), true) := by decide +kernel
theorem read_a : readP [42, 97] 0 = ((42, 0, 1, true, false), true) := by decide +kernel
theorem match_k : matchP [(42, 0, 3, true, false), (42, 4, 3, false, true)] = [(1, 6, 2), (0, 7, 1)] := by decide +kernel
theorem var_run {r : RunP} {K : Addr → H → Prop} (hk : ∀ a h', Var h' a 25 (runCells r) → KB h h' → K a h') : newx h ⟨[(.int .u8 (0 : Int)), (.int .i64 (0 : Int)), (.int .i64 (0 : Int)), (.bool false), (.bool false)]⟩ 25 fun a79 h80 => stL a79 [(.int .u8 r.1), (.int .i64 r.2.1), (.int .i64 r.2.2.1), (.bool r.2.2.2.1), (.bool r.2.2.2.2)] 0 h80 fun h81 => K a79 h81 :=
  newx_var (cs := runCells r0) fun a1 h1 v1 k1 e1 z1 => stL_var0 v1 (Nat.le_refl 5) fun h2 v2 k2 z2 => hk a1 h2 v2 (KB.step k1 k2 (by omega))
theorem known_calls (u : U8 h) (hk : ∀ h', KB h h' → K (.bool true) h') : HCalls Tryd.prog 9 ⟨[]⟩ h K := by
  refine Sx.l27_known.ok _ _ (newx_var (cs := runCells (42, 0, 3, true, false) ++ runCells (42, 4, 3, false, true)) fun a h1 v1 k1 e1 z1 => ?_)
  have rr : ∀ x y : Int, -9223372036854775808 ≤ x → x ≤ 9223372036854775807 → -9223372036854775808 ≤ y → y ≤ 9223372036854775807 → ∀ o cl : Bool, RunR ((42, x, y, o, cl) : RunP) := fun x y h1 h2 h3 h4 o cl => ⟨show Rng .u8 42 from ⟨by decide, by decide⟩, ⟨h1, h2⟩, ⟨h3, h4⟩⟩
  have rv : Row elRun (fun k => k = a.block) h1 (some a) 2 2 [(42, 0, 3, true, false), (42, 4, 3, false, true)] := Row.of (xs := runCells (42, 0, 3, true, false) ++ runCells (42, 4, 3, false, true)) ⟨_, _, rfl, runR (rr 0 3 (by decide) (by decide) (by decide) (by decide) true false), _, [], by simp, runR (rr 4 3 (by decide) (by decide) (by decide) (by decide) false true), rfl⟩ (fun j v hv => ⟨a, rfl, v1.cell j hv⟩) rfl (Nat.le_refl _) (by decide) fun x e => by cases e; rfl
  refine match_calls rv (by decide) (by decide) fun h2 b2 n2 c2 k2 o2 => vSliceMk ?_
  rw [match_k] at o2
  have hn2 := o2.own.len
  have k02 := k1.trans k2
  refine read2_calls (rng64 (by decide) (by decide)) (u.kb k02) t_ab (by decide) fun h3 k3 => ?_
  rw [read_ab]
  refine tupRun (condT (var_run (r := (95, 1, 1, false, false)) fun a4 h4 v4 k4 => ?_))
  have k04 := (k02.trans k3).trans k4
  refine read2_calls (rng64 (by decide) (by decide)) (u.kb k04) t_a (by decide) fun h5 k5 => ?_
  rw [read_a]
  refine tupRun (condT (var_run (r := (42, 0, 1, true, false)) fun a6 h6 v6 k6 => ?_))
  have r6 := (o2.kb (((k3.trans k4).trans k5).trans k6)).row
  have v46 := v4.kb (k5.trans k6)
  have hn2 : n2 = 2 := by rw [← hn2]; rfl
  refine splT (by omega) (prAt r6 (i := 0) (by decide) fun x cx _ _ _ => ⟨_, cx 0 _ rfl, _, cx 1 _ rfl, _, cx 2 _ rfl, (prEq (x := (1, 6, 2)) (y := (1, 6, 2)) ?_).h⟩)
  refine vBool_mk (condT (prAt r6 (i := 1) (by decide) fun x cx _ _ _ => ⟨_, cx 0 _ rfl, _, cx 1 _ rfl, _, cx 2 _ rfl, (prEq (x := (0, 7, 1)) (y := (0, 7, 1)) ?_).h⟩))
  exact vBool_mk (condT (condT ⟨_, v46.cell 3 rfl, condF ⟨_, v46.cell 4 rfl, condF ⟨_, v6.cell 3 rfl, condT ⟨_, v6.cell 4 rfl, condF (hk h6 ((k04.trans k5).trans k6))⟩⟩⟩⟩))
theorem heavy_calls (r : Row elRun A h b n c l) (hk : ∀ v, (v = false → n ≤ 1000 ∧ ∀ x ∈ l, x.mn ≤ 1000) → K (.bool v) h) : HCalls Tryd.prog 10 ⟨[.slice b n c]⟩ h K := by
  have hl := r.len
  have hm : n ≤ maxLen := Nat.le_trans r.cap r.max
  simp only [maxLen] at hm
  refine Sx.l27_heavy.ok _ _ _ _ _ ⟨n + 1, ?_⟩
  have key : ∀ N i w, i + N = n → (n : Int) ≤ w → (w ≤ 2001 ∨ w = (n : Int)) → (∀ j (hj : j < l.length), j < i → w ≤ 1000 → l[j].mn ≤ 1000) →
      Sx.l27_heavy.n7_L (fun z3 h => Sx.l27_heavy.n4 z3 (fun y2 h => K (.bool y2) h) (fun y2 h => K (.bool y2) h) h) (fun z3 h => Sx.l27_heavy.n4 z3 (fun y2 h => K (.bool y2) h) (fun y2 h => K (.bool y2) h) h) (fun y2 h => K (.bool y2) h) (N + 1) b n c w (i : Int) h := by
    intro N
    induction N with
    | zero =>
      intro i w hi hw hw2 hall
      unfold Sx.l27_heavy.n7_L
      refine splF (by omega) (spl (fun e => hk true fun e => by cases e) fun e => hk false fun _ => ⟨by omega, fun x hx => ?_⟩)
      obtain ⟨j, hj, rfl⟩ := List.getElem_of_mem hx
      exact hall j hj (by omega) (by omega)
    | succ N ih =>
      intro i w hi hw hw2 hall
      have hi' : i < l.length := by omega
      unfold Sx.l27_heavy.n7_L
      refine splT (by omega) (spl (fun e => rnAt r hi' fun a ca _ => ⟨_, ca 2 _ rfl, ?_⟩) fun e => spl (fun _ => hk true fun e => by cases e) fun e2 => absurd (show w > 1000 by omega) e2)
      have hx : 0 ≤ (if (1001 : Int) < (if (0 : Int) > l[i].mn then (0 : Int) else l[i].mn) then (1001 : Int) else (if (0 : Int) > l[i].mn then (0 : Int) else l[i].mn)) ∧ (if (1001 : Int) < (if (0 : Int) > l[i].mn then (0 : Int) else l[i].mn) then (1001 : Int) else (if (0 : Int) > l[i].mn then (0 : Int) else l[i].mn)) ≤ 1001 ∧ ((if (1001 : Int) < (if (0 : Int) > l[i].mn then (0 : Int) else l[i].mn) then (1001 : Int) else (if (0 : Int) > l[i].mn then (0 : Int) else l[i].mn)) ≤ 1000 → l[i].mn ≤ 1000) := by
        split <;> split <;> (refine ⟨?_, ?_, ?_⟩ <;> omega)
      generalize (if (1001 : Int) < (if (0 : Int) > l[i].mn then (0 : Int) else l[i].mn) then (1001 : Int) else (if (0 : Int) > l[i].mn then (0 : Int) else l[i].mn)) = q at *
      refine ⟨rng64 (by omega) (by omega), rng64 (by omega) (by omega), ih (i + 1) (w + q) (by omega) (by omega) (.inl (by omega)) fun j hj hji hle => ?_⟩
      by_cases e3 : j = i
      · subst e3; exact hx.2.2 (by omega)
      · exact hall j hj (by omega) (by omega)
  exact key n 0 n (by omega) (Int.le_refl _) (.inr rfl) fun j hj hji => absurd hji (Nat.not_lt_zero _)
theorem lawMatches_calls (u : U8 h) (r : Row elRun A h b n c l) (hk : ∀ h', KB h h' → K (.bool true) h') : HCalls Tryd.prog 4 ⟨[.slice b n c]⟩ h K := by
  have hl := r.len
  refine Sx.l27_StarsMatches.ok _ _ _ _ _ (heavy_calls r fun v hv => vBool_mk (condB (fun _ => hk h (KB.refl h)) fun e => ?_))
  obtain ⟨hn, hmn⟩ := hv e
  refine OwnF.append apdRun (OwnF.none h h.size 25) (r.keep (Keep.refl _ _) fun k hk hks => ⟨hks, fun x hx => by cases hx⟩) (by simp only [maxLen]; omega) (by omega) (Nat.le_refl _) fun b1 c1 h1 o1 g1 => vSliceMk ?_
  rw [List.nil_append] at o1
  rw [Nat.zero_add] at o1 ⊢
  have k1 : KB h h1 := Grow.kb0 (KB.refl h) g1 fun a e => by cases e
  have hmn' : ∀ x ∈ l, x.mn ≤ 10000 := fun x hx => by have := hmn x hx; omega
  refine match_calls o1.row hn hmn' fun h2 b2 n2 c2 k2 o2 => vSliceMk (refMatch_calls (r.kb (k1.trans k2)) hn hmn' fun h3 b3 n3 c3 k3 o3 => vSliceMk ?_)
  have l2 := o2.own.len
  have l3 := o3.own.len
  have k03 := (k1.trans k2).trans k3
  refine splT (by omega) (known_calls (u.kb k03) fun h4 k4 => vBool_mk (condT ?_))
  have k04 := k03.trans k4
  have r1 := (o1.kb ((k2.trans k3).trans k4)).row
  have r2 := (o2.kb (k3.trans k4)).row
  have r3 := (o3.kb k4).row
  have r0 := r.kb k04
  have hk4 := hk h4 k04
  have hm2 : n2 ≤ maxLen := Nat.le_trans r2.cap r2.max
  simp only [maxLen] at hm2
  have last : ∀ N i, i + N = n → Sx.l27_StarsMatches.n13_L (fun h => K (.bool true) h) (fun h => K (.bool true) h) (fun y2 h => K (.bool y2) h) (N + 1) b n c b1 n c1 (i : Int) h4 := by
    intro N
    induction N with
    | zero => intro i hi; unfold Sx.l27_StarsMatches.n13_L; exact splF (by omega) hk4
    | succ N ih =>
      intro i hi
      unfold Sx.l27_StarsMatches.n13_L
      refine splT (by omega) (rnAt r1 (show i < l.length by omega) fun a ca _ => ⟨_, ca 0 _ rfl, _, ca 1 _ rfl, _, ca 2 _ rfl, _, ca 3 _ rfl, _, ca 4 _ rfl, rnAt r0 (show i < l.length by omega) fun a2 ca2 _ => ⟨_, ca2 0 _ rfl, _, ca2 1 _ rfl, _, ca2 2 _ rfl, _, ca2 3 _ rfl, _, ca2 4 _ rfl, runNe (x := l[i]) (y := l[i]) (vBool_mk ?_)⟩⟩)
      rw [decide_eq_true rfl]
      exact condF ⟨rng64 (by omega) (by omega), ih (i + 1) (by omega)⟩
  have pairs : ∀ N i, i + N = n2 → Sx.l27_StarsMatches.n16_L (fun z0b z0n z0c z3b z3n z3c h => Sx.l27_StarsMatches.n9 z0b z0n z0c z3b z3n z3c (fun y2 h => K (.bool y2) h) (fun y2 h => K (.bool y2) h) h) (fun z0b z0n z0c z3b z3n z3c h => Sx.l27_StarsMatches.n9 z0b z0n z0c z3b z3n z3c (fun y2 h => K (.bool y2) h) (fun y2 h => K (.bool y2) h) h) (fun y2 h => K (.bool y2) h) (N + 1) b n c b1 n c1 b2 n2 c2 b3 n3 c3 (i : Int) h4 := by
    intro N
    induction N with
    | zero => intro i hi; unfold Sx.l27_StarsMatches.n16_L; exact splF (by omega) ⟨n + 1, last n 0 (by omega)⟩
    | succ N ih =>
      intro i hi
      unfold Sx.l27_StarsMatches.n16_L
      refine splT (by omega) (prAt r2 (show i < (matchP l).length by omega) fun a ca _ _ _ => ⟨_, ca 0 _ rfl, _, ca 1 _ rfl, _, ca 2 _ rfl, prAt r3 (show i < (matchP l).length by omega) fun a2 ca2 _ _ _ => ⟨_, ca2 0 _ rfl, _, ca2 1 _ rfl, _, ca2 2 _ rfl, prNe (x := (matchP l)[i]) (y := (matchP l)[i]) (vBool_mk ?_)⟩⟩)
      rw [decide_eq_true rfl]
      exact condF ⟨rng64 (by omega) (by omega), ih (i + 1) (by omega)⟩
  exact ⟨n2 + 1, pairs n2 0 (by omega)⟩
theorem lawReads_calls {s : Bs} {i : Int} (hi : Rng .i64 i) (u : U8 h) (r : Row elB A h b n c s) (hk : ∀ h', KB h h' → K (.bool true) h') : HCalls Tryd.prog 3 ⟨[.slice b n c, .int .i64 i]⟩ h K := by
  have hl := r.len
  have htx := textP_text s
  have htl := textP_len s
  refine Sx.l27_StarsReads.ok _ _ _ _ _ _ (spl (fun _ => hk h (KB.refl h)) fun hle => text_calls r (by omega) fun h1 k1 => vStrMk ?_)
  generalize textP s = t at *
  refine read2_calls hi (u.kb k1) htx (by omega) fun h2 k2 => tupRun ?_
  have fin : ∀ (q : RunP) (a1 a2 : Addr) h5, Var h5 a1 25 (runCells q) → Var h5 a2 25 (runCells q) → KB h h5 → ∀ {o1 o2 : Operand} {P1 P2 : H → Prop}, P1 h5 → ∃ i67, cell h5 ((a1).add 0) = some (.int .u8 i67) ∧ (∃ i68, cell h5 ((a1).add 1) = some (.int .i64 i68) ∧ (∃ i69, cell h5 ((a1).add 2) = some (.int .i64 i69) ∧ (∃ b70, cell h5 ((a1).add 3) = some (.bool b70) ∧ (∃ b71, cell h5 ((a1).add 4) = some (.bool b71) ∧ (∃ i72, cell h5 ((a2).add 0) = some (.int .u8 i72) ∧ (∃ i73, cell h5 ((a2).add 1) = some (.int .i64 i73) ∧ (∃ i74, cell h5 ((a2).add 2) = some (.int .i64 i74) ∧ (∃ b75, cell h5 ((a2).add 3) = some (.bool b75) ∧ (∃ b76, cell h5 ((a2).add 4) = some (.bool b76) ∧ (SemH Tryd.prog (binS .eql 25 o1 o2 (.agg ⟨[(.int .u8 i67), (.int .i64 i68), (.int .i64 i69), (.bool b70), (.bool b71)]⟩) (.agg ⟨[(.int .u8 i72), (.int .i64 i73), (.int .i64 i74), (.bool b75), (.bool b76)]⟩)) h5 fun v77 h78 => vBool v77 fun b79 => cond b79 (P1 h78) (P2 h78))))))))))) := by
    intro q a1 a2 h5 v1 v2 k5 o1 o2 P1 P2 hp
    refine ⟨_, v1.cell 0 rfl, _, v1.cell 1 rfl, _, v1.cell 2 rfl, _, v1.cell 3 rfl, _, v1.cell 4 rfl, _, v2.cell 0 rfl, _, v2.cell 1 rfl, _, v2.cell 2 rfl, _, v2.cell 3 rfl, _, v2.cell 4 rfl, (runEq (x := q) (y := q) (vBool_mk ?_)).h⟩
    rw [decide_eq_true rfl]
    exact hp
  have step : ∀ h3, KB h h3 → ∀ x7 : Bool, x7 = (readP t i).2 → ∀ a1, Var h3 a1 25 (runCells (readP t i).1) → Sx.l27_StarsReads.n5 i t a1 x7 (fun y2 h => K (.bool y2) h) (fun y2 h => K (.bool y2) h) h3 := by
    intro h3 k3 x7 h7 a1 v1
    refine readR_calls hi (by omega) fun h4 k4 => tupRun ?_
    rw [← h7]
    generalize (readP t i).1 = q at *
    cases x7
    · exact condF (var_run fun a5 h5 v5 k5 => known_calls (u.kb ((k3.trans k4).trans k5)) fun h6 k6 => vBool_mk (condT (fin q a1 a5 h6 (((v1.kb k4).kb k5).kb k6) (v5.kb k6) (((k3.trans k4).trans k5).trans k6) (P1 := fun h => K (.bool true) h) (P2 := fun h => K (.bool false) h) (hk h6 (((k3.trans k4).trans k5).trans k6)))))
    · exact condT (var_run fun a5 h5 v5 k5 => known_calls (u.kb ((k3.trans k4).trans k5)) fun h6 k6 => vBool_mk (condT (fin q a1 a5 h6 (((v1.kb k4).kb k5).kb k6) (v5.kb k6) (((k3.trans k4).trans k5).trans k6) (P1 := fun h => K (.bool true) h) (P2 := fun h => K (.bool false) h) (hk h6 (((k3.trans k4).trans k5).trans k6)))))
  have k02 := k1.trans k2
  exact condB (fun e => var_run fun a3 h3 v3 k3 => step h3 (k02.trans k3) true e.symm a3 v3) fun e => var_run fun a3 h3 v3 k3 => step h3 (k02.trans k3) false e.symm a3 v3
end
end Go.Proofs
