/- stars: comparing; the example. No condition but that the library's tables hold what they hold. -/
import Derived.Test.YtgpfanbjchieiaaDoorSrK
namespace Go.Proofs
open Go Go.Sh
set_option linter.unusedVariables false
set_option maxRecDepth 100000
theorem tupRun {r : RunP} {b : Bool} {k : Int → Int → Int → Bool → Bool → Bool → Prop} (h : k r.1 r.2.1 r.2.2.1 r.2.2.2.1 r.2.2.2.2 b) : vTup (.tuple ⟨[.agg ⟨runCells r⟩, .bool b]⟩) fun l57 => uncons l57 fun e58 l59 => vAgg e58 fun l60 => uncons l60 fun e61 l62 => vInt .u8 e61 fun i63 => uncons l62 fun e64 l65 => vInt .i64 e64 fun i66 => uncons l65 fun e67 l68 => vInt .i64 e67 fun i69 => uncons l68 fun e70 l71 => vBool e70 fun b72 => uncons l71 fun e73 l74 => vBool e73 fun b75 => unnil l74 (uncons l59 fun e76 l77 => vBool e76 fun b78 => unnil l77 (k i63 i66 i69 b72 b75 b78)) :=
  show vInt .u8 (.int .u8 r.1) fun i63 => vInt .i64 (.int .i64 r.2.1) fun i66 => vInt .i64 (.int .i64 r.2.2.1) fun i69 => k i63 i66 i69 r.2.2.2.1 r.2.2.2.2 b from vIntMk (vIntMk (vIntMk h))
theorem eqRun (x y : RunP) : eqAll (runCells x) (runCells y) = decide (x = y) := by
  obtain ⟨x1, x2, x3, x4, x5⟩ := x; obtain ⟨y1, y2, y3, y4, y5⟩ := y
  simp only [runCells, eqAll, eqV, Bool.and_true]
  rw [Bool.eq_iff_iff]
  simp
def prCells (p : PairP) : List Value := [.int .i64 p.1, .int .i64 p.2.1, .int .i64 p.2.2]
theorem eqPr (x y : PairP) : eqAll (prCells x) (prCells y) = decide (x = y) := by
  obtain ⟨x1, x2, x3⟩ := x; obtain ⟨y1, y2, y3⟩ := y
  simp only [prCells, eqAll, eqV, Bool.and_true]
  rw [Bool.eq_iff_iff]
  simp
theorem runEq {x y : RunP} {p q : Operand} {h : H} {K : Value → Prop} (hk : K (.bool (decide (x = y)))) : SemR Tryd.prog (binS .eql 25 p q (.agg ⟨runCells x⟩) (.agg ⟨runCells y⟩)) h K :=
  semR_eql (by kernel_rfl) (by kernel_rfl) (by rw [eqRun]; exact hk)
theorem runNe {x y : RunP} {p q : Operand} {h : H} {K : Value → Prop} (hk : K (.bool (!decide (x = y)))) : SemR Tryd.prog (binS .neq 25 p q (.agg ⟨runCells x⟩) (.agg ⟨runCells y⟩)) h K :=
  semR_neq (by kernel_rfl) (by kernel_rfl) (by rw [eqRun]; exact hk)
theorem prEq {x y : PairP} {p q : Operand} {h : H} {K : Value → Prop} (hk : K (.bool (decide (x = y)))) : SemR Tryd.prog (binS .eql 35 p q (.agg ⟨prCells x⟩) (.agg ⟨prCells y⟩)) h K :=
  semR_eql (by kernel_rfl) (by kernel_rfl) (by rw [eqPr]; exact hk)
theorem prNe {x y : PairP} {p q : Operand} {h : H} {K : Value → Prop} (hk : K (.bool (!decide (x = y)))) : SemR Tryd.prog (binS .neq 35 p q (.agg ⟨prCells x⟩) (.agg ⟨prCells y⟩)) h K :=
  semR_neq (by kernel_rfl) (by kernel_rfl) (by rw [eqPr]; exact hk)
theorem prInv {A : Nat → Prop} {h : H} {s : PairP} {cs : List Value} (hR : elPr.R A h s cs) : cs = prCells s ∧ Rng .i64 s.1 ∧ Rng .i64 s.2.1 ∧ Rng .i64 s.2.2 := by
  obtain ⟨c1, c2, rfl, ⟨rfl, h1⟩, c3, c4, rfl, ⟨rfl, h2⟩, ⟨rfl, h3⟩⟩ := hR
  exact ⟨rfl, h1, h2, h3⟩
theorem apdRun : Apd Tryd.prog elRun 30 25 32 := apd_of (sz := 5) (by kernel_rfl) rfl
section
variable {h : H} {K : Value → H → Prop} {A B : Nat → Prop} {b b2 : Option Addr} {n c n2 c2 : Nat} {l : List RunP} {ps : List PairP}
theorem prAt (r : Row elPr A h b n c ps) {i : Nat} (hi : i < ps.length) {K : Addr → Prop} (hk : ∀ a, (∀ (j : Nat) v, (prCells ps[i])[j]? = some v → cell h ((a.add (Int.toNat (i : Int) * 3)).add j) = some v) → Rng .i64 ps[i].1 → Rng .i64 ps[i].2.1 → Rng .i64 ps[i].2.2 → K a) : (0 ≤ (i : Int) ∧ (i : Int) < (n : Int)) ∧ vSome b K := by
  have hn := r.len
  refine ⟨⟨by omega, by omega⟩, ?_⟩
  obtain ⟨a, rfl, hA⟩ := r.at' i _ (List.getElem?_eq_getElem hi)
  rw [Int.toNat_natCast] at hk
  obtain ⟨_, cs, hR, h4⟩ := hA
  obtain ⟨rfl, h1, h2, h3⟩ := prInv hR
  exact hk a h4 h1 h2 h3
theorem t_ab : IsText [97, 95, 98] := (isText_iff _).2 (by decide)
theorem t_a : IsText [42, 97] := (isText_iff _).2 (by decide)
theorem read_ab : readP [97, 95, 98] 1 = ((95, 1, 1, false, false), true) := by decide +kernel
theorem read_a : readP [42, 97] 0 = ((42, 0, 1, true, false), true) := by decide +kernel
theorem match_k : matchP [(42, 0, 3, true, false), (42, 4, 3, false, true)] = [(1, 6, 2), (0, 7, 1)] := by decide +kernel
theorem var_run {r : RunP} {K : Addr → H → Prop} (hk : ∀ a h', Var h' a 25 (runCells r) → KB h h' → K a h') : newx h ⟨[(.int .u8 (0 : Int)), (.int .i64 (0 : Int)), (.int .i64 (0 : Int)), (.bool false), (.bool false)]⟩ 25 fun a79 h80 => stL a79 [(.int .u8 r.1), (.int .i64 r.2.1), (.int .i64 r.2.2.1), (.bool r.2.2.2.1), (.bool r.2.2.2.2)] 0 h80 fun h81 => K a79 h81 :=
  newx_var (cs := runCells r0) fun a1 h1 v1 k1 e1 z1 => stL_var0 v1 (Nat.le_refl 5) fun h2 v2 k2 z2 => hk a1 h2 v2 (KB.step k1 k2 (by omega))
theorem var_runB {r : RunP} {K : Addr → H → Prop} (hk : ∀ a h', Var h' a 25 (runCells r) → KB h h' → h.size ≤ a.block → K a h') : newx h ⟨[(.int .u8 (0 : Int)), (.int .i64 (0 : Int)), (.int .i64 (0 : Int)), (.bool false), (.bool false)]⟩ 25 fun a79 h80 => stL a79 [(.int .u8 r.1), (.int .i64 r.2.1), (.int .i64 r.2.2.1), (.bool r.2.2.2.1), (.bool r.2.2.2.2)] 0 h80 fun h81 => K a79 h81 :=
  newx_var (cs := runCells r0) fun a1 h1 v1 k1 e1 z1 => stL_var0 v1 (Nat.le_refl 5) fun h2 v2 k2 z2 => hk a1 h2 v2 (KB.step k1 k2 (by omega)) (by omega)
theorem known_calls (u : U8 h) (hk : ∀ h', KB h h' → K (.bool true) h') : HCalls Tryd.prog 9 ⟨[]⟩ h K := by
  refine Sx.l27_known.ok _ _ (newx_var (cs := runCells (42, 0, 3, true, false) ++ runCells (42, 4, 3, false, true)) fun a h1 v1 k1 e1 z1 => ?_)
  have rr : ∀ x y : Int, -9223372036854775808 ≤ x → x ≤ 9223372036854775807 → -9223372036854775808 ≤ y → y ≤ 9223372036854775807 → ∀ o cl : Bool, RunR ((42, x, y, o, cl) : RunP) := fun x y h1 h2 h3 h4 o cl => ⟨show Rng .u8 42 from ⟨by decide, by decide⟩, ⟨h1, h2⟩, ⟨h3, h4⟩⟩
  have rv : Row elRun (fun k => k = a.block) h1 (some a) 2 2 [(42, 0, 3, true, false), (42, 4, 3, false, true)] := Row.of (xs := runCells (42, 0, 3, true, false) ++ runCells (42, 4, 3, false, true)) ⟨_, _, rfl, runR (rr 0 3 (by decide) (by decide) (by decide) (by decide) true false), _, [], by simp, runR (rr 4 3 (by decide) (by decide) (by decide) (by decide) false true), rfl⟩ (fun j v hv => ⟨a, rfl, v1.cell j hv⟩) rfl (Nat.le_refl _) (by decide) fun x e => by cases e; rfl
  refine match_calls rv (by decide) (by decide) fun h2 b2 n2 c2 k2 o2 => vSliceMk ?_
  rw [match_k] at o2
  have hn2 := o2.own.len
  have k02 := k1.trans k2
  refine read2_calls (rng64 (by decide) (by decide)) (u.kb k02) t_ab (by decide) fun h3 k3 => ?_
  rw [read_ab]
  refine tupRun (condT (var_run (r := (95, 1, 1, false, false)) fun a4 h4 v4 k4 => ?_))
  have k04 := (k02.trans k3).trans k4
  refine read2_calls (rng64 (by decide) (by decide)) (u.kb k04) t_a (by decide) fun h5 k5 => ?_
  rw [read_a]
  refine tupRun (condT (var_run (r := (42, 0, 1, true, false)) fun a6 h6 v6 k6 => ?_))
  have r6 := (o2.kb (((k3.trans k4).trans k5).trans k6)).row
  have v46 := v4.kb (k5.trans k6)
  have hn2 : n2 = 2 := by rw [← hn2]; rfl
  refine splT (by omega) (prAt r6 (i := 0) (by decide) fun x cx _ _ _ => ⟨_, cx 0 _ rfl, _, cx 1 _ rfl, _, cx 2 _ rfl, (prEq (x := (1, 6, 2)) (y := (1, 6, 2)) ?_).h⟩)
  refine vBool_mk (condT (prAt r6 (i := 1) (by decide) fun x cx _ _ _ => ⟨_, cx 0 _ rfl, _, cx 1 _ rfl, _, cx 2 _ rfl, (prEq (x := (0, 7, 1)) (y := (0, 7, 1)) ?_).h⟩))
  exact vBool_mk (condT (condT ⟨_, v46.cell 3 rfl, condF ⟨_, v46.cell 4 rfl, condF ⟨_, v6.cell 3 rfl, condT ⟨_, v6.cell 4 rfl, condF (hk h6 ((k04.trans k5).trans k6))⟩⟩⟩⟩))
end
end Go.Proofs
