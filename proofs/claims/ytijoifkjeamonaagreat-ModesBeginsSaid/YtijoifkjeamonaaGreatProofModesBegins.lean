/- ModesBegins of any tokens returns true, and its arguments read as they did. No condition. -/
import Derived.Test.YtijoifkjeamonaaGreatRows
import Derived.Test.YtijoifkjeamonaaGreatMpG
import Derived.HandedShaped
import Derived.SizedLaws
import Derived.ProofKit
import Derived.OpenShut
import Derived.Carry
namespace Go.Proofs.YtijoifkjeamonaaGreat.modesBegins
open Go Go.Sh Go.ChangeShapes Go.WideShapes Go.ChangeAt Go.RowKit
set_option linter.unusedVariables false
set_option maxRecDepth 100000
theorem own : ownKnob Tryz.prog.godebug = none := by kernel_rfl
theorem laidOut : laidOutB Tryz.prog = true := by kernel_rfl
theorem rdAttr : Reads Tryz.prog elAttr (fun x => x.1.length <= reachBytes /\ x.2.length <= reachBytes) 67 := readsStruct (ts := [9, 9]) (by kernel_rfl) (readsF_cons (readsStr (by kernel_rfl)) (readsF_one (readsStr (by kernel_rfl))))
theorem rdAttrs : Reads Tryz.prog (elSl elAttr) (fun l => l.length * 32 <= reachBytes /\ ∀ x ∈ l, x.1.length <= reachBytes /\ x.2.length <= reachBytes) 43 := readsSl (by' := 32) (by kernel_rfl) rdAttr
theorem rdTok : Reads Tryz.prog elTok (fun x => True /\ x.2.1.length <= reachBytes /\ (x.2.2.1.length * 32 <= reachBytes /\ ∀ y ∈ x.2.2.1, y.1.length <= reachBytes /\ y.2.length <= reachBytes) /\ True /\ x.2.2.2.2.length <= reachBytes) 45 := readsStruct (ts := [5, 9, 43, 4, 9]) (by kernel_rfl) (readsF_cons (readsInt (by kernel_rfl)) (readsF_cons (readsStr (by kernel_rfl)) (readsF_cons rdAttrs (readsF_cons (readsBool (by kernel_rfl)) (readsF_one (readsStr (by kernel_rfl)))))))
theorem lifted (os : Os) (started : os.Started) (H : Type) (enc : TypeId × Value -> H) :
    ReturnsInHanded {} Tryz.checked os 5 .any (Rows.modesBeginsSpec.pre6 enc Tryz.prog Tryz.f5 Rows.modesBeginsRow.domain false) (Rows.modesBeginsSpec.post enc Tryz.prog Tryz.f5 false true false false) := by
  refine returnsInHanded_of_change_shaped (C := Tryz.checked) own started (by kernel_rfl) Tryz.func5
    (ChangeSpec.witness6 (enc := enc) (C := Tryz.checked) false ⟨#[], #[.slice none 0 0, .int .i64 0], []⟩ 8 (by kernel_rfl) (by kernel_rfl) (by kernel_rfl) (by kernel_rfl)) ?_
  intro W base args ds gs before hval0 hW _ hsz0 hsh _
  have hval : ∀ (j : Nat) t v, Tryz.f5.params[j]? = some t -> args[j]? = some v -> Value.okWide Tryz.prog W .any base t v := hval0
  have hW' := hW
  obtain ⟨p, q, hA0, hV, rfl, hfz, hnd⟩ := hW
  have hA : DataW.TrodAll enc Tryz.prog W 0 (fun _ => true) true Tryz.f5.params.toList args.toList ds p := hA0
  have hsz : (DataW.weightsEach Tryz.prog (Tryz.f5.params.toList ++ []) (ds ++ gs)).all (· <= reachBytes) = true := hsz0
  obtain ⟨rfl, rfl⟩ := trodVars_none hV
  have hlt : ∀ x ∈ p, x.block < W.heap.size := fun x hx => hW'.lt x (List.mem_append_left _ hx)
  rw [Tryz.params5] at hA hval hsz
  have hA1 := hA
  obtain ⟨v0, vs0, d0, ds0, p0, q0, hargs, rfl, rfl, h0, r0⟩ := trodAll_cons hA1
  obtain ⟨v1, vs1, d1, ds1, p1, q1, rfl, rfl, rfl, h1, r1⟩ := trodAll_cons r0
  obtain ⟨rfl, rfl, rfl⟩ := trodAll_nil r1
  obtain rfl : args = #[v0, v1] := by cases args; simp_all
  have hw0 : ∀ n ∈ d0.weights Tryz.prog 22, n <= reachBytes := fun n hn => by simpa using List.all_eq_true.1 hsz n (DataW.weights_mem_each (j := 0) rfl rfl n hn)
  have hw1 : ∀ n ∈ d1.weights Tryz.prog 3, n <= reachBytes := fun n hn => by simpa using List.all_eq_true.1 hsz n (DataW.weights_mem_each (j := 1) rfl rfl n hn)
  clear hA0 hval0 hsz0
  obtain ⟨l0, b0, n0, c0, rfl, R0, z0, s0⟩ := argSl Tryz.underlying22 (readsSl (by' := 72) (by kernel_rfl) rdTok) (hval 0 22 v0 rfl rfl) h0 hw0
  obtain ⟨a1, rfl, s1⟩ := argInt Tryz.underlying3 (hval 1 3 v1 rfl rfl) h1 hw1
  have hML : ML W.heap := Tryz.laysM144.s1_3 W hsh
  have hc : HCalls Tryz.prog 5 ⟨[.slice b0 n0 c0, .int .i64 a1]⟩ W.heap (fun v h' => v = .bool true /\ KB W.heap h') := lawBegins_calls hML R0 s1 fun h' k => ⟨rfl, k⟩
  refine (hc W rfl).mono fun e W' ⟨v, he, ho, hv, hk⟩ => ?_
  subst hv
  have bel := Outer.below ho hk
  exact ⟨_, he, _, _, _, [], _, [], hW', trodAll_mk1 (shut_bool Tryz.underlying4 _), trodAll_below laidOut bel (by kernel_rfl) hA hlt, rfl, bel.frame _, fun h => by cases h⟩
theorem over : Rows.modesBeginsRow.holds Tryz.pinned (OpenSpec.ofChange Rows.modesBeginsSpec) :=
  OpenClaim.holds_of_wide 5 Tryz.f5 rfl rfl rfl rfl rfl rfl rfl ⟨rfl, rfl, rfl, rfl, rfl⟩ rfl rfl rfl rfl rfl (by kernel_rfl) Tryz.func5 (by kernel_rfl)
    (of_decide_eq_true (by kernel_rfl)) (by unfold Func.isWrapper; first | (rw [if_pos (by decide +kernel)]; kernel_rfl) | (rw [if_neg (by decide +kernel)]; exact ⟨rfl, rfl⟩))
    (fun os started H enc _ => lifted os started H enc)
theorem proved : Rows.ModesBeginsSaid := over
#print axioms proved
end Go.Proofs.YtijoifkjeamonaaGreat.modesBegins
