/- ModesSteps of any tokens returns true, and its arguments read as they did. No condition. -/
import Derived.Test.YtijoifkjeamonaaGreatRows
import Derived.Test.YtijoifkjeamonaaGreatMoZ
import Derived.HandedShaped
import Derived.SizedLaws
import Derived.ProofKit
import Derived.OpenShut
import Derived.Carry
namespace Go.Proofs.YtijoifkjeamonaaGreat.modesSteps
open Go Go.Sh Go.ChangeShapes Go.WideShapes Go.ChangeAt Go.RowKit
set_option linter.unusedVariables false
set_option maxRecDepth 100000
theorem own : ownKnob Tryz.prog.godebug = none := by kernel_rfl
theorem laidOut : laidOutB Tryz.prog = true := by kernel_rfl
theorem rdAttr : Reads Tryz.prog aY (fun x => x.1.length <= reachBytes /\ x.2.length <= reachBytes) 67 := ug (ts := [9, 9]) (by kernel_rfl) (iV (rW (by kernel_rfl)) (vY (rW (by kernel_rfl))))
theorem rdAttrs : Reads Tryz.prog (EJ aY) (fun l => l.length * 32 <= reachBytes /\ ∀ x ∈ l, x.1.length <= reachBytes /\ x.2.length <= reachBytes) 43 := GG (by' := 32) (by kernel_rfl) rdAttr
theorem rdTok : Reads Tryz.prog oK (fun x => True /\ x.2.1.length <= reachBytes /\ (x.2.2.1.length * 32 <= reachBytes /\ ∀ y ∈ x.2.2.1, y.1.length <= reachBytes /\ y.2.length <= reachBytes) /\ True /\ x.2.2.2.2.length <= reachBytes) 45 := ug (ts := [5, 9, 43, 4, 9]) (by kernel_rfl) (iV (JS (by kernel_rfl)) (iV (rW (by kernel_rfl)) (iV rdAttrs (iV (H8 (by kernel_rfl)) (vY (rW (by kernel_rfl)))))))
theorem lifted (os : Os) (started : os.Started) (H : Type) (enc : TypeId × Value -> H) :
    ReturnsInHanded {} Tryz.checked os 4 .any (Rows.modesStepsSpec.pre6 enc Tryz.prog Tryz.f4 Rows.modesStepsRow.domain false) (Rows.modesStepsSpec.post enc Tryz.prog Tryz.f4 false true false false) := by
  refine returnsInHanded_of_change_shaped (C := Tryz.checked) own started (by kernel_rfl) Tryz.func4
    (ChangeSpec.witness6 (enc := enc) (C := Tryz.checked) false ⟨#[], #[.slice none 0 0], []⟩ 8 (by kernel_rfl) (by kernel_rfl) (by kernel_rfl) (by kernel_rfl)) ?_
  intro W base args ds gs before Rz hW _ XV hsh _
  have XW : ∀ (j : Nat) t v, Tryz.f4.params[j]? = some t -> args[j]? = some v -> Value.okWide Tryz.prog W .any base t v := Rz
  have hW' := hW
  obtain ⟨p, q, XX, hV, rfl, hfz, jO⟩ := hW
  have hA : DataW.TrodAll enc Tryz.prog W 0 (fun _ => true) true Tryz.f4.params.toList args.toList ds p := XX
  have ib : (DataW.weightsEach Tryz.prog (Tryz.f4.params.toList ++ []) (ds ++ gs)).all (· <= reachBytes) = true := XV
  obtain ⟨rfl, rfl⟩ := trodVars_none hV
  have cR : ∀ x ∈ p, x.block < W.heap.size := fun x hx => hW'.lt x (List.mem_append_left _ hx)
  rw [Tryz.params4] at hA XW ib
  have Ci := hA
  obtain ⟨v0, vs0, d0, ds0, p0, q0, RE, rfl, rfl, h0, r0⟩ := trodAll_cons Ci
  obtain ⟨rfl, rfl, rfl⟩ := trodAll_nil r0
  obtain rfl : args = #[v0] := by cases args; simp_all
  have Oc : ∀ n ∈ d0.weights Tryz.prog 22, n <= reachBytes := fun n hn => by simpa using List.all_eq_true.1 ib n (DataW.weights_mem_each (j := 0) rfl rfl n hn)
  clear XX Rz XV
  obtain ⟨l0, b0, n0, c0, rfl, R0, z0, s0⟩ := XY Tryz.underlying22 (GG (by' := 72) (by kernel_rfl) rdTok) (XW 0 22 v0 rfl rfl) h0 Oc
  have hML : ML W.heap := Tryz.laysM144.s1_3 W hsh
  have hc : gQ Tryz.prog 4 ⟨[.slice b0 n0 c0]⟩ W.heap (fun v h' => v = .bool true /\ KB W.heap h') := vZ hML R0 fun h' k => ⟨rfl, k⟩
  refine (hc W rfl).mono fun e W' ⟨v, he, ho, hv, hk⟩ => ?_
  subst hv
  have JC := bu.below ho hk
  exact ⟨_, he, _, _, _, [], _, [], hW', trodAll_mk1 (shut_bool Tryz.underlying4 _), qD laidOut JC (by kernel_rfl) hA cR, rfl, JC.frame _, fun h => by cases h⟩
theorem over : Rows.modesStepsRow.holds Tryz.pinned (OpenSpec.ofChange Rows.modesStepsSpec) :=
  OpenClaim.holds_of_wide 4 Tryz.f4 rfl rfl rfl rfl rfl rfl rfl ⟨rfl, rfl, rfl, rfl, rfl⟩ rfl rfl rfl rfl rfl (by kernel_rfl) Tryz.func4 (by kernel_rfl)
    (of_decide_eq_true (by kernel_rfl)) (by unfold Func.isWrapper; first | (rw [if_pos (by decide +kernel)]; kernel_rfl) | (rw [if_neg (by decide +kernel)]; exact ⟨rfl, rfl⟩))
    (fun os started H enc _ => lifted os started H enc)
theorem proved : Rows.ModesStepsSaid := over
#print axioms proved
end Go.Proofs.YtijoifkjeamonaaGreat.modesSteps
