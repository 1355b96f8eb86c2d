/- ModesPlays of any tokens returns true, and its arguments read as they did. No condition. -/
import Derived.Test.YtijoifkjeamonaaGreatRows
import Derived.Test.YtijoifkjeamonaaGreatMoY
import Derived.HandedShaped
import Derived.SizedLaws
import Derived.ProofKit
import Derived.OpenShut
import Derived.Carry
namespace Go.Proofs.YtijoifkjeamonaaGreat.modesPlays
open Go Go.Sh Go.ChangeShapes Go.WideShapes Go.ChangeAt Go.RowKit
set_option linter.unusedVariables false
set_option maxRecDepth 100000
theorem own : ownKnob Tryz.prog.godebug = none := by kernel_rfl
theorem laidOut : laidOutB Tryz.prog = true := by kernel_rfl
theorem rdAttr : Reads Tryz.prog aW (fun x => x.1.length <= reachBytes /\ x.2.length <= reachBytes) 67 := uv (ts := [9, 9]) (by kernel_rfl) (iZ (sd (by kernel_rfl)) (wh (sd (by kernel_rfl))))
theorem rdAttrs : Reads Tryz.prog (EH aW) (fun l => l.length * 32 <= reachBytes /\ ∀ x ∈ l, x.1.length <= reachBytes /\ x.2.length <= reachBytes) 43 := GA (by' := 32) (by kernel_rfl) rdAttr
theorem rdTok : Reads Tryz.prog ja (fun x => True /\ x.2.1.length <= reachBytes /\ (x.2.2.1.length * 32 <= reachBytes /\ ∀ y ∈ x.2.2.1, y.1.length <= reachBytes /\ y.2.length <= reachBytes) /\ True /\ x.2.2.2.2.length <= reachBytes) 45 := uv (ts := [5, 9, 43, 4, 9]) (by kernel_rfl) (iZ (JJ (by kernel_rfl)) (iZ (sd (by kernel_rfl)) (iZ rdAttrs (iZ (HZ (by kernel_rfl)) (wh (sd (by kernel_rfl)))))))
theorem lifted (os : Os) (started : os.Started) (H : Type) (enc : TypeId × Value -> H) :
    ReturnsInHanded {} Tryz.checked os 3 .any (Rows.modesPlaysSpec.pre6 enc Tryz.prog Tryz.f3 Rows.modesPlaysRow.domain false) (Rows.modesPlaysSpec.post enc Tryz.prog Tryz.f3 false true false false) := by
  refine returnsInHanded_of_change_shaped (C := Tryz.checked) own started (by kernel_rfl) Tryz.func3
    (ChangeSpec.witness6 (enc := enc) (C := Tryz.checked) false ⟨#[], #[.slice none 0 0], []⟩ 8 (by kernel_rfl) (by kernel_rfl) (by kernel_rfl) (by kernel_rfl)) ?_
  intro W base args ds gs before Rk hW _ Xv WO _
  have Xw : ∀ (j : Nat) t v, Tryz.f3.params[j]? = some t -> args[j]? = some v -> Value.okWide Tryz.prog W .any base t v := Rk
  have hW' := hW
  obtain ⟨p, q, Xx, hV, rfl, hfz, jY⟩ := hW
  have hA : DataW.TrodAll enc Tryz.prog W 0 (fun _ => true) true Tryz.f3.params.toList args.toList ds p := Xx
  have im : (DataW.weightsEach Tryz.prog (Tryz.f3.params.toList ++ []) (ds ++ gs)).all (· <= reachBytes) = true := Xv
  obtain ⟨rfl, rfl⟩ := trodVars_none hV
  have cP : ∀ x ∈ p, x.block < W.heap.size := fun x hx => hW'.lt x (List.mem_append_left _ hx)
  rw [Tryz.params3] at hA Xw im
  have Cj := hA
  obtain ⟨v0, vs0, d0, ds0, p0, q0, Rl, rfl, rfl, h0, r0⟩ := trodAll_cons Cj
  obtain ⟨rfl, rfl, rfl⟩ := trodAll_nil r0
  obtain rfl : args = #[v0] := by cases args; simp_all
  have N3 : ∀ n ∈ d0.weights Tryz.prog 22, n <= reachBytes := fun n hn => by simpa using List.all_eq_true.1 im n (DataW.weights_mem_each (j := 0) rfl rfl n hn)
  clear Xx Rk Xv
  obtain ⟨l0, b0, n0, c0, rfl, R0, z0, s0⟩ := Xy Tryz.underlying22 (GA (by' := 72) (by kernel_rfl) rdTok) (Xw 0 22 v0 rfl rfl) h0 N3
  have hML : ML W.heap := Tryz.laysM144.s1_3 W WO
  have hc : hG Tryz.prog 3 ⟨[.slice b0 n0 c0]⟩ W.heap (fun v h' => v = .bool true /\ KB W.heap h') := wj hML R0 fun h' k => ⟨rfl, k⟩
  refine (hc W rfl).mono fun e W' ⟨v, he, ho, hv, hk⟩ => ?_
  subst hv
  have H0 := bw.below ho hk
  exact ⟨_, he, _, _, _, [], _, [], hW', trodAll_mk1 (shut_bool Tryz.underlying4 _), qL laidOut H0 (by kernel_rfl) hA cP, rfl, H0.frame _, fun h => by cases h⟩
theorem over : Rows.modesPlaysRow.holds Tryz.pinned (OpenSpec.ofChange Rows.modesPlaysSpec) :=
  OpenClaim.holds_of_wide 3 Tryz.f3 rfl rfl rfl rfl rfl rfl rfl ⟨rfl, rfl, rfl, rfl, rfl⟩ rfl rfl rfl rfl rfl (by kernel_rfl) Tryz.func3 (by kernel_rfl)
    (of_decide_eq_true (by kernel_rfl)) (by unfold Func.isWrapper; first | (rw [if_pos (by decide +kernel)]; kernel_rfl) | (rw [if_neg (by decide +kernel)]; exact ⟨rfl, rfl⟩))
    (fun os started H enc _ => lifted os started H enc)
theorem proved : Rows.ModesPlaysSaid := over
#print axioms proved
end Go.Proofs.YtijoifkjeamonaaGreat.modesPlays
