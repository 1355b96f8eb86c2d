/- AdoptNone of any calls and any name returns true, and its arguments read as they did. No condition. -/
import Derived.Test.YtakddeombdgdgaaRows
import Derived.Test.YtakddeombdgdgaaAbA
import Derived.HandedShaped
import Derived.SizedLaws
import Derived.ProofKit
import Derived.OpenShut
import Derived.Carry
namespace Go.Proofs.Ytakddeombdgdgaa.adoptNone
open Go Go.Sh Go.ChangeShapes Go.WideShapes Go.ChangeAt Go.RowKit
set_option linter.unusedVariables false
set_option maxRecDepth 100000

theorem own : ownKnob Try.prog.godebug = none := by kernel_rfl
theorem laidOut : laidOutB Try.prog = true := by kernel_rfl
theorem rdAttr : Reads Try.prog elAttr (fun x => x.1.length ≤ reachBytes ∧ x.2.length ≤ reachBytes) 70 := readsStruct (ts := [9, 9]) (by kernel_rfl) (readsF_cons (readsStr (by kernel_rfl)) (readsF_one (readsStr (by kernel_rfl))))
theorem rdAttrs : Reads Try.prog (elSl elAttr) (fun l => l.length * 32 ≤ reachBytes ∧ ∀ x ∈ l, x.1.length ≤ reachBytes ∧ x.2.length ≤ reachBytes) 28 := readsSl (by' := 32) (by kernel_rfl) rdAttr
theorem rdOp : Reads Try.prog elOpA (fun x => True ∧ True ∧ x.2.2.1.length ≤ reachBytes ∧ (x.2.2.2.length * 32 ≤ reachBytes ∧ ∀ y ∈ x.2.2.2, y.1.length ≤ reachBytes ∧ y.2.length ≤ reachBytes)) 30 := readsStruct (ts := [5, 5, 9, 28]) (by kernel_rfl) (readsF_cons (readsInt (by kernel_rfl)) (readsF_cons (readsInt (by kernel_rfl)) (readsF_cons (readsStr (by kernel_rfl)) (readsF_one rdAttrs))))

theorem lifted (os : Os) (started : os.Started) (H : Type) (enc : TypeId × Value → H) :
    ReturnsInHanded {} Try.checked os 3 .any (Rows.adoptNoneSpec.pre6 enc Try.prog Try.f3 Rows.adoptNoneRow.domain false) (Rows.adoptNoneSpec.post enc Try.prog Try.f3 false true false false) := by
  refine returnsInHanded_of_change_shaped (C := Try.checked) own started (by kernel_rfl) Try.func3
    (ChangeSpec.witness6 (enc := enc) (C := Try.checked) false ⟨#[], #[.slice none 0 0, .string ByteArray.empty], []⟩ 8 (by kernel_rfl) (by kernel_rfl) (by kernel_rfl) (by kernel_rfl)) ?_
  intro W base args ds gs before hval0 hW _ hsz0 hsh _
  have hval : ∀ (j : Nat) t v, Try.f3.params[j]? = some t → args[j]? = some v → Value.okWide Try.prog W .any base t v := hval0
  have hW' := hW
  obtain ⟨p, q, hA0, hV, rfl, hfz, hnd⟩ := hW
  have hA : DataW.TrodAll enc Try.prog W 0 (fun _ => true) true Try.f3.params.toList args.toList ds p := hA0
  have hsz : (DataW.weightsEach Try.prog (Try.f3.params.toList ++ []) (ds ++ gs)).all (· ≤ reachBytes) = true := hsz0
  obtain ⟨rfl, rfl⟩ := trodVars_none hV
  have hlt : ∀ x ∈ p, x.block < W.heap.size := fun x hx => hW'.lt x (List.mem_append_left _ hx)
  rw [Try.params3] at hA hval hsz
  have hA1 := hA
  obtain ⟨v0, vs0, d0, ds0, p0, q0, hargs, rfl, rfl, h0, r0⟩ := trodAll_cons hA1
  obtain ⟨v1, vs1, d1, ds1, p1, q1, rfl, rfl, rfl, h1, r1⟩ := trodAll_cons r0
  obtain ⟨rfl, rfl, rfl⟩ := trodAll_nil r1
  obtain rfl : args = #[v0, v1] := by cases args; simp_all
  have hw0 : ∀ n ∈ d0.weights Try.prog 22, n ≤ reachBytes := fun n hn => by simpa using List.all_eq_true.1 hsz n (DataW.weights_mem_each (j := 0) rfl rfl n hn)
  have hw1 : ∀ n ∈ d1.weights Try.prog 9, n ≤ reachBytes := fun n hn => by simpa using List.all_eq_true.1 hsz n (DataW.weights_mem_each (j := 1) rfl rfl n hn)
  clear hA0 hval0 hsz0
  obtain ⟨l0, b0, n0, c0, rfl, R0, z0, s0⟩ := argSl Try.underlying22 (readsSl (by' := 48) (by kernel_rfl) rdOp) (hval 0 22 v0 rfl rfl) h0 hw0
  obtain ⟨a1, rfl, s1⟩ := argStr Try.underlying9 (hval 1 9 v1 rfl rfl) h1 hw1
  have hML : ML W.heap := Try.laysM144.s1_3 W hsh
  have hc : HCalls Try.prog 3 ⟨[.slice b0 n0 c0, S a1]⟩ W.heap (fun v h' => v = .bool true ∧ KB W.heap h') := lawNone_calls hML R0 fun h' k => ⟨rfl, k⟩
  refine (hc W rfl).mono fun e W' ⟨v, he, ho, hv, hk⟩ => ?_
  subst hv
  have bel := Outer.below ho hk
  exact ⟨_, he, _, _, _, [], _, [], hW', trodAll_mk1 (shut_bool Try.underlying4 _), trodAll_below laidOut bel (by kernel_rfl) hA hlt, rfl, bel.frame _, fun h => by cases h⟩

theorem over : Rows.adoptNoneRow.holds Try.pinned (OpenSpec.ofChange Rows.adoptNoneSpec) :=
  OpenClaim.holds_of_wide 3 Try.f3 rfl rfl rfl rfl rfl rfl rfl ⟨rfl, rfl, rfl, rfl, rfl⟩ rfl rfl rfl rfl rfl (by kernel_rfl) Try.func3 (by kernel_rfl)
    (of_decide_eq_true (by kernel_rfl)) (by unfold Func.isWrapper; first | (rw [if_pos (by decide +kernel)]; kernel_rfl) | (rw [if_neg (by decide +kernel)]; exact ⟨rfl, rfl⟩))
    (fun os started H enc _ => lifted os started H enc)

theorem proved : Rows.AdoptNoneSaid := over
#print axioms proved
end Go.Proofs.Ytakddeombdgdgaa.adoptNone
