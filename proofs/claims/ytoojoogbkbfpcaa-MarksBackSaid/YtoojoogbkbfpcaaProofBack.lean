/- MarksBack of any marks and any others returns true, and its arguments read as they did. No condition. -/
import Derived.Test.YtoojoogbkbfpcaaRows
import Derived.Test.YtoojoogbkbfpcaaHmF
import Derived.Test.YtoojoogbkbfpcaaMkP
import Derived.SizedLaws
import Derived.ProofKit
import Derived.OpenShut
import Derived.Carry
namespace Go.Proofs.Ytoojoogbkbfpcaa.marksBack
open Go Go.Sh Go.ChangeShapes Go.WideShapes Go.ChangeAt Go.RowKit
set_option linter.unusedVariables false
set_option maxRecDepth 100000

theorem own : ownKnob Try.prog.godebug = none := by kernel_rfl
theorem laidOut : laidOutB Try.prog = true := by kernel_rfl
theorem rdAttr : Reads Try.prog elAttr (fun x => x.1.length ≤ reachBytes ∧ x.2.length ≤ reachBytes) 38 := readsStruct (ts := [9, 9]) (by kernel_rfl) (readsF_cons (readsStr (by kernel_rfl)) (readsF_one (readsStr (by kernel_rfl))))
theorem rdMark : Reads Try.prog elMark (fun x => True ∧ x.2.1.length ≤ reachBytes ∧ (x.2.2.length * 32 ≤ reachBytes ∧ ∀ y ∈ x.2.2, y.1.length ≤ reachBytes ∧ y.2.length ≤ reachBytes)) 25 := readsStruct (ts := [3, 9, 23]) (by kernel_rfl) (readsF_cons (readsInt (by kernel_rfl)) (readsF_cons (readsStr (by kernel_rfl)) (readsF_one (readsSl (by kernel_rfl) rdAttr))))

theorem lifted (os : Os) (started : os.Started) (H : Type) (enc : TypeId × Value → H) :
    ReturnsInHanded {} Try.checked os 6 .any (Rows.marksBackSpec.pre6 enc Try.prog Try.f6 Rows.marksBackRow.domain false) (Rows.marksBackSpec.post enc Try.prog Try.f6 false true false false) := by
  refine returnsInHanded_of_change_sized (C := Try.checked) own started (by kernel_rfl) Try.func6
    (ChangeSpec.witness6 (enc := enc) (C := Try.checked) false ⟨#[], #[.slice none 0 0, .slice none 0 0], []⟩ 8 (by kernel_rfl) (by kernel_rfl) (by kernel_rfl) (by kernel_rfl)) ?_
  intro W base args ds gs before hval0 hW _ hsz0 _
  have hval : ∀ (j : Nat) t v, Try.f6.params[j]? = some t → args[j]? = some v → Value.okWide Try.prog W .any base t v := hval0
  have hW' := hW
  obtain ⟨p, q, hA0, hV, rfl, hfz, hnd⟩ := hW
  have hA : DataW.TrodAll enc Try.prog W 0 (fun _ => true) true Try.f6.params.toList args.toList ds p := hA0
  have hsz : (DataW.weightsEach Try.prog (Try.f6.params.toList ++ []) (ds ++ gs)).all (· ≤ reachBytes) = true := hsz0
  obtain ⟨rfl, rfl⟩ := trodVars_none hV
  have hlt : ∀ x ∈ p, x.block < W.heap.size := fun x hx => hW'.lt x (List.mem_append_left _ hx)
  rw [Try.params6] at hA hval hsz
  have hA1 := hA
  obtain ⟨v0, vs0, d0, ds0, p0, q0, hargs, rfl, rfl, h0, r0⟩ := trodAll_cons hA1
  obtain ⟨v1, vs1, d1, ds1, p1, q1, rfl, rfl, rfl, h1, r1⟩ := trodAll_cons r0
  obtain ⟨rfl, rfl, rfl⟩ := trodAll_nil r1
  obtain rfl : args = #[v0, v1] := by cases args; simp_all
  have hw0 : ∀ n ∈ d0.weights Try.prog 22, n ≤ reachBytes := fun n hn => by simpa using List.all_eq_true.1 hsz n (DataW.weights_mem_each (j := 0) rfl rfl n hn)
  have hw1 : ∀ n ∈ d1.weights Try.prog 22, n ≤ reachBytes := fun n hn => by simpa using List.all_eq_true.1 hsz n (DataW.weights_mem_each (j := 1) rfl rfl n hn)
  clear hA0 hval0 hsz0
  obtain ⟨l0, b0, n0, c0, rfl, R0, z0, s0⟩ := argSl Try.underlying22 (readsSl (by' := 48) (by kernel_rfl) rdMark) (hval 0 22 v0 rfl rfl) h0 hw0
  obtain ⟨l1, b1, n1, c1, rfl, R1, z1, s1⟩ := argSl Try.underlying22 (readsSl (by' := 48) (by kernel_rfl) rdMark) (hval 1 22 v1 rfl rfl) h1 hw1
  have hr : reachBytes = 140737488351232 := by decide
  have hc : HCalls Try.prog 6 ⟨[.slice b0 n0 c0, .slice b1 n1 c1]⟩ W.heap (fun v h' => v = .bool true ∧ KB W.heap h') := lawBack_calls R0 z0 (by have := R0.len; have := s0.1; omega) (fun m hm => by have := (s0.2 m hm).2.2.1; omega) R1 (by have := R1.len; have := s1.1; omega) (fun m hm => by have := (s1.2 m hm).2.2.1; omega) fun h' k => ⟨rfl, k⟩
  refine (hc W rfl).mono fun e W' ⟨v, he, ho, hv, hk⟩ => ?_
  subst hv
  have bel := Outer.below ho hk
  exact ⟨_, he, _, _, _, [], _, [], hW', trodAll_mk1 (shut_bool Try.underlying4 _), trodAll_below laidOut bel (by kernel_rfl) hA hlt, rfl, bel.frame _, fun h => by cases h⟩

theorem over : Rows.marksBackRow.holds Try.pinned (OpenSpec.ofChange Rows.marksBackSpec) :=
  OpenClaim.holds_of_wide 6 Try.f6 rfl rfl rfl rfl rfl rfl rfl ⟨rfl, rfl, rfl, rfl, rfl⟩ rfl rfl rfl rfl rfl (by kernel_rfl) Try.func6 (by kernel_rfl)
    (of_decide_eq_true (by kernel_rfl)) (by unfold Func.isWrapper; first | (rw [if_pos (by decide +kernel)]; kernel_rfl) | (rw [if_neg (by decide +kernel)]; exact ⟨rfl, rfl⟩))
    (fun os started H enc _ => lifted os started H enc)

theorem proved : Rows.MarksBackSaid := over
#print axioms proved
end Go.Proofs.Ytoojoogbkbfpcaa.marksBack
