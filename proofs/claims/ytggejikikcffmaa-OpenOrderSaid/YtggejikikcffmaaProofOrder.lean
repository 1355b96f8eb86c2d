/- OpenOrder of any open elements, any scope, any names, any numbers returns true, and its arguments read as they did. No condition. -/
import Derived.Test.YtggejikikcffmaaRows
import Derived.Test.YtggejikikcffmaaHmF
import Derived.Test.YtggejikikcffmaaOpG
import Derived.HandedShaped
import Derived.SizedLaws
import Derived.ProofKit
import Derived.OpenShut
import Derived.Carry
namespace Go.Proofs.Ytggejikikcffmaa.openOrder
open Go Go.Sh Go.ChangeShapes Go.WideShapes Go.ChangeAt Go.RowKit
set_option linter.unusedVariables false
set_option maxRecDepth 100000

theorem own : ownKnob Try.prog.godebug = none := by kernel_rfl
theorem laidOut : laidOutB Try.prog = true := by kernel_rfl
theorem rdOpen : Reads Try.prog elOpen (fun x => True ∧ True ∧ x.2.2.1.length ≤ reachBytes ∧ True) 37 := readsStruct (ts := [3, 5, 9, 5]) (by kernel_rfl) (readsF_cons (readsInt (by kernel_rfl)) (readsF_cons (readsInt (by kernel_rfl)) (readsF_cons (readsStr (by kernel_rfl)) (readsF_one (readsInt (by kernel_rfl))))))

theorem lifted (os : Os) (started : os.Started) (H : Type) (enc : TypeId × Value → H) :
    ReturnsInHanded {} Try.checked os 7 .any (Rows.openOrderSpec.pre6 enc Try.prog Try.f7 Rows.openOrderRow.domain false) (Rows.openOrderSpec.post enc Try.prog Try.f7 false true false false) := by
  refine returnsInHanded_of_change_shaped (C := Try.checked) own started (by kernel_rfl) Try.func7
    (ChangeSpec.witness6 (enc := enc) (C := Try.checked) false ⟨#[], #[.slice none 0 0, .int .u8 0, .slice none 0 0, .slice none 0 0], []⟩ 8 (by kernel_rfl) (by kernel_rfl) (by kernel_rfl) (by kernel_rfl)) ?_
  intro W base args ds gs before hval0 hW _ hsz0 hsh _
  have hval : ∀ (j : Nat) t v, Try.f7.params[j]? = some t → args[j]? = some v → Value.okWide Try.prog W .any base t v := hval0
  have hW' := hW
  obtain ⟨p, q, hA0, hV, rfl, hfz, hnd⟩ := hW
  have hA : DataW.TrodAll enc Try.prog W 0 (fun _ => true) true Try.f7.params.toList args.toList ds p := hA0
  have hsz : (DataW.weightsEach Try.prog (Try.f7.params.toList ++ []) (ds ++ gs)).all (· ≤ reachBytes) = true := hsz0
  obtain ⟨rfl, rfl⟩ := trodVars_none hV
  have hlt : ∀ x ∈ p, x.block < W.heap.size := fun x hx => hW'.lt x (List.mem_append_left _ hx)
  rw [Try.params7] at hA hval hsz
  have hA1 := hA
  obtain ⟨v0, vs0, d0, ds0, p0, q0, hargs, rfl, rfl, h0, r0⟩ := trodAll_cons hA1
  obtain ⟨v1, vs1, d1, ds1, p1, q1, rfl, rfl, rfl, h1, r1⟩ := trodAll_cons r0
  obtain ⟨v2, vs2, d2, ds2, p2, q2, rfl, rfl, rfl, h2, r2⟩ := trodAll_cons r1
  obtain ⟨v3, vs3, d3, ds3, p3, q3, rfl, rfl, rfl, h3, r3⟩ := trodAll_cons r2
  obtain ⟨rfl, rfl, rfl⟩ := trodAll_nil r3
  obtain rfl : args = #[v0, v1, v2, v3] := by cases args; simp_all
  have hw0 : ∀ n ∈ d0.weights Try.prog 22, n ≤ reachBytes := fun n hn => by simpa using List.all_eq_true.1 hsz n (DataW.weights_mem_each (j := 0) rfl rfl n hn)
  have hw1 : ∀ n ∈ d1.weights Try.prog 5, n ≤ reachBytes := fun n hn => by simpa using List.all_eq_true.1 hsz n (DataW.weights_mem_each (j := 1) rfl rfl n hn)
  have hw2 : ∀ n ∈ d2.weights Try.prog 23, n ≤ reachBytes := fun n hn => by simpa using List.all_eq_true.1 hsz n (DataW.weights_mem_each (j := 2) rfl rfl n hn)
  have hw3 : ∀ n ∈ d3.weights Try.prog 35, n ≤ reachBytes := fun n hn => by simpa using List.all_eq_true.1 hsz n (DataW.weights_mem_each (j := 3) rfl rfl n hn)
  clear hA0 hval0 hsz0
  obtain ⟨l0, b0, n0, c0, rfl, R0, z0, s0⟩ := argSl Try.underlying22 (readsSl (by' := 40) (by kernel_rfl) rdOpen) (hval 0 22 v0 rfl rfl) h0 hw0
  obtain ⟨a1, rfl, s1⟩ := argInt Try.underlying5 (hval 1 5 v1 rfl rfl) h1 hw1
  obtain ⟨l2, b2, n2, c2, rfl, R2, z2, s2⟩ := argSl Try.underlying23 (readsSl (e := 9) (by' := 16) (by kernel_rfl) (readsStr (by kernel_rfl))) (hval 2 23 v2 rfl rfl) h2 hw2
  obtain ⟨l3, b3, n3, c3, rfl, R3, z3, s3⟩ := argSl Try.underlying35 (readsSl (e := 3) (by' := 8) (by kernel_rfl) (readsInt (k := .i64) (by kernel_rfl))) (hval 3 35 v3 rfl rfl) h3 hw3
  have hML : ML W.heap := Try.laysM144.s1_3 W hsh
  have hr : reachBytes = 140737488351232 := by decide
  have hc : HCalls Try.prog 7 ⟨[.slice b0 n0 c0, .int .u8 a1, .slice b2 n2 c2, .slice b3 n3 c3]⟩ W.heap (fun v h' => v = .bool true ∧ KB W.heap h') := lawOrder_calls hML (A := Bel W.heap.size) (fun k hk => hk) R0 (fun x hx => by have := (s0.2 x hx).2.2.1; omega) R2 R3 fun h' k => ⟨rfl, k⟩
  refine (hc W rfl).mono fun e W' ⟨v, he, ho, hv, hk⟩ => ?_
  subst hv
  have bel := Outer.below ho hk
  exact ⟨_, he, _, _, _, [], _, [], hW', trodAll_mk1 (shut_bool Try.underlying4 _), trodAll_below laidOut bel (by kernel_rfl) hA hlt, rfl, bel.frame _, fun h => by cases h⟩

theorem over : Rows.openOrderRow.holds Try.pinned (OpenSpec.ofChange Rows.openOrderSpec) :=
  OpenClaim.holds_of_wide 7 Try.f7 rfl rfl rfl rfl rfl rfl rfl ⟨rfl, rfl, rfl, rfl, rfl⟩ rfl rfl rfl rfl rfl (by kernel_rfl) Try.func7 (by kernel_rfl)
    (of_decide_eq_true (by kernel_rfl)) (by unfold Func.isWrapper; first | (rw [if_pos (by decide +kernel)]; kernel_rfl) | (rw [if_neg (by decide +kernel)]; exact ⟨rfl, rfl⟩))
    (fun os started H enc _ => lifted os started H enc)

theorem proved : Rows.OpenOrderSaid := over
#print axioms proved
end Go.Proofs.Ytggejikikcffmaa.openOrder
