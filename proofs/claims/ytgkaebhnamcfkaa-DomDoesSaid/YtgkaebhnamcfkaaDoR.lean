/- dom: the chapter's example. No condition. -/
import Derived.Test.YtgkaebhnamcfkaaDoP
import Derived.Test.YtgkaebhnamcfkaaDoL
namespace Go.Proofs
open Go Go.Sh
set_option linter.unusedVariables false
set_option maxRecDepth 100000
def endB (ns : List NodeM) : Nat → Int → Bool
  | 0, i => decide (i < 0)
  | f + 1, i => decide (i < 0) || endB ns f (parI ns i)
theorem endB_ok {ns : List NodeM} : ∀ {f : Nat} {i : Int}, endB ns f i = true → endP ns f i
  | 0, i, h => (show i < 0 from of_decide_eq_true (p := i < 0) h)
  | f + 1, i, h => by
    unfold endB at h
    rw [Bool.or_eq_true] at h
    exact h.imp (of_decide_eq_true (p := i < 0)) endB_ok
theorem within_dec {ns : List NodeM} {i x : Int} (N : Nat) (h : endB ns N i = true) : withinP ns i x = decide (x ∈ chainP ns N i) := by
  have hi := inC_iff (x := x) (endB_ok h)
  unfold withinP
  by_cases hx : x ∈ chainP ns N i
  · rw [decide_eq_true hx]; exact @decide_eq_true (InC ns i x) (Classical.propDecidable _) (hi.2 hx)
  · rw [decide_eq_false hx]; exact @decide_eq_false (InC ns i x) (Classical.propDecidable _) (fun h => hx (hi.1 h))
abbrev nd (k : Int) (nm tx : Bs) (p : Int) (ks : List Int) : NodeM := ⟨k, 0, nm, [], tx, p, ks⟩
def kn1 : List NodeM := [rootM, nd 1 [97] [] (-1) []]
def kn2 : List NodeM := [rootM, nd 1 [97] [] (-1) [], nd 1 [98] [] (-1) []]
def kn3 : List NodeM := [nd 0 [] [] (-1) [1], nd 1 [97] [] 0 [], nd 1 [98] [] (-1) []]
def kn4 : List NodeM := [nd 0 [] [] (-1) [1], nd 1 [97] [] 0 [2], nd 1 [98] [] 1 []]
def kn4t : List NodeM := [nd 0 [] [] (-1) [1], nd 1 [97] [] 0 [2], nd 1 [98] [] 1 [], nd 2 [] [120] (-1) []]
def kn5 : List NodeM := [nd 0 [] [] (-1) [1], nd 1 [97] [] 0 [3, 2], nd 1 [98] [] 1 [], nd 2 [] [120] 1 []]
def kn6 : List NodeM := [nd 0 [] [] (-1) [1], nd 1 [97] [] 0 [3, 2], nd 1 [98] [] 1 [], nd 2 [] [120, 121] 1 []]
def kn7 : List NodeM := [nd 0 [] [] (-1) [1, 3, 2], nd 1 [97] [] 0 [], nd 1 [98] [] 0 [], nd 2 [] [120, 121] 0 []]
theorem k_a : addM [rootM] (bareM 1 0 [97] [] []) = (kn1, 1) := rfl
theorem k_b : addM kn1 (bareM 1 0 [98] [] []) = (kn2, 2) := rfl
theorem k_p1 : putM kn2 0 (-1) 1 = (kn3, true) := by
  unfold putM
  rw [if_pos ⟨by decide, by decide, by decide, by decide, by decide, by rw [within_dec 3 (by decide)]; decide⟩]
  rfl
theorem k_p2 : putM kn3 1 (-1) 2 = (kn4, true) := by
  unfold putM
  rw [if_pos ⟨by decide, by decide, by decide, by decide, by decide, by rw [within_dec 3 (by decide)]; decide⟩]
  rfl
theorem k_p3 : putM kn4 2 (-1) 1 = (kn4, false) := by
  unfold putM
  rw [if_neg]
  rintro ⟨_, _, _, _, _, h⟩
  rw [within_dec 4 (by decide)] at h
  revert h; decide
theorem k_w1 : writeM kn4 1 2 [120] = (kn5, true) := by
  have e : putM kn4t 1 2 3 = (kn5, true) := by
    unfold putM
    rw [if_pos ⟨by decide, by decide, by decide, by decide, by decide, by rw [within_dec 4 (by decide)]; decide⟩]
    rfl
  unfold writeM
  rw [if_neg (fun h => h ⟨by decide, by decide⟩), if_neg (by decide)]
  exact e
theorem k_w2 : writeM kn5 1 2 [121] = (kn6, true) := by
  unfold writeM
  rw [if_neg (fun h => h ⟨by decide, by decide⟩), if_neg (by decide)]
  rfl
theorem k_m : moveM kn6 1 0 = (kn7, true) := by
  unfold moveM
  rw [if_pos ⟨by decide, by decide, by decide, by rw [within_dec 3 (by decide)]; decide⟩]
  rfl
theorem k_d : Deep 2 kn7 0 := by
  intro k hk
  have hk : k ∈ ([1, 3, 2] : List Int) := hk
  intro q hq
  simp only [List.mem_cons, List.not_mem_nil, or_false] at hk
  rcases hk with rfl | rfl | rfl <;> (have hq : q ∈ ([] : List Int) := hq; cases hq)
theorem k_whole : wholeL 2 kn7 0 = [.mk 1 0 [97] [] [] [], .mk 2 0 [] [] [120, 121] [], .mk 1 0 [98] [] [] []] := rfl
theorem k_lines : linesL 2 [.mk 1 0 [97] [] [] [], .mk 2 0 [] [] [120, 121] [], .mk 1 0 [98] [] [] []] 0 = [60, 97, 62, 10, 34, 120, 121, 34, 10, 60, 98, 62, 10] := by rfl
theorem row_nilA {A : Nat → Prop} {h : H} : Row elAttr A h none 0 0 [] := ⟨rfl, Nat.le_refl _, Nat.zero_le _, fun i x hx => by simp at hx⟩
section
variable {h : H} {K : Value → H → Prop}
theorem known_calls (hk : ∀ h', KB h h' → K (.bool true) h') : HCalls Try.prog 8 ⟨[]⟩ h K := by
  refine Sx.l10_known.ok _ _ (new_calls (s := 0) (col := fun _ => none) (fun _ _ => rfl) fun t h1 c1 a1 T1 E1 => vPtrMk (ptrEq_k (by kernel_rfl) (vBool_mk (condF ?_))))
  have G1 := good_root
  refine make_calls T1 (row_nilA (A := fun _ => True)) (fun _ => rfl) (by decide) ⟨by decide, by decide⟩ ⟨by decide, by decide⟩ (by decide) (by decide) (by decide) fun h2 c2 a2 T2 E2 => vIntMk ?_
  have G2 := G1.addM 1 0 [97] [] []
  rw [k_a] at T2 G2 ⊢
  refine make_calls T2 (row_nilA (A := fun _ => True)) (fun _ => rfl) (by decide) ⟨by decide, by decide⟩ ⟨by decide, by decide⟩ (by decide) (by decide) (by decide) fun h3 c3 a3 T3 E3 => vIntMk ?_
  have G3 : GoodT (addM kn1 (bareM 1 0 [98] [] [])).1 := G2.addM 1 0 [98] [] []
  rw [k_b] at T3 G3 ⊢
  refine splT rfl (splT rfl (put_calls T3 G3 fun h4 c4 T4 E4 => vBool_mk ?_))
  have G4 : GoodT (putM kn2 0 (-1) 1).1 := G3.putM _ _ _
  rw [k_p1] at T4 G4
  have e1 : (putM (kn2, (2 : Int)).1 0 (-1) (kn1, (1 : Int)).2).2 = true := congrArg Prod.snd k_p1
  rw [e1]
  refine condT (put_calls T4 G4 fun h5 c5 T5 E5 => vBool_mk ?_)
  have G5 : GoodT (putM kn3 1 (-1) 2).1 := G4.putM _ _ _
  have e2 : (putM (kn3, true).1 (kn1, (1 : Int)).2 (-1) (kn2, (2 : Int)).2) = (kn4, true) := k_p2
  rw [e2] at T5 ⊢
  rw [k_p2] at G5
  refine condT (put_calls T5 G5 fun h6 c6 T6 E6 => vBool_mk ?_)
  have e3 : (putM (kn4, true).1 (kn2, (2 : Int)).2 (-1) (kn1, (1 : Int)).2) = (kn4, false) := k_p3
  rw [e3] at T6 ⊢
  refine condF (write_calls T6 G5 (fun i x hx => ?_) (by decide) (by decide) fun h7 c7 a7 T7 E7 => vBool_mk ?_)
  · have : x ∈ kn4 := List.mem_of_getElem? hx
    simp only [kn4, List.mem_cons, List.not_mem_nil, or_false] at this
    rcases this with rfl | rfl | rfl <;> decide
  have G7 : GoodT (writeM kn4 1 2 [120]).1 := G5.writeM _ _ _
  have e4 : writeM (kn4, false).1 (kn1, (1 : Int)).2 (kn2, (2 : Int)).2 [120] = (kn5, true) := k_w1
  rw [e4] at T7 ⊢
  rw [k_w1] at G7
  refine condT (write_calls T7 G7 (fun i x hx => ?_) (by decide) (by decide) fun h8 c8 a8 T8 E8 => vBool_mk ?_)
  · have : x ∈ kn5 := List.mem_of_getElem? hx
    simp only [kn5, List.mem_cons, List.not_mem_nil, or_false] at this
    rcases this with rfl | rfl | rfl | rfl <;> decide
  have G8 : GoodT (writeM kn5 1 2 [121]).1 := G7.writeM _ _ _
  have e5 : writeM (kn5, true).1 (kn1, (1 : Int)).2 (kn2, (2 : Int)).2 [121] = (kn6, true) := k_w2
  rw [e5] at T8 ⊢
  rw [k_w2] at G8
  refine condT (move_calls T8 G8 fun h9 c9 T9 E9 => vBool_mk ?_)
  have G9 : GoodT (moveM kn6 1 0).1 := G8.moveM _ _
  have e6 : moveM (kn6, true).1 (kn1, (1 : Int)).2 0 = (kn7, true) := k_m
  rw [e6] at T9 ⊢
  rw [k_m] at G9
  refine condT (kids_calls T9 (fun hn => absurd (by decide) hn) G9 fun i x b c h10 ei hx o10 k10 => vSliceMk ?_)
  have hi0 : i = 0 := by omega
  subst hi0
  have hx : some (nd 0 [] [] (-1) [1, 3, 2]) = some x := hx
  cases hx
  have r10 := o10.row
  refine condT (condT (splT rfl ?_))
  refine r10.idxN (i := 0) (by decide) rfl fun q hA => ldI hA fun _ => splT rfl ?_
  refine r10.idxN (i := 1) (by decide) rfl fun q hA => ldI hA fun _ => splT rfl ?_
  refine r10.idxN (i := 2) (by decide) rfl fun q hA => ldI hA fun _ => splT rfl ?_
  refine whole_calls G9 2 0 (T9.kb k10) k_d fun h11 b11 n11 c11 k11 o11 => vSliceMk ?_
  have e7 : wholeL 2 (kn7, true).1 0 = [.mk 1 0 [97] [] [] [], .mk 2 0 [] [] [120, 121] [], .mk 1 0 [98] [] [] []] := k_whole
  rw [e7] at o11
  refine print_calls o11.row (by decide) (by rw [k_lines]; decide) fun h12 k12 => vStrMk ?_
  rw [k_lines]
  refine splT rfl (hk h12 ?_)
  have E := (((((((E1.trans E2).trans E3).trans E4).trans E5).trans E6).trans E7).trans E8).trans E9
  have k9 : KB h h9 := E.sk.less fun k hk => ⟨hk, fun p e => by cases e⟩
  exact ((k9.trans k10).trans k11).trans k12
end
end Go.Proofs
