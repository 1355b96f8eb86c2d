/- utf: the chapter's Lines; the example; the laws UtfTexts, UtfRight, UtfLines, UtfEnds. No condition but what the library's variables hold. -/
import Derived.Test.YtodponooeepilaaDoorUfS
namespace Go.Proofs
open Go Go.Sh
set_option linter.unusedVariables false
set_option maxRecDepth 100000
section
variable {h : H} {s : Bs} {K : Value → H → Prop}
theorem linesR_calls (hs : s.length ≤ 100000000) (hk : ∀ h' b n c, KB h h' → OwnF elStr h' h.size 9 b n c (linesP (newP s)) → K (.slice b n c) h') : HCalls Tryd.prog 20 ⟨[S s]⟩ h K := by
  have hnl := newP_len s
  refine Sx.r01_Lines.ok _ _ _ (newlinesR_calls (by omega) fun h1 k1 => vStrMk ?_)
  generalize newP s = q at *
  have key : ∀ N i fr h2 ob on oc (out : List Bs), q.length ≤ i + N → i ≤ q.length → fr ≤ i → (10 : UInt8) ∉ (q.take i).drop fr → KB h h2 → OwnF elStr h2 h.size 9 ob on oc out → out ++ linesP (q.drop fr) = linesP q → out.length ≤ fr →
      Sx.r01_Lines.n9_L (fun z0 z3b z3n z3c z4 h => Sx.r01_Lines.n6 z0 z3b z3n z3c z4 (fun y2b y2n y2c h => K (.slice y2b y2n y2c) h) (fun y2b y2n y2c h => K (.slice y2b y2n y2c) h) h) (fun z0 z3b z3n z3c z4 h => Sx.r01_Lines.n6 z0 z3b z3n z3c z4 (fun y2b y2n y2c h => K (.slice y2b y2n y2c) h) (fun y2b y2n y2c h => K (.slice y2b y2n y2c) h) h) (fun y2b y2n y2c h => K (.slice y2b y2n y2c) h) (N + 1) q ob on oc (fr : Int) (i : Int) h2 := by
    intro N
    have fin : ∀ i fr h2 ob on oc (out : List Bs), q.length ≤ i → i ≤ q.length → fr ≤ i → (10 : UInt8) ∉ (q.take i).drop fr → KB h h2 → OwnF elStr h2 h.size 9 ob on oc out → out ++ linesP (q.drop fr) = linesP q → out.length ≤ fr →
        Sx.r01_Lines.n6 q ob on oc (fr : Int) (fun y2b y2n y2c h => K (.slice y2b y2n y2c) h) (fun y2b y2n y2c h => K (.slice y2b y2n y2c) h) h2 := by
      intro i fr h2 ob on oc out hN hi hf hu k2 o2 e ho
      have hi' : i = q.length := by omega
      subst hi'
      rw [List.take_length] at hu
      refine spl (fun hlt => ⟨⟨by omega, by omega, by omega⟩, ?_⟩) fun hge => ?_
      · rw [sub_full q fr hf]
        rw [linesP_last hu (fun e => by have := congrArg List.length e; rw [List.length_drop, List.length_nil] at this; omega)] at e
        exact str_app o2 k2.1 (by omega) (by rw [List.length_drop]; simp only [maxLen]; omega) fun b5 c5 h5 o5 k5 => vSliceMk (hk h5 b5 _ c5 (SK.trans k2 k5) (by rw [← e]; exact o5))
      · rw [List.drop_of_length_le (by omega), show linesP [] = [] from rfl, List.append_nil] at e
        exact hk h2 ob on oc k2 (by rw [← e]; exact o2)
    induction N with
    | zero =>
      intro i fr h2 ob on oc out hN hi hf hu k2 o2 e ho
      exact splF (by omega) (fin i fr h2 ob on oc out (by omega) hi hf hu k2 o2 e ho)
    | succ N ih =>
      intro i fr h2 ob on oc out hN hi hf hu k2 o2 e ho
      refine spl (fun hlt => ⟨⟨by omega, by omega⟩, ?_⟩) fun hge => fin i fr h2 ob on oc out (by omega) hi hf hu k2 o2 e ho
      have hi' : i < q.length := by omega
      have hd : q.drop i = q[i] :: q.drop (i + 1) := List.drop_eq_getElem_cons hi'
      have hsp : q.drop fr = (q.take i).drop fr ++ q.drop i := by
        have := congrArg (List.drop fr) (List.take_append_drop i q)
        rw [List.drop_append_of_le_length (by rw [List.length_take]; omega)] at this
        exact this.symm
      rw [getDN hi']
      refine spl (fun e10 => ⟨⟨by omega, by omega, by omega⟩, ?_⟩) fun e10 => ⟨rng64 (by omega) (by omega), ?_⟩
      · have x10 : q[i] = 10 := UInt8.toNat_inj.1 (by have : (10 : UInt8).toNat = 10 := rfl; omega)
        rw [sub_nat]
        rw [hsp, hd, x10, linesP_cut hu] at e
        refine str_app o2 k2.1 (by omega) (by simp only [List.length_drop, List.length_take, maxLen]; omega) fun b5 c5 h5 o5 k5 => vSliceMk ⟨rng64 (by omega) (by omega), rng64 (by omega) (by omega), ?_⟩
        exact ih (i + 1) (i + 1) h5 b5 _ c5 _ (by omega) (by omega) (Nat.le_refl _) (by rw [List.drop_of_length_le (by rw [List.length_take]; omega)]; simp) (SK.trans k2 k5) o5 (by rw [List.append_assoc]; exact e) (by simp; omega)
      · refine ih (i + 1) fr h2 ob on oc out (by omega) (by omega) (by omega) ?_ k2 o2 e ho
        rw [List.take_add_one, List.getElem?_eq_getElem hi', List.drop_append_of_le_length (by rw [List.length_take]; omega)]
        intro hm
        rcases List.mem_append.1 hm with hm | hm
        · exact hu hm
        · simp at hm; rw [← hm] at e10; exact e10 rfl
  exact ⟨q.length + 1, key q.length 0 0 h1 none 0 0 [] (by omega) (by omega) (Nat.le_refl _) (by simp) k1 (OwnF.none _ _ _) (by rw [List.drop_zero]; rfl) (by simp)⟩
theorem known_calls (u : U8 h) (m : ML2 h) (hk : ∀ h', KB h h' → K (.bool true) h') : HCalls Tryd.prog 11 ⟨[]⟩ h K := by
  refine Sx.l01_known.ok _ _ (newx_var (cs := [.int .u8 97, .int .u8 0, .int .u8 255, .int .u8 98]) fun a h1 v1 k1 e1 z1 => ?_)
  have rv : Row elB (fun k => k = a.block) h1 (some a) 4 4 [97, 0, 255, 98] := Row.of (encB _) (fun j v hv => ⟨a, rfl, v1.cell j hv⟩) rfl (Nat.le_refl _) (by decide) fun x e => by cases e; rfl
  refine text2_calls (u.kb k1) rv (by decide) fun h2 k2 => vStrMk (splT (by decide) (lines2_calls (m.kb (k1.trans k2)) (by decide) fun h3 b n c k3 o3 => vSliceMk ?_))
  have hn : n = 3 := by have := o3.own.len; rw [← this]; decide
  have k03 := (k1.trans k2).trans k3
  refine splT (by omega) (right2_calls (by decide) fun h4 k4 => vBool_mk (condB (fun _ => right2_calls (by decide) fun h5 k5 => vBool_mk (condB (fun e => absurd e (by decide)) fun _ => newlines_calls (m.kb ((k03.trans k4).trans k5)) (by decide) fun h6 k6 => vStrMk (splT (by decide) (hk h6 (((k03.trans k4).trans k5).trans k6))))) fun e => absurd e (by decide)))
variable {A : Nat → Prop} {b : Option Addr} {n c : Nat} {l : Bs}
theorem lawTexts_calls (u : U8 h) (m : ML2 h) (r : Row elB A h b n c l) (hk : ∀ h', KB h h' → K (.bool true) h') : HCalls Tryd.prog 3 ⟨[.slice b n c]⟩ h K := by
  have hn := r.len
  refine Sx.l01_UtfTexts.ok _ _ _ _ _ (spl (fun _ => hk h (KB.refl h)) fun hle => OwnF.append apdB (OwnF.none h h.size 5) (r.less fun k hk hks => ⟨hks, fun x hx => by cases hx⟩) (by simp only [maxLen]; omega) (by omega) (Nat.le_refl _) fun b1 c1 h1 o1 g1 => vSliceMk ?_)
  rw [List.nil_append] at o1
  have k1 : KB h h1 := Grow.kb0 (KB.refl h) g1 fun a e => by cases e
  refine text2_calls (u.kb k1) o1.row (by omega) fun h2 k2 => vStrMk (known_calls (u.kb (k1.trans k2)) (m.kb (k1.trans k2)) fun h3 k3 => vBool_mk (condT (text_calls (r.kb ((k1.trans k2).trans k3)) (by omega) fun h4 k4 => vStrMk (splT rfl ?_))))
  have k04 := ((k1.trans k2).trans k3).trans k4
  exact same_calls ((o1.kb ((k2.trans k3).trans k4)).row) (r.kb k04) (vBool_mk (condB (fun _ => hk h4 k04) fun e => absurd e (by simp)))
theorem lawRight_calls (u : U8 h) (m : ML2 h) (hk : ∀ h', KB h h' → K (.bool true) h') : HCalls Tryd.prog 4 ⟨[S s]⟩ h K :=
  Sx.l01_UtfRight.ok _ _ _ (spl (fun _ => hk h (KB.refl h)) fun hle => known_calls u m fun h1 k1 => vBool_mk (condT (right2_calls (by omega) fun h2 k2 => vBool_mk (condB
    (fun e => right_calls (by omega) fun h3 k3 => vBool_mk (condB (fun _ => hk h3 ((k1.trans k2).trans k3)) fun e2 => by rw [e] at e2; cases e2))
    fun e => right_calls (by omega) fun h3 k3 => vBool_mk (condB (fun e2 => by rw [e] at e2; cases e2) fun _ => hk h3 ((k1.trans k2).trans k3))))))
theorem lawLines_calls (u : U8 h) (m : ML2 h) (hk : ∀ h', KB h h' → K (.bool true) h') : HCalls Tryd.prog 5 ⟨[S s]⟩ h K :=
  Sx.l01_UtfLines.ok _ _ _ (spl (fun _ => hk h (KB.refl h)) fun hle => known_calls u m fun h1 k1 => vBool_mk (condT (newlines_calls (m.kb k1) (by omega) fun h2 k2 => vStrMk (newlinesR_calls (by omega) fun h3 k3 => vStrMk (splT rfl
    (lines2_calls (m.kb ((k1.trans k2).trans k3)) (by omega) fun h4 b4 n4 c4 k4 o4 => vSliceMk (linesR_calls (by omega) fun h5 b5 n5 c5 k5 o5 => vSliceMk (sameS_calls ((o4.kb k5).row) o5.row (vBool_mk (condB (fun _ => hk h5 ((((k1.trans k2).trans k3).trans k4).trans k5)) fun e => absurd e (by simp)))))))))))
theorem lawEnds_calls (u : U8 h) (m : ML2 h) (hk : ∀ h', KB h h' → K (.bool true) h') : HCalls Tryd.prog 7 ⟨[S s]⟩ h K := by
  have hnl := newP_len s
  have hll := linesP_len _ (newP s) (Nat.le_refl _)
  refine Sx.l01_UtfEnds.ok _ _ _ (spl (fun _ => known_calls u m fun h1 k1 => vBool_mk (condT (hk h1 k1))) fun hle => known_calls u m fun h1 k1 => vBool_mk (condT (newlines_calls (m.kb k1) (by omega) fun h2 k2 => vStrMk (lines2_calls (m.kb (k1.trans k2)) (by omega) fun h3 b3 n3 c3 k3 o3 => vSliceMk (lines2_calls (m.kb ((k1.trans k2).trans k3)) (by omega) fun h4 b4 n4 c4 k4 o4 => vSliceMk (sameS_calls ((o3.kb k4).row) o4.row ?_))))))
  rw [newP_newP]
  have k04 := ((k1.trans k2).trans k3).trans k4
  refine vBool_mk (condB (fun _ => newlines_calls (m.kb k04) (by omega) fun h5 k5 => vStrMk (splT (newP_newP s) ?_)) fun e => absurd e (by simp))
  have k05 := k04.trans k5
  have r5 := ((o3.kb k4).kb k5).row
  have hl := r5.len
  have jl := join_lines _ (newP s) (Nat.le_refl _)
  generalize newP s = q at *
  have key : ∀ N i acc, n3 = i + N → acc = joinP ((linesP q).take i) → Sx.l01_UtfEnds.n11_L (fun z3 z5 h => Sx.l01_UtfEnds.n8 z3 z5 (fun y2 h => K (.bool y2) h) (fun y2 h => K (.bool y2) h) h) (fun z3 z5 h => Sx.l01_UtfEnds.n8 z3 z5 (fun y2 h => K (.bool y2) h) (fun y2 h => K (.bool y2) h) h) (fun y2 h => K (.bool y2) h) (N + 1) q b3 n3 c3 acc (i : Int) h5 := by
    intro N
    induction N with
    | zero =>
      intro i acc hi he
      refine splF (by omega) ?_
      rw [List.take_of_length_le (by omega)] at he
      subst he
      rcases jl with jl | jl
      · rw [jl]; exact splT rfl (hk h5 k05)
      · rw [jl]; exact spl (fun _ => hk h5 k05) fun _ => ⟨by have : ([10] : Bs).length = 1 := rfl; omega, splT rfl (hk h5 k05)⟩
    | succ N ih =>
      intro i acc hi he
      have hi' : i < (linesP q).length := by omega
      have hal : acc.length ≤ 20000 * 20001 := by
        rw [he]
        have h1 := join_len ((linesP q).take i) 20000 fun x hx => by have := hll.2 x (List.mem_of_mem_take hx); omega
        rw [List.length_take] at h1
        have : min i (linesP q).length * (20000 + 1) ≤ 20000 * (20000 + 1) := Nat.mul_le_mul_right _ (by omega)
        omega
      have hxl := hll.2 _ (List.getElem_mem hi')
      refine splT (by omega) (r5.idxN hi' rfl fun a hA => ldS hA fun hR => ⟨by omega, ?_, rng64 (by omega) (by omega), ?_⟩)
      · have : ([10] : Bs).length = 1 := rfl
        rw [List.length_append]; omega
      · refine ih (i + 1) _ (by omega) ?_
        rw [List.take_add_one, List.getElem?_eq_getElem hi', he]
        exact (joinP_snoc _ _).symm
  exact ⟨n3 + 1, key n3 0 [] (by omega) rfl⟩
end
end Go.Proofs
