/- place: point; New, Insert, Write. No condition but that the tree is one and the library's variable holds a number. -/
import Derived.Test.YtmnjhhgdhlgjfaaGreatPcB
import Derived.Test.YtmnjhhgdhlgjfaaGreatPcL
namespace Go.Proofs
open Go Go.Sh
set_option linter.unusedVariables false
set_option maxRecDepth 100000
/-! ### point -/
def wEnc : Bs := [101, 110, 99, 111, 100, 105, 110, 103]
def wTH : Bs := [116, 101, 120, 116, 47, 104, 116, 109, 108]
def wXH : Bs := [97, 112, 112, 108, 105, 99, 97, 116, 105, 111, 110, 47, 120, 104, 116, 109, 108, 43, 120, 109, 108]
def wAnn : Bs := [97, 110, 110, 111, 116, 97, 116, 105, 111, 110, 45, 120, 109, 108]
def encB1 (a : AttrP) : Bool := decide (a.1 = wEnc) && (decide (lowT a.2 = wTH) || decide (lowT a.2 = wXH))
def pointM (sp : Int) (nm : Bs) (attrs : List AttrP) : Int :=
  if sp = 1 ∧ specialP 1 nm = true then 2
  else if ¬ (sp = 2 ∧ specialP 2 nm = true) then 0
  else if nm ≠ wAnn then 1
  else if attrs.any encB1 = true then 2 else 0
theorem pointM_rng (sp : Int) (nm : Bs) (attrs : List AttrP) : Rng .u8 (pointM sp nm attrs) := by
  unfold pointM
  repeat' split
  all_goals exact ⟨by decide, by decide⟩
/-- attributes whose values are not too long -/
def AttrsW (l : List AttrP) : Prop := ∀ a ∈ l, a.2.length ≤ 100000000
section
variable {A : Nat → Prop} {h : H} {K : Value → H → Prop} {b : Option Addr} {n c : Nat} {attrs : List AttrP} {sp tk : Int} {nm tx : Bs} {cl : Bool}
theorem point_calls (m : ML h) (r : Row elAttr A h b n c attrs) (hv : AttrsW attrs) (hnm : nm.length ≤ 1000000000) (hk : ∀ h', KB h h' → K (.int .u8 (pointM sp nm attrs)) h') :
    HCalls Tryz.prog 31 ⟨[.int .u8 sp, .agg ⟨[.int .u8 tk, S nm, .slice b n c, .bool cl, S tx]⟩]⟩ h K := by
  have hnm2 : nm.length ≤ 9000000000000000000 := by omega
  refine Sx.place_point.ok _ _ _ _ _ _ _ _ _ _ (newx_var fun a h1 v1 k1 e1 s1 => ?_)
  have m1 := m.kb k1
  have r1 := r.kb k1
  have hl := r1.len
  have loop : (attrs.any encB1 = true → ∀ h', KB h h' → K (.int .u8 2) h') → (attrs.any encB1 = false → ∀ h', KB h h' → K (.int .u8 0) h') →
      Sx.place_point.n3 a (fun y4 h => K (.int .u8 y4) h) (fun y4 h => K (.int .u8 y4) h) h1 := by
    intro hy hn
    refine ⟨_, _, _, v1.cell 2 rfl, n + 1, ?_⟩
    have hmx : n ≤ maxLen := Nat.le_trans r.cap r.max
    simp only [maxLen] at hmx
    have key : ∀ k i h2, i + k = n → (attrs.take i).any encB1 = false → KB h1 h2 →
        Sx.place_point.n7_L (fun h => Sx.place_point.n4 (fun y4 h => K (.int .u8 y4) h) (fun y4 h => K (.int .u8 y4) h) h) (fun h => Sx.place_point.n4 (fun y4 h => K (.int .u8 y4) h) (fun y4 h => K (.int .u8 y4) h) h) (fun y4 h => K (.int .u8 y4) h) (k + 1) b n c (n : Int) (i : Int) h2 := by
      intro k
      induction k with
      | zero =>
        intro i h2 hi hno k2
        refine splF (by omega) (hn ?_ h2 (k1.trans k2))
        rwa [List.take_of_length_le (by omega)] at hno
      | succ k ih =>
        intro i h2 hi hno k2
        have hil : i < attrs.length := by omega
        refine splT (by omega) ((r1.kb k2).idxN (i := i) hil rfl fun q hA => ?_)
        have h3 := hA.fst.str
        have h4 := hA.snd.str
        refine ⟨_, h3.1, _, h4.1, newx_var fun a3 h3 v3 k3 e3 s3 => stL_var0 v3 (by show 2 ≤ 2; omega) fun h4 v4 k4 s4 => ⟨_, v4.cell 1 rfl, ?_⟩⟩
        have k2s := k2.1
        have k14 : KB h1 h4 := KB.step (k2.trans k3) k4 (by omega)
        · refine lower_calls (hv _ (List.getElem_mem hil)) fun h5 k5 => vStrMk ⟨_, (v4.kb k5).cell0 rfl, ?_⟩
          have k15 := k14.trans k5
          have hst : (attrs.take (i + 1)).any encB1 = encB1 attrs[i] := by
            rw [List.take_add_one, List.getElem?_eq_getElem hil, List.any_append, hno]
            simp
          have next : encB1 attrs[i] = false → Rng .i64 ((i : Int) + 1) ∧ Sx.place_point.n7_L (fun h => Sx.place_point.n4 (fun y4 h => K (.int .u8 y4) h) (fun y4 h => K (.int .u8 y4) h) h) (fun h => Sx.place_point.n4 (fun y4 h => K (.int .u8 y4) h) (fun y4 h => K (.int .u8 y4) h) h) (fun y4 h => K (.int .u8 y4) h) (k + 1) b n c (n : Int) ((i : Int) + 1) h5 := fun he =>
            ⟨rng64 (by omega) (by omega), ih (i + 1) h5 (by omega) (by rw [hst]; exact he) k15⟩
          have yes : encB1 attrs[i] = true → K (.int .u8 2) h5 := fun he => hy (List.any_eq_true.2 ⟨_, List.getElem_mem hil, he⟩) h5 (k1.trans k15)
          refine spl (fun e1 => spl (fun e2 => yes ?_) fun e2 => spl (fun e3 => yes ?_) fun e3 => next ?_) fun e1 => next ?_
          · unfold encB1
            rw [decide_eq_true (show attrs[i].1 = wEnc from e1), decide_eq_true (show lowT attrs[i].2 = wTH from e2)]; rfl
          · unfold encB1
            rw [decide_eq_true (show attrs[i].1 = wEnc from e1), decide_eq_true (show lowT attrs[i].2 = wXH from e3), Bool.or_true]; rfl
          · unfold encB1
            rw [decide_eq_false (show ¬ lowT attrs[i].2 = wTH from e2), decide_eq_false (show ¬ lowT attrs[i].2 = wXH from e3)]; simp
          · unfold encB1
            rw [decide_eq_false (show ¬ attrs[i].1 = wEnc from e1)]; rfl
    exact key n 0 h1 (by omega) rfl (KB.refl _)
  have T12 : ¬ (sp = 1 ∧ specialP 1 nm = true) → Sx.place_point.n12 sp a (fun z3 h => Sx.place_point.n3 z3 (fun y4 h => K (.int .u8 y4) h) (fun y4 h => K (.int .u8 y4) h) h) (fun z3 h => Sx.place_point.n3 z3 (fun y4 h => K (.int .u8 y4) h) (fun y4 h => K (.int .u8 y4) h) h) (fun y4 h => K (.int .u8 y4) h) h1 := by
    intro hno
    have hz : ¬ (sp = 2 ∧ specialP 2 nm = true) → K (.int .u8 0) h1 := fun h2 => by
      have := hk h1 k1
      unfold pointM at this
      rwa [if_neg hno, if_pos h2] at this
    refine spl (fun e2 => ⟨_, v1.cell 1 rfl, special_calls m1 hnm2 (vBool_mk (condB (fun eb => condF ?_) fun eb => condT (hz fun h2 => ?_)))⟩) fun e2 => condT (hz fun h2 => e2 h2.1)
    · refine ⟨_, v1.cell 1 rfl, spl (fun e3 => ?_) fun e3 => ?_⟩
      · refine loop (fun he h' k' => ?_) fun he h' k' => ?_
        · have := hk h' k'
          unfold pointM at this
          rw [if_neg hno, if_neg (fun h => h ⟨e2, by rw [← e2]; exact eb⟩), if_neg (fun h => h e3), if_pos he] at this
          exact this
        · have := hk h' k'
          unfold pointM at this
          rw [if_neg hno, if_neg (fun h => h ⟨e2, by rw [← e2]; exact eb⟩), if_neg (fun h => h e3), if_neg (by rw [he]; decide)] at this
          exact this
      · have := hk h1 k1
        unfold pointM at this
        rw [if_neg hno, if_neg (fun h => h ⟨e2, by rw [← e2]; exact eb⟩), if_pos (show nm ≠ wAnn from e3)] at this
        exact this
    · rw [← e2, eb] at h2; exact absurd h2.2 (by decide)
  refine spl (fun e2 => ⟨_, v1.cell 1 rfl, special_calls m1 hnm2 (vBool_mk (condB (fun eb => condT ?_) fun eb => condF (T12 fun h2 => ?_)))⟩) fun e2 => condF (T12 fun h2 => e2 h2.1)
  · have := hk h1 k1
    unfold pointM at this
    rw [if_pos ⟨e2, by rw [← e2]; exact eb⟩] at this
    exact this
  · rw [← e2, eb] at h2; exact absurd h2.2 (by decide)
end
end Go.Proofs
