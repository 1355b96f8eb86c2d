/- stars: Read of both. No condition but that the library's tables hold what they hold. -/
import Derived.Test.YtgpfanbjchieiaaDoorSrE
import Derived.Test.YtgpfanbjchieiaaDoorCpB
namespace Go.Proofs
open Go Go.Sh
set_option linter.unusedVariables false
set_option maxRecDepth 100000
/-! ### plain -/
def cntP (c : UInt8) : Bs → Nat
  | [] => 0
  | x :: t => if x = c then cntP c t + 1 else 0
theorem cnt_le (c : UInt8) : ∀ l : Bs, cntP c l ≤ l.length
  | [] => Nat.le_refl _
  | x :: t => by unfold cntP; split <;> simp [cnt_le c t]
theorem cnt_trim (c : UInt8) : ∀ l : Bs, (Lib.trimLeftB l c).length + cntP c l = l.length
  | [] => rfl
  | x :: t => by
    unfold Lib.trimLeftB cntP
    rw [List.dropWhile_cons]
    by_cases h : x = c
    · have := cnt_trim c t
      unfold Lib.trimLeftB at this
      rw [if_pos (by simpa using h), if_pos h, List.length_cons]; omega
    · rw [if_neg (by simpa using h), if_neg h]; rfl
theorem cnt_all (c : UInt8) : ∀ (l : Bs) (j : Nat), j < cntP c l → l.getD j 0 = c
  | [], j, h => by simp [cntP] at h
  | x :: t, j, h => by
    unfold cntP at h
    split at h
    · rename_i e
      cases j with
      | zero => simpa using e
      | succ j => have := cnt_all c t j (by omega); simpa using this
    · omega
/-- may a row stand free towards one side, looked at from the other one? -/
def freeP (to fr : Int) : Bool := !Tryd.blankI to && (!Tryd.punctI to || (Tryd.blankI fr || Tryd.punctI fr))
def rowP (s : Bs) (i : Nat) : RunP :=
  let c := s.getD i 0
  let n := cntP c (s.drop i)
  let a := prevP s i
  let b := nextP s ((i : Int) + n)
  let l := freeP b a
  let r := freeP a b
  if c.toNat = 95 then ((c.toNat : Int), (i : Int), (n : Int), l && (!r || Tryd.punctI a), r && (!l || Tryd.punctI b)) else ((c.toNat : Int), (i : Int), (n : Int), l, r)
def starAt (s : Bs) (i : Int) : Prop := ¬ (i < 0) ∧ ¬ (i ≥ (s.length : Int)) ∧ ((s.getD i.toNat 0).toNat = 42 ∨ (s.getD i.toNat 0).toNat = 95)
instance (s : Bs) (i : Int) : Decidable (starAt s i) := by unfold starAt; exact inferInstance
def readP (s : Bs) (i : Int) : RunP × Bool := if starAt s i then (rowP s i.toNat, true) else (r0, false)
theorem encN_ge {r : Nat} (h : ¬ r < 128) (hr : r ≤ 1114111) : ∀ x ∈ encN r, 128 ≤ x.toNat := by
  intro x hx
  unfold encN at hx
  rw [if_neg h] at hx
  split at hx
  · simp at hx; rcases hx with rfl | rfl <;> rw [b8_nat (by omega)] <;> omega
  · split at hx
    · simp at hx; rcases hx with rfl | rfl | rfl <;> rw [b8_nat (by omega)] <;> omega
    · simp at hx; rcases hx with rfl | rfl | rfl | rfl <;> rw [b8_nat (by omega)] <;> omega
/-- ahead of a byte that is a character stands a text -/
theorem text_take : ∀ (rs : List Nat), (∀ r ∈ rs, okR r) → ∀ i, i < (encs rs).length → ((encs rs).getD i 0).toNat < 128 → IsText ((encs rs).take i)
  | [], _, i, hi, _ => by simp [encs] at hi
  | r :: rs, hr, i, hi, hb => by
    rw [encs_cons] at hi hb ⊢
    have h0 := hr r (by simp)
    by_cases hlt : i < (encN r).length
    · have hi0 : i = 0 := by
        by_cases hs : r < 128
        · have : (encN r).length = 1 := by unfold encN; rw [if_pos hs]; rfl
          omega
        · exfalso
          rw [List.getD_eq_getElem?_getD, List.getElem?_append_left hlt, List.getElem?_eq_getElem hlt] at hb
          have hr2 : r ≤ 1114111 := by rcases h0.1 with h | h <;> omega
          have := encN_ge hs hr2 _ (List.getElem_mem hlt)
          simp at hb
          omega
      subst hi0
      exact isText_nil
    · rw [List.take_append, List.take_of_length_le (by omega)]
      rw [List.length_append] at hi
      rw [List.getD_eq_getElem?_getD, List.getElem?_append_right (by omega)] at hb
      refine isText_append (isText_one h0) (text_take rs (fun x hx => hr x (by simp [hx])) (i - (encN r).length) (by omega) ?_)
      rw [List.getD_eq_getElem?_getD]; exact hb
theorem prevP_last {s : Bs} (ht : IsText s) {i : Nat} (hi : i < s.length) (hb : (s.getD i 0).toNat < 128) (h0 : 0 < i) : prevP s i = ((Lib.decodeLastL (s.take i)).1 : Nat) := by
  obtain ⟨rs, hr, rfl⟩ := ht
  have := text_take rs hr i hi hb
  unfold prevP
  rw [if_neg (by omega), Int.toNat_natCast, prev_last h0 (by omega) (plain_of_text this)]
theorem scal_rng {c : Nat} (h : scal c) : Rng .i32 (c : Int) := by
  have : c ≤ 1114111 := by rcases h with h | h <;> omega
  exact ⟨by show (-2147483648 : Int) ≤ _; omega, by show _ ≤ (2147483647 : Int); omega⟩
theorem prevP_rng (s : Bs) (i : Int) : Rng .i32 (prevP s i) := by
  unfold prevP
  split
  · exact ⟨by decide, by decide⟩
  · rename_i h
    have hne : s.take i.toNat ≠ [] := by
      intro e
      have := congrArg List.length e
      rw [List.length_take, List.length_nil] at this
      omega
    have hne2 := runes_ne hne
    have hm := List.getLast_mem hne2
    rw [List.getLastD_eq_getLast?, List.getLast?_eq_some_getLast hne2]
    exact scal_rng (runes_scal _ _ (Nat.le_refl _) _ hm)
theorem nextP_rng (s : Bs) (i : Int) : Rng .i32 (nextP s i) := by
  unfold nextP
  split
  · exact ⟨by decide, by decide⟩
  · rename_i h
    cases hd : s.drop i.toNat with
    | nil =>
      exfalso
      have := congrArg List.length hd
      rw [List.length_drop, List.length_nil] at this
      omega
    | cons x t => exact scal_rng (dec_scal x t)
section
variable {h : H} {K : Value → H → Prop} {s : Bs}
theorem run_st3 {a : Addr} {r : RunP} {v : Bool} {K : H → Prop} (vr : Var h a 25 (runCells r)) (hk : ∀ h', Var h' a 25 (runCells (r.1, r.2.1, r.2.2.1, v, r.2.2.2.2)) → KX a.block h h' → h'.size = h.size → K h') : stL (a.add 3) [.bool v] 0 h K :=
  stL_var vr (show 3 + 0 + 1 ≤ 5 by decide) fun h' v' k' z' => hk h' v' k' z'
theorem run_st4 {a : Addr} {r : RunP} {v : Bool} {K : H → Prop} (vr : Var h a 25 (runCells r)) (hk : ∀ h', Var h' a 25 (runCells (r.1, r.2.1, r.2.2.1, r.2.2.2.1, v)) → KX a.block h h' → h'.size = h.size → K h') : stL (a.add 4) [.bool v] 0 h K :=
  stL_var vr (show 4 + 0 + 1 ≤ 5 by decide) fun h' v' k' z' => hk h' v' k' z'
theorem free_calls {to fr : Int} {K : Value → H → Prop} (h1 : Rng .i32 to) (h2 : Rng .i32 fr) (hk : ∀ h', KB h h' → K (.bool (freeP to fr)) h') : CallV Tryd.prog 4 (.func (.func 17) ⟨[]⟩ ⟨[]⟩) ⟨[.int .i32 to, .int .i32 fr]⟩ h K := by
  refine callV_ok Tryd.func17 (by kernel_rfl) ?_
  have hk : ∀ b h', freeP to fr = b → KB h h' → Sh.dec Tryd.prog 4 (.bool b) fun v => K v h' := fun b h' e k => decBool (by kernel_rfl) (by rw [← e]; exact hk h' k)
  refine Sx.stars_Read_1.ok _ _ _ _ (blank_calls (vBool_mk (condB (fun e1 => hk _ h ?_ (KB.refl h)) fun e1 => punct_calls h1 fun h3 k3 => vBool_mk (condB (fun e2 => blank_calls (vBool_mk (condB (fun e3 => hk _ h3 ?_ k3) fun e3 => punct_calls h2 fun h4 k4 => vBool_mk (condB (fun e4 => hk _ h4 ?_ (k3.trans k4)) fun e4 => hk _ h4 ?_ (k3.trans k4))))) fun e2 => hk _ h3 ?_ k3))))
  all_goals unfold freeP
  · rw [e1]; rfl
  · rw [e1, e2, e3]; rfl
  · rw [e1, e2, e3, e4]; rfl
  · rw [e1, e2, e3, e4]; rfl
  · rw [e1, e2]; rfl
end
end Go.Proofs
