/- cols: the law of lines without tabs. No condition. -/
import Derived.Test.YtejijfnagkeljaaDoorClC
namespace Go.Proofs
open Go Go.Sh
set_option linter.unusedVariables false
set_option maxRecDepth 100000

def noTab (s : Bs) : Bs := s.filter fun b => !decide ((b.toNat : Int) = 9)
theorem noTab_len (s : Bs) : (noTab s).length ≤ s.length := List.length_filter_le _ _
theorem noTab_mem {s : Bs} : ∀ x ∈ noTab s, (x.toNat : Int) ≠ 9 := fun x hx => by
  have := (List.mem_filter.1 hx).2
  intro e
  rw [decide_eq_true e] at this
  cases this
theorem noTab_snoc (s : Bs) (b : UInt8) : noTab (s ++ [b]) = if (b.toNat : Int) = 9 then noTab s else noTab s ++ [b] := by
  unfold noTab
  rw [List.filter_append]
  split
  · rename_i e; simp [e]
  · rename_i e; simp [e]
theorem take_snoc {s : Bs} {i : Nat} (h : i < s.length) : s.take (i + 1) = s.take i ++ [s[i]] := by
  rw [List.take_add_one, List.getElem?_eq_getElem h]; rfl
theorem sub_one {s : Bs} {i : Nat} (h : i < s.length) : sub s (i : Int) ((i : Int) + 1) = [s[i]] := by
  have := sub_nat s i (i + 1)
  rw [take_snoc h, List.drop_append_of_le_length (by simp; omega), List.drop_of_length_le (by simp; omega)] at this
  exact this

section
variable {h : H} {s : Bs} {K : Value → H → Prop}
theorem lawPlain_calls {col n : Int} (hk : ∀ h', KB h h' → K (.bool true) h') : HCalls Tryd.prog 5 ⟨[S s, .int .i64 col, .int .i64 n]⟩ h K := by
  refine Sx.l21_ColsPlain.ok _ _ _ _ _ (far_calls (vBool_mk (condT (known_calls fun h1 k1 => vBool_mk (condT (hk h1 k1))))) fun hs hc hn => vBool_mk (condF (known_calls fun h1 k1 => vBool_mk (condT ⟨s.length + 1, ?_⟩))))
  have hm : 0 ≤ mx0 col ∧ mx0 col ≤ 1099511627776 := by unfold mx0; split <;> omega
  have hm2 : 0 ≤ mx0 n := by unfold mx0; split <;> omega
  have hgx : mx0 col = if (0 : Int) > col then (0 : Int) else col := rfl
  -- the blanks at the front
  have snd : ∀ p : Bs, p.length ≤ 3000 → (∀ x ∈ p, (x.toNat : Int) ≠ 9) → Sx.l21_ColsPlain.n5 col n p (fun y6 h => K (.bool y6) h) (fun y6 h => K (.bool y6) h) h1 := by
    intro p hp ht
    have fin : ∀ i, i ≤ p.length → (i : Int) ≤ mx0 n → (∀ j (hj : j < p.length), j < i → (p[j].toNat : Int) = 32) → ((i : Int) = mx0 n ∨ i = p.length ∨ ∃ hk : i < p.length, (p[i].toNat : Int) ≠ 32) →
        Sx.l21_ColsPlain.n7 col n p (i : Int) (fun y6 h => K (.bool y6) h) (fun y6 h => K (.bool y6) h) h1 := by
      intro i hi hin hall hor
      have e : cutP p col n = (p.drop i, mx0 col + i) := by
        unfold cutP
        rw [cut_plain p (mx0 col) i ht hm.1 hi hall (mx0 col + mx0 n) (by omega) (by rcases hor with h | h | h; exact .inl (by omega); exact .inr (.inl h); exact .inr (.inr h))]
        unfold padP
        rw [if_pos (by simp only; omega)]
      refine cut_calls (by omega) (by omega) (by omega) fun h2 k2 => ?_
      rw [e]
      refine tupSI ⟨⟨by omega, by omega, by omega⟩, splT ?_ ⟨rng64 (by omega) (by omega), splT rfl (hk h2 (k1.trans k2))⟩⟩
      rw [sub_full p i hi]
    refine ⟨p.length + 1, ?_⟩
    have key : ∀ k i, i + k = p.length → (i : Int) ≤ mx0 n → (∀ j (hj : j < p.length), j < i → (p[j].toNat : Int) = 32) →
        Sx.l21_ColsPlain.n9_L (fun z1 z2 z7 z9 h => Sx.l21_ColsPlain.n7 z1 z2 z7 z9 (fun y6 h => K (.bool y6) h) (fun y6 h => K (.bool y6) h) h) (fun z1 z2 z7 z9 h => Sx.l21_ColsPlain.n7 z1 z2 z7 z9 (fun y6 h => K (.bool y6) h) (fun y6 h => K (.bool y6) h) h) (fun y6 h => K (.bool y6) h) (k + 1) col n p (i : Int) h1 := by
      intro k
      induction k with
      | zero => exact fun i hi hin hall => splF (by omega) (fin i (by omega) hin hall (.inr (.inl (by omega))))
      | succ k ih =>
        intro i hi hin hall
        have hil : i < p.length := by omega
        refine splT (by omega) (spl (fun e1 => ⟨⟨by omega, by omega⟩, ?_⟩) fun e1 => fin i (by omega) hin hall (.inl ?_))
        · rw [getDN hil]
          have hnn : mx0 n = n := by unfold mx0; rw [if_neg (by omega)]
          refine spl (fun e2 => ⟨rng64 (by omega) (by omega), ih (i + 1) (by omega) (by omega) fun j hj hji => ?_⟩) fun e2 => fin i (by omega) hin hall (.inr (.inr ⟨hil, e2⟩))
          by_cases hji2 : j < i
          · exact hall j hj hji2
          · have : j = i := by omega
            subst this; exact e2
        · have : n ≤ (i : Int) := by omega
          revert hin; unfold mx0; split <;> omega
    exact key p.length 0 (by omega) (by omega) fun j _ hj => absurd hj (Nat.not_lt_zero _)
  have key : ∀ k i, i + k = s.length → Sx.l21_ColsPlain.n12_L (fun z1 z2 z7 h => Sx.l21_ColsPlain.n5 z1 z2 z7 (fun y6 h => K (.bool y6) h) (fun y6 h => K (.bool y6) h) h) (fun z1 z2 z7 h => Sx.l21_ColsPlain.n5 z1 z2 z7 (fun y6 h => K (.bool y6) h) (fun y6 h => K (.bool y6) h) h) (fun y6 h => K (.bool y6) h) (k + 1) s col n (noTab (s.take i)) (i : Int) h1 := by
    intro k
    induction k with
    | zero =>
      intro i hi
      have hl := noTab_len (s.take i)
      exact splF (by omega) (snd _ (by simp at hl; omega) noTab_mem)
    | succ k ih =>
      intro i hi
      have hil : i < s.length := by omega
      have hl := noTab_len (s.take i)
      have ih' := ih (i + 1) (by omega)
      rw [take_snoc hil, noTab_snoc] at ih'
      refine splT (by omega) ⟨⟨by omega, by omega⟩, ?_⟩
      rw [getDN hil]
      refine spl (fun e => ⟨rng64 (by omega) (by omega), ?_⟩) fun e => ⟨rng64 (by omega) (by omega), ⟨by omega, by omega, by omega⟩, ?_⟩
      · rw [if_pos e] at ih'; exact ih'
      · rw [if_neg e] at ih'
        rw [sub_one hil]
        exact ⟨by simp at hl ⊢; omega, rng64 (by omega) (by omega), ih'⟩
  exact key s.length 0 (by omega)
end
end Go.Proofs
