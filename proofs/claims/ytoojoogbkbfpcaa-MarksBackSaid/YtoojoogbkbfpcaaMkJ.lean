/- marks: Push. No condition. -/
import Derived.Test.YtoojoogbkbfpcaaMkI
namespace Go.Proofs
open Go Go.Sh
set_option linter.unusedVariables false
set_option maxRecDepth 100000

theorem MarkR.bel {A : Nat → Prop} {h : H} {m : MarkP} {b : Option Addr} {n c : Nat} (r : MarkR A h m b n c) : MarkR (Bel h.size) h m b n c := elMark.keep _ _ _ _ _ _ r (Keep.refl _ _) fun _ _ h => h

theorem apdInt : Apd Try.prog (elInt .i64) 40 3 8 := apd_of (sz := 1) (by kernel_rfl) rfl
theorem flatInt : Flat (elInt .i64) := fun _ _ _ _ _ _ h => h

/-- the places from one up to another one at which marks are alike -/
def sames (l : List MarkP) (m : MarkP) (s k : Nat) : List Nat := (List.range' s k).filter fun j => alikeP m (l.getD j (0, [], []))
theorem sames_succ (l : List MarkP) (m : MarkP) (s k : Nat) : sames l m s (k + 1) = if alikeP m (l.getD (s + k) (0, [], [])) then sames l m s k ++ [s + k] else sames l m s k := by
  unfold sames
  rw [List.range'_concat, List.filter_append, Nat.one_mul]
  rw [List.filter_cons]
  split
  · rfl
  · rw [List.filter_nil, List.append_nil]
theorem sames_lt {l : List MarkP} {m : MarkP} {s k : Nat} : ∀ j ∈ sames l m s k, s ≤ j ∧ j < s + k := by
  intro j hj
  have := (List.mem_filter.1 hj).1
  rw [List.mem_range'] at this
  obtain ⟨i, hi, e⟩ := this
  omega
def pushS (l : List MarkP) (m : MarkP) : List Nat := if m.1 < 0 then [] else sames l m (behind l) (l.length - behind l)
def pushP (l : List MarkP) (m : MarkP) : List MarkP := if (pushS l m).length < 3 then l ++ [m] else l.eraseIdx ((pushS l m).headD 0) ++ [m]

theorem erase_cut (l : List MarkP) (m : MarkP) {i : Nat} (hi : i < l.length) : (l ++ [m]).take i ++ (l ++ [m]).drop (i + 1) = l.eraseIdx i ++ [m] := by
  rw [List.eraseIdx_eq_take_drop_succ, List.take_append_of_le_length (by omega), List.drop_append_of_le_length (by omega), List.append_assoc]

section
variable {A B : Nat → Prop} {h : H} {b b2 : Option Addr} {n c n2 c2 : Nat} {l : List MarkP} {m : MarkP}

theorem push_calls (r : Row elMark A h b n c l) (hz : b = none → c = 0) (hR : MarkR B h m b2 n2 c2) (hn : n ≤ 100000000) {K : Value → H → Prop}
    (hk : ∀ b' n' c' h', OwnF elMark h' h.size 25 b' n' c' (pushP l m) → KB h h' → K (.slice b' n' c') h') :
    HCalls Try.prog 9 ⟨[.slice b n c, .agg ⟨[.int .i64 m.1, S m.2.1, .slice b2 n2 c2]⟩]⟩ h K := by
  refine Sx.marks_Push.ok _ _ _ _ _ _ _ _ _ _ (newx_var fun x3 h1 v1 k1 e1 _ => ?_)
  have hl := r.len
  have hcm := r.cap
  refine ⟨⟨by omega, by omega, by omega, by omega⟩, _, v1.cell 0 rfl, _, v1.cell 1 rfl, _, _, _, v1.cell 2 rfl, newx_var fun a2 h2 v2 k2 e2 _ => ?_⟩
  have k02 := k1.trans k2
  have hR2 : MarkR (Bel h2.size) h2 m b2 n2 c2 := (hR.kb k02).bel
  have rs := (r.kb k02).sub3 (lo := 0) (hi := n) (m := n) (Nat.zero_le _) (Nat.le_refl _) (Nat.le_refl _) hcm (z := 3) rfl
  rw [List.drop_zero, List.take_of_length_le (by omega)] at rs
  have hit : Int.toNat (n : Int) = n := by omega
  have hi0 : Int.toNat (0 : Int) = 0 := rfl
  simp only [hit, hi0]
  refine Row.appendF apdMark rs (.inr (by omega)) (v2.row1 hR2 v2.lt) (fun e => ?_) (by simp only [maxLen]; omega) (by omega) (fun e => by omega) fun c3 h3 _ o3 k3 => ?_
  · by_cases hn0 : n = 0
    · omega
    · rw [if_neg hn0] at e
      cases hb : b with
      | none => have := hz hb; omega
      | some a => rw [hb] at e; cases e
  have v3 := (v1.kb k2).kb k3
  have k03 := k02.trans k3
  have k02s := k02.1
  -- nothing goes
  have plain : ∀ h4, KB h3 h4 → (pushS l m).length < 3 → K (.slice (some (Ad h2.size)) (n - 0 + 1) c3) h4 := fun h4 k4 hlen => by
    refine hk _ _ c3 h4 ?_ ((k03).trans k4)
    unfold pushP; rw [if_pos hlen]; exact (o3.lower k02s).kb k4
  refine ⟨_, v3.cell 0 rfl, spl (fun hneg => plain h3 (KB.refl _) (by unfold pushS; rw [if_pos hneg]; decide)) fun hneg => ?_⟩
  have hS : pushS l m = sames l m (behind l) (l.length - behind l) := by unfold pushS; rw [if_neg hneg]
  refine fresh_calls (A := Bel h3.size) (fun _ h => h) ((r.kb k03).bel) fun h4 k4 => ?_
  have hble := behind_le l
  refine ⟨(n - behind l) + 1, ?_⟩
  have o4 := o3.kb k4
  have k34 := k4.1
  have k03s := k03.1
  have key : ∀ k i h5 b6 c6, behind l + i + k = n → KB h4 h5 → OwnF (elInt .i64) h5 h4.size 3 b6 (sames l m (behind l) i).length c6 ((sames l m (behind l) i).map fun (j : Nat) => (j : Int)) →
      Sx.marks_Push.n9_L (fun z5b z5n z5c z6b z6n z6c h => Sx.marks_Push.n6 z5b z5n z5c z6b z6n z6c (fun y4b y4n y4c h => K (.slice y4b y4n y4c) h) (fun y4b y4n y4c h => K (.slice y4b y4n y4c) h) h)
        (fun z5b z5n z5c z6b z6n z6c h => Sx.marks_Push.n6 z5b z5n z5c z6b z6n z6c (fun y4b y4n y4c h => K (.slice y4b y4n y4c) h) (fun y4b y4n y4c h => K (.slice y4b y4n y4c) h) h)
        (fun y4b y4n y4c h => K (.slice y4b y4n y4c) h) (k + 1) b n c x3 (some (Ad h2.size)) (n - 0 + 1) c3 b6 (sames l m (behind l) i).length c6 ((behind l + i : Nat) : Int) h5 := by
    intro k
    induction k with
    | zero =>
      intro i h5 b6 c6 hi k5 o6
      refine splF (by omega) ?_
      have hS5 : sames l m (behind l) i = pushS l m := by rw [hS]; congr 1; omega
      rw [hS5] at o6 ⊢
      refine spl (fun h3' => plain h5 (k4.trans k5) (by omega)) fun h3' => ?_
      have hlen : ¬ (pushS l m).length < 3 := by omega
      obtain ⟨s0, rest, hs0⟩ : ∃ s0 rest, pushS l m = s0 :: rest := by
        cases hp : pushS l m with
        | nil => rw [hp] at hlen; simp at hlen
        | cons a t => exact ⟨a, t, rfl⟩
      have hs0lt : s0 < l.length := by
        have := sames_lt s0 (by rw [← hS, hs0]; simp)
        omega
      have r6 := o6.row
      have hlen0 : 0 < ((pushS l m).map fun (j : Nat) => (j : Int)).length := by simp; omega
      have hget : ((pushS l m).map fun (j : Nat) => (j : Int))[0] = (s0 : Int) := by simp [hs0]
      have o5 := o4.kb k5
      have hc5 := o5.cap
      have r5 := o5.row
      refine r6.idxN (i := 0) hlen0 rfl fun a hA => ?_
      rw [hget] at hA
      refine ldI hA fun hr => ⟨⟨by omega, by omega, by omega⟩, r6.idxN (i := 0) hlen0 rfl fun a hA => ?_⟩
      rw [hget] at hA
      refine ldI hA fun hr => ⟨rng64 (by omega) (by omega), ⟨by omega, by omega, by omega⟩, ?_⟩
      have t1 : Int.toNat (s0 : Int) = s0 := by omega
      have t2 : Int.toNat ((s0 : Int) + 1) = s0 + 1 := by omega
      have t3 : Int.toNat ((n - 0 + 1 : Nat) : Int) = n - 0 + 1 := by omega
      simp only [t1, t2, t3, hi0]
      have rc := r5.sub (lo := 0) (hi := s0) (Nat.zero_le _) (by omega) (z := 3) rfl
      rw [List.drop_zero] at rc
      refine cloneMark_calls rc (fun e => ?_) (by omega) fun b7 c7 h7 o7 k7 => ⟨k7.ext, ?_⟩
      · by_cases hc0 : c3 = 0
        · omega
        · rw [if_neg hc0] at e; cases e
      have rd := (r5.sub (lo := s0 + 1) (hi := n - 0 + 1) (by omega) (Nat.le_refl _) (z := 3) rfl).kb k7
      rw [List.take_of_length_le (by simp; omega)] at rd
      have k7s := k7.1
      have k5s := k5.1
      refine OwnF.append apdMark o7 (rd.keep (Keep.refl _ _) fun x hx hxs => ⟨hxs, fun a e => by have := o7.lo a e; have hx : x < h5.size := hx; omega⟩) (by simp only [maxLen]; omega) (by omega) k7s fun b8 c8 h8 o8 g8 => ?_
      have hlist : pushP l m = (l ++ [m]).take s0 ++ (l ++ [m]).drop (s0 + 1) := by
        unfold pushP
        rw [if_neg hlen, hs0, List.headD_cons, erase_cut l m hs0lt]
      refine hk b8 _ c8 h8 ?_ ?_
      · rw [hlist]; exact o8.lower (by omega)
      · exact Grow.kb0 (((k03).trans (k4.trans k5)).trans k7) g8 fun a e => by have := o7.lo a e; omega
    | succ k ih =>
      intro i h5 b6 c6 hi k5 o6
      have hil : behind l + i < l.length := by omega
      have k35 := k4.trans k5
      have v5 := v3.kb k35
      have k05 : KB h h5 := (k03).trans k35
      have hsl : (sames l m (behind l) i).length ≤ i := by
        unfold sames
        exact Nat.le_trans (List.length_filter_le _ _) (by rw [List.length_range']; exact Nat.le_refl _)
      refine splT (by omega) ⟨_, v5.cell 0 rfl, _, v5.cell 1 rfl, _, _, _, v5.cell 2 rfl, (r.kb k05).idxN hil rfl fun a hA => ldMark hA fun b' n' c' hRi => alike_calls (hR.kb k05) hRi fun h6 k6 => ?_⟩
      have hsuc := sames_succ l m (behind l) i
      rw [getD_get hil] at hsuc
      refine condB (fun ha => newx_var fun a7 h7 v7 k7 e7 _ => ?_) fun ha => ?_
      · rw [if_pos ha] at hsuc
        have o7 := (o6.kb k6).kb k7
        have k57 := k6.trans k7
        have k57s := k57.1
        have k5s := k5.1
        refine OwnF.append apdInt o7 (v7.row1 ⟨rfl, rng64 (by omega) (by omega)⟩ ⟨v7.lt, fun x hx => by have := o6.hi x hx; have := k6.1; omega⟩) (by simp only [maxLen]; omega) (by omega) (by omega) fun b8 c8 h8 o8 g8 => ⟨rng64 (by omega) (by omega), ?_⟩
        have := ih (i + 1) h8 b8 c8 (by omega) (Grow.kb0 (k5.trans k57) g8 o6.lo) (by rw [hsuc]; simpa using o8)
        rw [hsuc, List.length_append, List.length_singleton] at this
        exact this
      · rw [if_neg (by rw [ha]; simp)] at hsuc
        refine ⟨rng64 (by omega) (by omega), ?_⟩
        have := ih (i + 1) h6 b6 c6 (by omega) (k5.trans k6) (by rw [hsuc]; exact o6.kb k6)
        rw [hsuc] at this
        exact this
  exact key (n - behind l) 0 h4 none 0 (by omega) (KB.refl _) (OwnF.none _ _ _)
end
end Go.Proofs
