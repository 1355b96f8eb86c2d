/- class: the chapter's folding; the laws. No condition but that the library's tables hold what they hold. -/
import Derived.Test.YtnnknbecgpdcgaaDoorCsB
namespace Go.Proofs
open Go Go.Sh
set_option linter.unusedVariables false
set_option maxRecDepth 100000

theorem foldN_of {r : Nat} {v : Int} (h1 : r ≠ 223) (h2 : r ≠ 7838) (e : Tryd.turnedI (r : Int) = v) : (foldN r).map (fun (r : Nat) => (r : Int)) = [v] := by
  unfold foldN
  rw [if_neg (by omega)]
  simp only [List.map_cons, List.map_nil]
  rw [turn_nat, e]
theorem runesGo_len : ∀ k l, (runesGo k l).length ≤ k
  | 0, _ => Nat.le_refl _
  | k + 1, [] => Nat.zero_le _
  | k + 1, x :: t => by
    have := runesGo_len k ((x :: t).drop (dec (x :: t)).2)
    simp only [runesGo, List.length_cons]; omega
theorem runes_len (s : Bs) : (runesP s).length ≤ s.length := runesGo_len _ _
theorem rangeSpl {p q : Prop} {X Y : Prop} (x : p ∧ q → X) (y : ¬ (p ∧ q) → Y) : Spl p (Spl q X Y) Y := spl (fun a => spl (fun b => x ⟨a, b⟩) fun b => y fun h => b h.2) fun a => y fun h => a h.1
theorem encs_runes : ∀ (l : List Nat), (∀ r ∈ l, scal r) → (l.map fun (r : Nat) => (r : Int)).flatMap (fun z => encN (runeOf z)) = encs l
  | [], _ => rfl
  | r :: l, h => by
    rw [List.map_cons, List.flatMap_cons, runeOf_nat (h r (by simp)), encs_runes l fun x hx => h x (by simp [hx]), encs_cons]

section
variable {A : Nat → Prop} {h : H} {s : Bs} {K : Value → H → Prop}

theorem rFold1_calls {r : Nat} (hr : scal r) (hk : ∀ a n h', Row (elInt .i32) (fun k => k = a.block) h' (some a) n n ((foldN r).map fun (r : Nat) => (r : Int)) → h.size ≤ a.block → a.block < h'.size → KB h h' → K (.slice (some a) n n) h') : HCalls Tryd.prog 37 ⟨[.int .i32 (r : Int)]⟩ h K := by
  have hr2 : (r : Int) ≤ 1114111 := by unfold scal at hr; omega
  have one : ∀ v : Int, (foldN r).map (fun (r : Nat) => (r : Int)) = [v] → -2147483648 ≤ v → v ≤ 2147483647 → newx h #[(.int .i32 v)] 21 fun a h' => K (.slice (some a) 1 1) h' := fun v e h1 h2 =>
    newx_var (cs := [.int .i32 v]) fun a h' v' k' ea es => hk a 1 h' (by rw [e]; exact rowI [v] rfl (by decide) (by simp; omega) v') (by omega) v'.lt k'
  have hrng : ∀ x : Int, -2147483648 ≤ x → x ≤ 2147483647 → Rng .i32 x := fun x h1 h2 => ⟨h1, h2⟩
  refine Sx.r02_fold.ok _ _ _ ?_
  have t223 : r = 223 ∨ r = 7838 → newx h #[(.int .i32 (115 : Int)), (.int .i32 (115 : Int))] 21 fun a h' => K (.slice (some a) 2 2) h' := fun e =>
    newx_var (cs := [.int .i32 115, .int .i32 115]) fun a h' v' k' ea es => hk a 2 h' (by unfold foldN; rw [if_pos e]; exact rowI [115, 115] rfl (by decide) (by decide) v') (by omega) v'.lt k'
  refine spl (fun e => condT (t223 (by omega))) fun e1 => spl (fun e => condT (t223 (by omega))) fun e2 => condF ?_
  have n1 : r ≠ 223 := by omega
  have n2 : r ≠ 7838 := by omega
  have low : (¬ ((65 ≤ r ∧ r ≤ 90) ∨ (192 ≤ r ∧ r ≤ 222 ∧ r ≠ 215) ∨ (913 ≤ r ∧ r ≤ 937 ∧ r ≠ 930) ∨ (1040 ≤ r ∧ r ≤ 1071))) →
      Sx.r02_fold.n9 (r : Int) false (fun z0 h => Sx.r02_fold.n3 z0 (fun y2b y2n y2c h => K (.slice y2b y2n y2c) h) (fun y2b y2n y2c h => K (.slice y2b y2n y2c) h) h) (fun z0 h => Sx.r02_fold.n3 z0 (fun y2b y2n y2c h => K (.slice y2b y2n y2c) h) (fun y2b y2n y2c h => K (.slice y2b y2n y2c) h) h) (fun y2b y2n y2c h => K (.slice y2b y2n y2c) h) h := by
    intro hl
    refine condF (rangeSpl (fun c => condT ⟨hrng _ (by omega) (by omega), one _ (foldN_of n1 n2 ?_) (by omega) (by omega)⟩) fun c1 => condF (spl (fun c => condT (one _ (foldN_of n1 n2 ?_) (by omega) (by omega))) fun c2 => condF ?_))
    · unfold Tryd.turnedI; rw [if_neg (by omega), if_pos (by omega)]
    · unfold Tryd.turnedI; rw [if_neg (by omega), if_neg (by omega), if_pos (by omega)]
    · have mid : (((256 : Int) ≤ r ∧ (r : Int) ≤ 311) ∨ (330 ≤ (r : Int) ∧ (r : Int) ≤ 375) ∨ (7680 ≤ (r : Int) ∧ (r : Int) ≤ 7829)) → Sx.r02_fold.n18 (r : Int) true (fun z0 h => Sx.r02_fold.n3 z0 (fun y2b y2n y2c h => K (.slice y2b y2n y2c) h) (fun y2b y2n y2c h => K (.slice y2b y2n y2c) h) h) (fun z0 h => Sx.r02_fold.n3 z0 (fun y2b y2n y2c h => K (.slice y2b y2n y2c) h) (fun y2b y2n y2c h => K (.slice y2b y2n y2c) h) h) (fun y2b y2n y2c h => K (.slice y2b y2n y2c) h) h := by
        intro hm
        have ht : Int.tmod (r : Int) 2 = (r : Int) % 2 := Int.tmod_eq_emod_of_nonneg (by omega)
        refine condT ⟨by decide, spl (fun c => ⟨hrng _ (by omega) (by omega), one _ (foldN_of n1 n2 ?_) (by omega) (by omega)⟩) fun c => one _ (foldN_of n1 n2 ?_) (by omega) (by omega)⟩
        · unfold Tryd.turnedI; rw [if_neg (by omega), if_neg (by omega), if_neg (by omega), if_pos (by omega)]; omega
        · unfold Tryd.turnedI; rw [if_neg (by omega), if_neg (by omega), if_neg (by omega), if_pos (by omega)]; omega
      have last : ¬ (((256 : Int) ≤ r ∧ (r : Int) ≤ 311) ∨ (330 ≤ (r : Int) ∧ (r : Int) ≤ 375) ∨ (7680 ≤ (r : Int) ∧ (r : Int) ≤ 7829)) → Sx.r02_fold.n18 (r : Int) false (fun z0 h => Sx.r02_fold.n3 z0 (fun y2b y2n y2c h => K (.slice y2b y2n y2c) h) (fun y2b y2n y2c h => K (.slice y2b y2n y2c) h) h) (fun z0 h => Sx.r02_fold.n3 z0 (fun y2b y2n y2c h => K (.slice y2b y2n y2c) h) (fun y2b y2n y2c h => K (.slice y2b y2n y2c) h) h) (fun y2b y2n y2c h => K (.slice y2b y2n y2c) h) h := by
        intro hm
        have ht : Int.tmod (r : Int) 2 = (r : Int) % 2 := Int.tmod_eq_emod_of_nonneg (by omega)
        have yes : ((313 : Int) ≤ r ∧ (r : Int) ≤ 328) ∨ (377 ≤ (r : Int) ∧ (r : Int) ≤ 382) → Sx.r02_fold.n21 (r : Int) true (fun z0 h => Sx.r02_fold.n3 z0 (fun y2b y2n y2c h => K (.slice y2b y2n y2c) h) (fun y2b y2n y2c h => K (.slice y2b y2n y2c) h) h) (fun z0 h => Sx.r02_fold.n3 z0 (fun y2b y2n y2c h => K (.slice y2b y2n y2c) h) (fun y2b y2n y2c h => K (.slice y2b y2n y2c) h) h) (fun y2b y2n y2c h => K (.slice y2b y2n y2c) h) h := fun hy =>
          condT ⟨by decide, spl (fun c => ⟨hrng _ (by omega) (by omega), one _ (foldN_of n1 n2 (by unfold Tryd.turnedI; rw [if_neg (by omega), if_neg (by omega), if_neg (by omega), if_neg (by omega), if_pos (by omega)]; omega)) (by omega) (by omega)⟩) fun c => one _ (foldN_of n1 n2 (by unfold Tryd.turnedI; rw [if_neg (by omega), if_neg (by omega), if_neg (by omega), if_neg (by omega), if_pos (by omega)]; omega)) (by omega) (by omega)⟩
        have no : ¬ (((313 : Int) ≤ r ∧ (r : Int) ≤ 328) ∨ (377 ≤ (r : Int) ∧ (r : Int) ≤ 382)) → Sx.r02_fold.n21 (r : Int) false (fun z0 h => Sx.r02_fold.n3 z0 (fun y2b y2n y2c h => K (.slice y2b y2n y2c) h) (fun y2b y2n y2c h => K (.slice y2b y2n y2c) h) h) (fun z0 h => Sx.r02_fold.n3 z0 (fun y2b y2n y2c h => K (.slice y2b y2n y2c) h) (fun y2b y2n y2c h => K (.slice y2b y2n y2c) h) h) (fun y2b y2n y2c h => K (.slice y2b y2n y2c) h) h := fun hn =>
          condF (one _ (foldN_of n1 n2 (by unfold Tryd.turnedI; rw [if_neg (by omega), if_neg (by omega), if_neg (by omega), if_neg (by omega), if_neg (by omega)])) (by omega) (by omega))
        refine condF ?_
        repeat' (with_reducible refine spl (fun _ => ?_) fun _ => ?_)
        all_goals first | exact yes (by omega) | exact no (by omega)
      repeat' (with_reducible refine spl (fun _ => ?_) fun _ => ?_)
      all_goals first | exact mid (by omega) | exact last (by omega)
  have up : ((65 ≤ r ∧ r ≤ 90) ∨ (192 ≤ r ∧ r ≤ 222 ∧ r ≠ 215) ∨ (913 ≤ r ∧ r ≤ 937 ∧ r ≠ 930) ∨ (1040 ≤ r ∧ r ≤ 1071)) →
      Sx.r02_fold.n9 (r : Int) true (fun z0 h => Sx.r02_fold.n3 z0 (fun y2b y2n y2c h => K (.slice y2b y2n y2c) h) (fun y2b y2n y2c h => K (.slice y2b y2n y2c) h) h) (fun z0 h => Sx.r02_fold.n3 z0 (fun y2b y2n y2c h => K (.slice y2b y2n y2c) h) (fun y2b y2n y2c h => K (.slice y2b y2n y2c) h) h) (fun y2b y2n y2c h => K (.slice y2b y2n y2c) h) h := fun hu =>
    condT ⟨hrng _ (by omega) (by omega), one _ (foldN_of n1 n2 (by unfold Tryd.turnedI; rw [if_pos (by omega)])) (by omega) (by omega)⟩
  repeat' (with_reducible refine spl (fun _ => ?_) fun _ => ?_)
  all_goals first | exact up (by omega) | exact low (by omega)
theorem rFold_calls (hs : s.length ≤ 1000000) (hk : ∀ h', KB h h' → K (S (foldP s)) h') : HCalls Tryd.prog 15 ⟨[S s]⟩ h K := by
  have hsc := runes_scal _ s (Nat.le_refl _)
  refine Sx.r02_Fold.ok _ _ _ (runesOf_k Tryd.underlying9 Tryd.underlying37 Tryd.underlying21 (by omega) fun b4 c4 h1 r4 _ k1 => vSliceMk ⟨(runesP s).length + 1, ?_⟩)
  have hcap := r4.cap
  have hmx := r4.max
  simp only [maxLen] at hmx
  have hlen := runes_len s
  unfold foldP at hk
  generalize runesP s = rs at *
  have key : ∀ k i h2 b3 n3 c3, i + k = rs.length → KB h1 h2 → OwnF (elInt .i32) h2 h1.size 21 b3 n3 c3 (((rs.take i).flatMap foldN).map fun (r : Nat) => (r : Int)) → n3 ≤ 2 * i →
      Sx.r02_Fold.n8_L (fun z3b z3n z3c h => Sx.r02_Fold.n5 z3b z3n z3c (fun y2 h => K (S y2) h) (fun y2 h => K (S y2) h) h) (fun z3b z3n z3c h => Sx.r02_Fold.n5 z3b z3n z3c (fun y2 h => K (S y2) h) (fun y2 h => K (S y2) h) h) (fun y2 h => K (S y2) h) (k + 1) b3 n3 c3 (some b4) rs.length c4 (i : Int) h2 := by
    intro k
    induction k with
    | zero =>
      intro i h2 b3 n3 c3 hi k2 o3 hn
      have : i = rs.length := by omega
      subst this
      rw [List.take_length] at o3
      refine splF (by omega) (strOfRunes_k Tryd.underlying37 Tryd.underlying21 Tryd.underlying9 o3.row (vStrMk ?_))
      rw [encs_runes _ fun x hx => by obtain ⟨r, h1, h2⟩ := List.mem_flatMap.1 hx; unfold foldN at h2; split at h2 <;> simp at h2 <;> subst h2; unfold scal; omega; exact (turn_ok (hsc r h1)).1]
      exact hk h2 (k1.trans k2)
    | succ k ih =>
      intro i h2 b3 n3 c3 hi k2 o3 hn
      have hil : i < rs.length := by omega
      refine splT (by omega) ((r4.kb k2).idxN (i := i) (by simpa using hil) rfl fun a hA => ldI hA fun _ => ?_)
      rw [List.getElem_map]
      refine rFold1_calls (hsc _ (List.getElem_mem hil)) fun a5 n5 h3 r5 ha1 ha2 k3 => vSliceMk ?_
      have hl5 := r5.len
      have hf2 : (foldN rs[i]).length ≤ 2 := by unfold foldN; split <;> simp
      rw [List.length_map] at hl5
      have k2s := k2.1
      have k3s := k3.1
      refine OwnF.append apdI (o3.kb k3) (r5.less fun k hk _ => by subst hk; exact ⟨ha2, fun x hx => by have := o3.hi x hx; omega⟩) (by simp only [maxLen]; omega) (by omega) (by omega) fun b6 c6 h4 o6 g6 => vSliceMk ⟨rng64 (by omega) (by omega), ih (i + 1) h4 b6 _ c6 (by omega) (Grow.kb0 (k2.trans k3) g6 o3.lo) ?_ (by omega)⟩
      rw [List.take_add_one, List.getElem?_eq_getElem hil, Option.toList_some, List.flatMap_append, List.map_append, List.flatMap_cons, List.flatMap_nil, List.append_nil]
      exact o6
  exact key rs.length 0 h1 none 0 0 (by omega) (KB.refl _) (OwnF.none _ _ _) (by omega)

theorem known_calls (u : U8 h) (hk : ∀ h', KB h h' → K (.bool true) h') : HCalls Tryd.prog 8 ⟨[]⟩ h K := by
  refine Sx.l02_known.ok _ _ (fold_calls (by decide) fun h1 k1 => vStrMk (splT (by decide +kernel) (punct_calls ⟨by decide, by decide⟩ fun h2 k2 => vBool_mk ?_)))
  rw [show Tryd.punctI 8364 = true by decide +kernel]
  refine condT (punct_calls ⟨by decide, by decide⟩ fun h3 k3 => vBool_mk ?_)
  rw [show Tryd.punctI 97 = false by decide +kernel]
  refine condF (blank_calls (vBool_mk ?_))
  rw [show Tryd.blankI 160 = true by decide +kernel]
  have k03 := (k1.trans k2).trans k3
  refine condT (prev_calls (u.kb k03) (by decide) (fun h => absurd h (by decide)) fun _ _ h4 k4 => vIntMk (splT (by decide +kernel) (hex_calls (by decide) (by decide) (vIntMk (splT (by decide +kernel) (hex_calls (by decide) (by decide) (vIntMk (splT (by decide +kernel) (lower_calls (by decide) fun h5 k5 => vStrMk (splT (by decide +kernel) (hk h5 ((k03.trans k4).trans k5))))))))))))
end
end Go.Proofs
