/- cols: the walks of the chapter's functions and of the laws. No condition. -/
import Derived.Test.YtejijfnagkeljaaDoorClB
namespace Go.Proofs
open Go Go.Sh
set_option linter.unusedVariables false
set_option maxRecDepth 100000

/-- without the blanks at the end -/
def rdP (s : Bs) : Bs := (s.reverse.dropWhile blk).reverse
theorem rdP_last (s : Bs) (b : UInt8) : rdP (s ++ [b]) = if blk b = true then rdP s else s ++ [b] := by
  unfold rdP
  rw [List.reverse_append]
  show (List.dropWhile blk (b :: s.reverse)).reverse = _
  split
  · rw [List.dropWhile_cons_of_pos (by assumption)]
  · rw [List.dropWhile_cons_of_neg (by assumption)]; simp
theorem rdP_at {s : Bs} {k : Nat} (h : s.length = k + 1) : rdP s = if blk (s[k]'(by omega)) = true then rdP (s.take k) else s := by
  have e : s = s.take k ++ [s[k]'(by omega)] := by
    conv => lhs; rw [← List.take_append_drop k s]
    congr 1
    rw [List.drop_eq_getElem_cons (by omega), List.drop_of_length_le (by omega)]
  have h1 := rdP_last (s.take k) (s[k]'(by omega))
  rw [← e] at h1
  exact h1
theorem rdP_drop (s : Bs) : rdP (s.drop (frontP s)) = trimP s := by
  rw [front_drop, trimP_eq, trim_comm]; rfl
theorem widthGo_up : ∀ (s : Bs) (c : Int), 0 ≤ c → widthGo s c ≤ c + 4 * s.length
  | [], c, _ => by simp [widthGo]
  | b :: t, c, h => by
    unfold widthGo
    split
    · have h1 := ends_bd (b := b) h
      have := widthGo_up t (endsP b c) (by omega)
      simp only [List.length_cons]; omega
    · simp only [List.length_cons]; omega
theorem cutGo_len : ∀ (s : Bs) (c e : Int), (cutGo s c e).1.length ≤ s.length
  | [], c, e => Nat.le_refl _
  | b :: t, c, e => by
    unfold cutGo
    split
    · have := cutGo_len t (endsP b c) e
      simp only [List.length_cons]; omega
    · exact Nat.le_refl _
theorem cutP_bd (s : Bs) (col n : Int) : (cutP s col n).1.length ≤ s.length + 3 ∧ mx0 col ≤ (cutP s col n).2 ∧ (cutP s col n).2 ≤ mx0 col + mx0 n := by
  have h0 : 0 ≤ mx0 col ∧ 0 ≤ mx0 n := by unfold mx0; constructor <;> split <;> omega
  have h1 := cutGo_len s (mx0 col) (mx0 col + mx0 n)
  have h2 := cutGo_bd s (mx0 col) (mx0 col + mx0 n) h0.1
  unfold cutP padP
  split
  · exact ⟨by omega, h2.1, by assumption⟩
  · have := h2.2.1 (by omega)
    simp only [List.length_append, List.length_replicate]
    omega

section
variable {h : H} {s : Bs} {K : Value → H → Prop}

theorem pTrim_calls (hs : s.length ≤ 100000) (hk : ∀ h', KB h h' → K (S (trimP s)) h') : HCalls Tryd.prog 14 ⟨[S s]⟩ h K :=
  Sx.cols_Trim.ok _ _ _ (trim_calls (by omega) fun h' k => vStrMk (hk h' k))
theorem pBlank_calls (hs : s.length ≤ 100000) (hk : ∀ h', KB h h' → K (.bool (blankP s)) h') : HCalls Tryd.prog 12 ⟨[S s]⟩ h K :=
  Sx.cols_Blank.ok _ _ _ (pTrim_calls hs fun h' k => vStrMk (splK (K := fun b => K (.bool b) h') (by rw [blank_trim]; exact hk h' k)))

/-! ### the chapter's -/
theorem rBlank1_calls {b : UInt8} (hk : K (.bool (blk b)) h) : HCalls Tryd.prog 20 ⟨[.int .u8 (b.toNat : Int)]⟩ h K := by
  refine Sx.r21_blank.ok _ _ _ (spl (fun e => ?_) fun e => splK (K := fun b => K (.bool b) h) ?_)
  · have : blk b = true := by unfold blk; rw [decide_eq_true e]; rfl
    rwa [this] at hk
  · have : blk b = decide ((b.toNat : Int) = 9) := by unfold blk; rw [decide_eq_false e]; rfl
    rwa [this] at hk
theorem rEnds_calls {b : UInt8} {c : Int} (hb : blk b = true) (h0 : 0 ≤ c) (h1 : c ≤ 9000000000000000000) (hk : K (.int .i64 (endsP b c)) h) : HCalls Tryd.prog 21 ⟨[.int .u8 (b.toNat : Int), .int .i64 c]⟩ h K := by
  have ht : 0 ≤ Int.tmod c 4 ∧ Int.tmod c 4 < 4 := by rw [Int.tmod_eq_emod_of_nonneg h0]; omega
  refine Sx.r21_ends.ok _ _ _ _ (spl (fun e => ⟨by decide, rng64 (by omega) (by omega), rng64 (by omega) (by omega), ?_⟩) fun e => ⟨rng64 (by omega) (by omega), ?_⟩)
  · have : endsP b c = (c - Int.tmod c 4) + 4 := by unfold endsP; rw [if_neg (by omega)]; omega
    rwa [this] at hk
  · have : endsP b c = c + 1 := by
      unfold endsP
      rw [if_pos]
      unfold blk at hb
      rw [decide_eq_false e, Bool.or_false] at hb
      exact of_decide_eq_true hb
    rwa [this] at hk
theorem rFront_calls (hs : s.length ≤ 100000) (hk : K (.int .i64 (frontP s : Int)) h) : HCalls Tryd.prog 22 ⟨[S s]⟩ h K := by
  have hf := front_le s
  have hsp := front_spec s
  refine Sx.r21_front.ok _ _ _ ⟨frontP s + 1, ?_⟩
  have key : ∀ k i, i + k = frontP s → Sx.r21_front.n6_L (fun z3 h => K (.int .i64 z3) h) (fun z3 h => K (.int .i64 z3) h) (fun y2 h => K (.int .i64 y2) h) (k + 1) s (i : Int) h := by
    intro k
    induction k with
    | zero =>
      intro i hi
      have hi2 : i = frontP s := by omega
      refine spl (fun hl => ⟨⟨by omega, by omega⟩, ?_⟩) fun _ => by rw [hi2]; exact hk
      have hlt : i < s.length := by omega
      rw [getDN hlt]
      refine rBlank1_calls (vBool_mk ?_)
      have : blk s[i] = false := by subst hi2; exact hsp.2 hlt
      rw [this]
      exact condF (by rw [hi2]; exact hk)
    | succ k ih =>
      intro i hi
      have hlt : i < s.length := by omega
      refine splT (by omega) ⟨⟨by omega, by omega⟩, ?_⟩
      rw [getDN hlt]
      refine rBlank1_calls (vBool_mk ?_)
      rw [hsp.1 i hlt (by omega)]
      exact condT ⟨rng64 (by omega) (by omega), ih (i + 1) (by omega)⟩
  exact key (frontP s) 0 (by omega)
theorem rBlank_calls (hs : s.length ≤ 100000) (hk : K (.bool (blankP s)) h) : HCalls Tryd.prog 13 ⟨[S s]⟩ h K :=
  Sx.r21_Blank.ok _ _ _ (rFront_calls hs (vIntMk (splK (K := fun b => K (.bool b) h) (by rw [front_blank]; exact hk))))
theorem rTrim_calls (hs : s.length ≤ 100000) (hk : K (S (trimP s)) h) : HCalls Tryd.prog 15 ⟨[S s]⟩ h K := by
  have hf := front_le s
  refine Sx.r21_Trim.ok _ _ _ (rFront_calls hs (vIntMk ⟨⟨by omega, by omega, by omega⟩, ?_⟩))
  rw [sub_full s _ hf]
  have hl : (s.drop (frontP s)).length ≤ 100000 := by simp; omega
  rw [← rdP_drop] at hk
  revert hk hl
  generalize s.drop (frontP s) = t
  intro hk hl
  refine ⟨t.length + 1, ?_⟩
  have key : ∀ k (t : Bs), t.length = k → t.length ≤ 100000 → K (S (rdP t)) h → Sx.r21_Trim.n6_L (fun z0 h => K (S z0) h) (fun z0 h => K (S z0) h) (fun y2 h => K (S y2) h) (k + 1) t h := by
    intro k
    induction k with
    | zero =>
      intro t h0 _ hk
      have : t = [] := List.eq_nil_of_length_eq_zero h0
      subst this
      exact splF (by decide) hk
    | succ k ih =>
      intro t h0 hl hk
      have hz : (t.length : Int) - 1 = (k : Int) := by omega
      refine splT (by omega) ⟨rng64 (by omega) (by omega), ⟨by omega, by omega⟩, ?_⟩
      rw [hz, getDN (show k < t.length by omega)]
      rw [rdP_at h0] at hk
      refine rBlank1_calls (vBool_mk (condB (fun e => ⟨rng64 (by omega) (by omega), ⟨by omega, by omega, by omega⟩, ?_⟩) fun e => ?_))
      · rw [sub_zero]
        rw [if_pos e] at hk
        exact ih _ (by simp; omega) (by simp; omega) hk
      · rw [if_neg (by rw [e]; decide)] at hk
        exact hk
  exact key t.length t rfl hl hk
theorem rWidth_calls {col : Int} (hs : s.length ≤ 100000) (hc : col ≤ 1000000000000000000) (hk : K (.int .i64 (widthP s col)) h) : HCalls Tryd.prog 11 ⟨[S s, .int .i64 col]⟩ h K := by
  have hm : 0 ≤ mx0 col ∧ mx0 col ≤ 1000000000000000000 := by unfold mx0; split <;> omega
  have hf := front_le s
  have hsp := front_spec s
  refine Sx.r21_Width.ok _ _ _ _ (rFront_calls hs (vIntMk ⟨frontP s + 1, ?_⟩))
  unfold widthP at hk
  have key : ∀ k i c, i + k = frontP s → 0 ≤ c → c ≤ mx0 col + 4 * i → widthGo (s.drop i) c = widthGo s (mx0 col) →
      Sx.r21_Width.n9_L (fun z1 z5 h => Rng .i64 (z5 - z1) ∧ K (.int .i64 (z5 - z1)) h) (fun z1 z5 h => Rng .i64 (z5 - z1) ∧ K (.int .i64 (z5 - z1)) h) (fun y4 h => K (.int .i64 y4) h) (k + 1) s (mx0 col) c (frontP s : Int) (i : Int) h := by
    intro k
    induction k with
    | zero =>
      intro i c hi h0 hle he
      have hi2 : i = frontP s := by omega
      have hc2 : widthGo (s.drop i) c = c := by
        by_cases hlt : i < s.length
        · rw [List.drop_eq_getElem_cons hlt, widthGo, if_neg]
          have : blk s[i] = false := by subst hi2; exact hsp.2 hlt
          rw [this]; decide
        · rw [List.drop_of_length_le (by omega), widthGo]
      have hb := widthGo_bd s (mx0 col) hm.1
      rw [hc2] at he
      rw [← he] at hk hb
      exact splF (by omega) ⟨rng64 (by omega) (by omega), hk⟩
    | succ k ih =>
      intro i c hi h0 hle he
      have hlt : i < s.length := by omega
      refine splT (by omega) ⟨⟨by omega, by omega⟩, ?_⟩
      have hb := hsp.1 i hlt (by omega)
      have hbd := ends_bd (b := s[i]) h0
      rw [getDN hlt]
      refine rEnds_calls hb h0 (by omega) (vIntMk ⟨rng64 (by omega) (by omega), ih (i + 1) _ (by omega) (by omega) (by omega) ?_⟩)
      rw [← he, List.drop_eq_getElem_cons hlt, widthGo, if_pos hb]
  exact key (frontP s) 0 (mx0 col) (by omega) hm.1 (by omega) rfl
theorem rCut_calls {col n : Int} (hs : s.length ≤ 100000) (hc : col ≤ 1000000000000000000) (hn : n ≤ 1000000000000000000) (hk : K (.tuple ⟨[S (cutP s col n).1, .int .i64 (cutP s col n).2]⟩) h) :
    HCalls Tryd.prog 8 ⟨[S s, .int .i64 col, .int .i64 n]⟩ h K := by
  have hm : 0 ≤ mx0 col ∧ mx0 col ≤ 1000000000000000000 := by unfold mx0; split <;> omega
  have hm2 : 0 ≤ mx0 n ∧ mx0 n ≤ 1000000000000000000 := by unfold mx0; split <;> omega
  refine Sx.r21_Cut.ok _ _ _ _ _ ⟨s.length + 1, ?_⟩
  unfold cutP at hk
  generalize hg : mx0 col = g at hm hk
  rw [show (if (0 : Int) > col then (0 : Int) else col) = g from hg]
  -- behind the first loop
  have fin : ∀ (r : Bs × Int), r.1.length ≤ 100000 → g ≤ r.2 → r.2 ≤ g + mx0 n + 3 → K (.tuple ⟨[S (padP r (g + mx0 n)).1, .int .i64 (padP r (g + mx0 n)).2]⟩) h → (n ≤ 0 → r = (r.1, g)) → Sx.r21_Cut.n5 r.1 g n r.2 (fun y6 y7 h => K (.tuple ⟨[S y6, .int .i64 y7]⟩) h) (fun y6 y7 h => K (.tuple ⟨[S y6, .int .i64 y7]⟩) h) h := by
    rintro ⟨r, c⟩ hl h1 h2 hk hz
    simp only at hl h1 h2 hz ⊢
    refine spl (fun hn => ?_) fun hn => ?_
    · have h3 : c = g := (Prod.mk.inj (hz hn)).2
      have h4 : mx0 n = 0 := by unfold mx0; split <;> omega
      unfold padP at hk
      rw [if_pos (by simp only; omega), h3] at hk
      exact hk
    · have h4 : mx0 n = n := by unfold mx0; split <;> omega
      rw [h4] at hk h2
      refine ⟨(c - (g + n)).toNat + 1, ?_⟩
      have key : ∀ k (r : Bs) (c : Int), (c - (g + n)).toNat = k → r.length ≤ 100000 + (3 - k) → k ≤ 3 → g ≤ c → c ≤ g + n + 3 → K (.tuple ⟨[S (padP (r, c) (g + n)).1, .int .i64 (padP (r, c) (g + n)).2]⟩) h →
          Sx.r21_Cut.n9_L (fun z0 z8 h => K (.tuple ⟨[S z0, .int .i64 z8]⟩) h) (fun z0 z8 h => K (.tuple ⟨[S z0, .int .i64 z8]⟩) h) (fun y6 y7 h => K (.tuple ⟨[S y6, .int .i64 y7]⟩) h) (k + 1) r g n c h := by
        intro k
        induction k with
        | zero =>
          intro r c h0 hl h3 h1 h2 hk
          refine ⟨rng64 (by omega) (by omega), splF (by omega) ?_⟩
          unfold padP at hk
          rw [if_pos (by simp only; omega)] at hk
          exact hk
        | succ k ih =>
          intro r c h0 hl h3 h1 h2 hk
          refine ⟨rng64 (by omega) (by omega), splT (by omega) ⟨by simp; omega, rng64 (by omega) (by omega), ih _ _ (by omega) (by simp; omega) (by omega) (by omega) (by omega) ?_⟩⟩
          have : padP ([32] ++ r, c - 1) (g + n) = padP (r, c) (g + n) := by
            unfold padP
            simp only
            rw [if_neg (show ¬ c ≤ g + n by omega)]
            split
            · have e1 : (c - (g + n)).toNat = 1 := by omega
              rw [e1]
              have e2 : c - 1 = g + n := by omega
              rw [e2]; rfl
            · have e1 : (c - (g + n)).toNat = (c - 1 - (g + n)).toNat + 1 := by omega
              rw [e1, List.replicate_succ']
              simp
          rw [this]; exact hk
      exact key _ r c rfl (by omega) (by omega) h1 h2 hk
  have key : ∀ (l : Bs) (c : Int), l.length ≤ 100000 → 0 ≤ c → g ≤ c → c ≤ g + mx0 n + 3 → (n ≤ 0 → c = g) → K (.tuple ⟨[S (padP (cutGo l c (g + mx0 n)) (g + mx0 n)).1, .int .i64 (padP (cutGo l c (g + mx0 n)) (g + mx0 n)).2]⟩) h →
      Sx.r21_Cut.n11_L (fun z0 z1 z2 z8 h => Sx.r21_Cut.n5 z0 z1 z2 z8 (fun y6 y7 h => K (.tuple ⟨[S y6, .int .i64 y7]⟩) h) (fun y6 y7 h => K (.tuple ⟨[S y6, .int .i64 y7]⟩) h) h) (fun z0 z1 z2 z8 h => Sx.r21_Cut.n5 z0 z1 z2 z8 (fun y6 y7 h => K (.tuple ⟨[S y6, .int .i64 y7]⟩) h) (fun y6 y7 h => K (.tuple ⟨[S y6, .int .i64 y7]⟩) h) h) (fun y6 y7 h => K (.tuple ⟨[S y6, .int .i64 y7]⟩) h) (l.length + 1) l g n c h := by
    intro l
    induction l with
    | nil =>
      intro c hl h0 h1 h2 h3 hk
      rw [cutGo] at hk
      have f := fin ([], c) (by simp) h1 h2 hk (fun hn => by rw [h3 hn])
      exact ⟨rng64 (by omega) (by omega), spl (fun _ => splF (by decide) f) fun _ => f⟩
    | cons b t ih =>
      intro c hl h0 h1 h2 h3 hk
      refine ⟨rng64 (by omega) (by omega), spl (fun e => splT (by simp) ⟨⟨by omega, by simp⟩, rBlank1_calls (vBool_mk (condB (fun hb => ?_) fun hb => ?_))⟩) fun e => ?_⟩
      · have hn : mx0 n = n := by unfold mx0; split <;> omega
        have hbd := ends_bd (b := b) h0
        refine ⟨⟨by omega, by simp⟩, rEnds_calls hb h0 (by omega) (vIntMk ⟨⟨by omega, by simp only [List.length_cons]; omega, by omega⟩, ?_⟩)⟩
        have e1 : sub (b :: t) 1 ((b :: t).length : Int) = t := sub_full (b :: t) 1 (by simp)
        rw [e1]
        refine ih (endsP b c) (by simp at hl; omega) (by omega) (by omega) (by rw [hn]; omega) (by omega) ?_
        rw [cutGo, if_pos ⟨by rw [hn]; omega, hb⟩] at hk
        exact hk
      · rw [cutGo, if_neg (fun e => by rw [show blk b = false from hb] at e; exact absurd e.2 (by decide))] at hk
        exact fin (b :: t, c) hl h1 h2 hk (fun hn => by rw [h3 hn])
      · have hn : g + mx0 n ≤ c := by unfold mx0; split <;> omega
        rw [cutGo, if_neg (by omega)] at hk
        exact fin (b :: t, c) hl h1 h2 hk (fun hn => by rw [h3 hn])
  exact key s g hs hm.1 (by omega) (by omega) (fun _ => rfl) hk

/-! ### far, known -/
theorem far_calls {col n : Int} (hy : K (.bool true) h) (hn : s.length ≤ 3000 → col ≤ 1099511627776 → n ≤ 1099511627776 → K (.bool false) h) : HCalls Tryd.prog 6 ⟨[S s, .int .i64 col, .int .i64 n]⟩ h K :=
  Sx.l21_far.ok _ _ _ _ _ (spl (fun _ => hy) fun e1 => spl (fun _ => hy) fun e2 => spl (fun _ => hy) fun e3 => hn (by omega) (by omega) (by omega))
theorem known_calls (hk : ∀ h', KB h h' → K (.bool true) h') : HCalls Tryd.prog 9 ⟨[]⟩ h K := by
  refine Sx.l21_known.ok _ _ (cut_calls (by decide) (by decide) (by decide) fun h1 k1 => ?_)
  rw [show cutP [9, 120] 0 1 = ([32, 32, 32, 120], 1) by decide +kernel]
  refine tupSI (width_calls (by decide) (by decide) fun h2 k2 => vIntMk (splT (by decide +kernel) (width_calls (by decide) (by decide) fun h3 k3 => vIntMk (splT (by decide +kernel) (splT rfl (splT rfl (pBlank_calls (by decide) fun h4 k4 => vBool_mk ?_)))))))
  rw [show blankP [] = true from rfl]
  refine condT (pTrim_calls (by decide) fun h5 k5 => vStrMk (splT (by decide +kernel) (hk h5 ((((k1.trans k2).trans k3).trans k4).trans k5))))

/-! ### the laws -/
theorem lawDoes_calls {col n : Int} (hk : ∀ h', KB h h' → K (.bool true) h') : HCalls Tryd.prog 3 ⟨[S s, .int .i64 col, .int .i64 n]⟩ h K := by
  refine Sx.l21_ColsDoes.ok _ _ _ _ _ (far_calls (vBool_mk (condT (hk h (KB.refl h)))) fun hs hc hn => vBool_mk (condF ?_))
  refine cut_calls (by omega) (by omega) (by omega) fun h1 k1 => tupSI (rCut_calls (by omega) (by omega) (by omega) (tupSI (known_calls fun h2 k2 => vBool_mk (condT (splT rfl (splT rfl
    (width_calls (by omega) (by omega) fun h3 k3 => vIntMk (rWidth_calls (by omega) (by omega) (vIntMk (splT rfl (pBlank_calls (by omega) fun h4 k4 => vBool_mk ?_)))))))))))
  have k4' : KB h h4 := ((k1.trans k2).trans k3).trans k4
  refine condB (fun e => rBlank_calls (by omega) (vBool_mk ?_)) fun e => rBlank_calls (by omega) (vBool_mk ?_)
  · rw [e]
    exact condT (pTrim_calls (by omega) fun h5 k5 => vStrMk (rTrim_calls (by omega) (vStrMk (splT rfl (hk h5 (k4'.trans k5))))))
  · rw [e]
    exact condF (pTrim_calls (by omega) fun h5 k5 => vStrMk (rTrim_calls (by omega) (vStrMk (splT rfl (hk h5 (k4'.trans k5))))))
theorem lawParts_calls {col n m : Int} (hk : ∀ h', KB h h' → K (.bool true) h') : HCalls Tryd.prog 4 ⟨[S s, .int .i64 col, .int .i64 n, .int .i64 m]⟩ h K := by
  refine Sx.l21_ColsParts.ok _ _ _ _ _ _ (far_calls (vBool_mk (condT (known_calls fun h1 k1 => vBool_mk (condT (hk h1 k1))))) fun hs hc hn => vBool_mk (condF
    (far_calls (vBool_mk (condT (known_calls fun h1 k1 => vBool_mk (condT (hk h1 k1))))) fun _ _ hm => vBool_mk (condF (known_calls fun h1 k1 => vBool_mk (condT ⟨by decide, by decide, ?_⟩))))))
  have hg : 0 ≤ mx0 col ∧ mx0 col ≤ 1099511627776 := by unfold mx0; split <;> omega
  have tm : ∀ x : Int, 0 ≤ Int.tmod (mx0 x) 100 ∧ Int.tmod (mx0 x) 100 < 100 := fun x => by
    have : 0 ≤ mx0 x := by unfold mx0; split <;> omega
    rw [Int.tmod_eq_emod_of_nonneg this]; omega
  have ha := tm n
  have hb := tm m
  have hgx : mx0 col = if (0 : Int) > col then (0 : Int) else col := rfl
  have hax : Int.tmod (mx0 n) 100 = Int.tmod (if (0 : Int) > n then (0 : Int) else n) 100 := rfl
  have hbx : Int.tmod (mx0 m) 100 = Int.tmod (if (0 : Int) > m then (0 : Int) else m) 100 := rfl
  rw [← hgx, ← hax, ← hbx]
  generalize mx0 col = g at hg
  generalize Int.tmod (mx0 n) 100 = a at ha
  generalize Int.tmod (mx0 m) 100 = b at hb
  have eg : mx0 g = g := by unfold mx0; rw [if_neg (by omega)]
  have ea : mx0 a = a := by unfold mx0; rw [if_neg (by omega)]
  obtain ⟨p1, p2, p3⟩ := cut_parts s g a b hg.1 ha.1 hb.1
  have hbd := cutP_bd s g a
  rw [eg, ea] at hbd
  have hwb := widthGo_bd s (mx0 g) (by rw [eg]; exact hg.1)
  have hwu := widthGo_up s (mx0 g) (by rw [eg]; exact hg.1)
  have hw0 : 0 ≤ widthP s g ∧ widthP s g ≤ 4 * s.length := by unfold widthP; omega
  have hmin : min a (widthP s g) = if widthP s g < a then widthP s g else a := by split <;> omega
  refine cut_calls (by omega) (by omega) (by omega) fun h2 k2 => tupSI (cut_calls (by omega) (by omega) (by omega) fun h3 k3 => tupSI ⟨rng64 (by omega) (by omega), cut_calls (by omega) (by omega) (by omega) fun h4 k4 => tupSI (width_calls (by omega) (by omega) fun h5 k5 => vIntMk (splT (by rw [p1]) (splT (by rw [p1])
    (width_calls (by omega) (by omega) fun h6 k6 => vIntMk ⟨?_, splT ?_ ⟨?_, splT ?_ (hk h6 (((((k1.trans k2).trans k3).trans k4).trans k5).trans k6))⟩⟩))))⟩)
  · have := p2
    refine rng64 ?_ ?_
    · rw [← hmin]; omega
    · rw [← hmin]; omega
  · rw [← hmin]; exact p2
  · refine rng64 ?_ ?_ <;> rw [← hmin] <;> omega
  · rw [← hmin]; exact p3
end
end Go.Proofs
