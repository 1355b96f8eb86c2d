/- cols: the walks of the program's and of the chapter's functions. No condition. -/
import Derived.Test.YtejijfnagkeljaaDoorTxA
import Derived.Test.YtejijfnagkeljaaDoorHmG
import Derived.Test.YtejijfnagkeljaaDoorClA
import Derived.Test.YtejijfnagkeljaaDoorShelf
import Derived.Shelf.Strings.SlTrimAscii
namespace Go.Proofs
open Go Go.Sh
set_option linter.unusedVariables false
set_option maxRecDepth 100000

section
variable {h : H} {s : Bs} {K : Value → H → Prop}

/-! ### the library's -/
theorem hasPrefix_calls {t : Bs} (hk : K (.bool (t.isPrefixOf s)) h) : HCalls Tryd.prog 25 ⟨[S s, S t]⟩ h K := by
  refine Sx.strings_HasPrefix.ok _ _ _ _ (Sx.internal_stringslite_HasPrefix.ok _ _ _ _ (spl (fun e => ⟨⟨by omega, by omega, by omega⟩, ?_⟩) fun e => vBool_mk (condF ?_)))
  · rw [sub_zero]
    refine splK (K := fun b => vBool (.bool b) fun b => cond b (K (.bool true) h) (K (.bool false) h)) (vBool_mk (condK (K := fun b => K (.bool b) h) ?_))
    have : decide (s.take t.length = t) = t.isPrefixOf s := by
      rw [Bool.eq_iff_iff, decide_eq_true_eq, List.isPrefixOf_iff_prefix]
      exact ⟨fun e => ⟨s.drop t.length, (congrArg (· ++ s.drop t.length) e.symm).trans (List.take_append_drop _ _)⟩, fun ⟨b, e⟩ => by rw [← e]; simp⟩
    rwa [this]
  · have : t.isPrefixOf s = false := by
      cases hb : t.isPrefixOf s with
      | false => rfl
      | true => obtain ⟨b, e2⟩ := List.isPrefixOf_iff_prefix.1 hb; exact absurd (by rw [← e2, List.length_append]; omega) e
    rwa [this] at hk
theorem repeat_calls {k : Nat} (h1 : 1 ≤ k) (h2 : k ≤ 3) (hk : K (S (List.replicate k 32)) h) : HCalls Tryd.prog 19 ⟨[S [32], .int .i64 (k : Int)]⟩ h K := by
  refine Sx.strings_Repeat.ok _ _ _ _ (splF (by omega) (spl (fun e => ?_) fun e => splF (by omega) ?_))
  · have : k = 1 := by omega
    subst this; exact hk
  · refine hcalls_of (v := .tuple ⟨[.int .u64 0, .int .u64 (k : Int)]⟩) (fun w hw => ?_) (tupII (splF (by decide) (splF (by omega) (splF (by decide) ⟨⟨by decide, by decide⟩, splT (by decide) (condT (splT ?_ (hasPrefix_calls (vBool_mk ?_))))⟩))))
    · have e1 : IntKind.wrap .u64 (k : Int) = (k : Int) := by
        have : k = 2 ∨ k = 3 := by omega
        rcases this with rfl | rfl <;> rfl
      have := Tryd.bits_Mul 1 k (by decide) (by omega) w
      rw [Nat.one_mul, Nat.div_eq_of_lt (by omega), Nat.mod_eq_of_lt (by omega)] at this
      rw [e1]
      exact this
    · have : k = 2 ∨ k = 3 := by omega
      rcases this with rfl | rfl <;> decide
    · have : k = 2 ∨ k = 3 := by omega
      rcases this with rfl | rfl
      · exact ⟨by decide, hk⟩
      · exact ⟨by decide, hk⟩
theorem trim_calls (hs : s.length ≤ 9223372036854775807) (hk : ∀ h', KB h h' → K (S (trimP s)) h') : HCalls Tryd.prog 23 ⟨[S s, S [32, 9]]⟩ h K :=
  hcalls_below (v := S (trimP s)) (fun w hw => Any.strings_Trim_laid Tryd.lays160 (by kernel_rfl) ⟨⟨s⟩⟩ ⟨#[32, 9]⟩ w (by rw [Lib.size_eq]; exact hs) (by decide) (ascii_of_all (by decide))) hk

/-! ### pass, take -/
theorem pass_calls {a : Addr} {c : Int} {b : UInt8} (v : Var h a 32 [.int .i64 c]) (h0 : 0 ≤ c) (h1 : c ≤ 9000000000000000000) (hy : ∀ h', Var h' a 32 [.int .i64 (endsP b c)] → KX a.block h h' → h'.size = h.size → blk b = true → K (.bool true) h') (hn : blk b = false → K (.bool false) h) :
    HCalls Tryd.prog 18 ⟨[.pointer (some a), .int .u8 (b.toNat : Int)]⟩ h K := by
  have ht : 0 ≤ Int.tmod c 4 ∧ Int.tmod c 4 < 4 := by rw [Int.tmod_eq_emod_of_nonneg h0]; omega
  refine Sx.cols_counter_pass.ok _ _ _ _ (spl (fun e => condT ⟨c, v.cell 0 rfl, rng64 (by omega) (by omega), ?_⟩) fun e => condF (spl (fun e2 => condT ⟨c, v.cell 0 rfl, c, v.cell 0 rfl, by decide, rng64 (by omega) (by omega), rng64 (by omega) (by omega), ?_⟩) fun e2 => condF ?_))
  · refine stL_var (m := 0) (i := 0) v (Nat.le_refl _) fun h' v' k' s' => hy h' ?_ k' s' ?_
    · unfold endsP; rw [if_pos e]; exact v'
    · unfold blk; rw [decide_eq_true e]; rfl
  · refine stL_var (m := 0) (i := 0) v (Nat.le_refl _) fun h' v' k' s' => hy h' ?_ k' s' ?_
    · unfold endsP; rw [if_neg e]; exact v'
    · unfold blk; rw [decide_eq_true e2]; simp
  · exact hn (by unfold blk; rw [decide_eq_false e, decide_eq_false e2]; rfl)
theorem take_calls {f : Value} {R E : Nat → H → Prop} (hs : s.length ≤ 9000000000000000000)
    (step : ∀ (i : Nat) (hi : i < s.length) (h : H) (K : Value → H → Prop), R i h → (∀ h', R (i + 1) h' → K (.bool true) h') → (∀ h', E i h' → K (.bool false) h') → CallV Tryd.prog 4 f ⟨[.int .u8 (s[i].toNat : Int)]⟩ h K)
    (h0 : R 0 h) (hall : ∀ h', R s.length h' → K (.int .i64 (s.length : Int)) h') (hstop : ∀ i, i < s.length → ∀ h', E i h' → K (.int .i64 (i : Int)) h') : HCalls Tryd.prog 16 ⟨[S s, f]⟩ h K := by
  refine Sx.cols_take.ok _ _ _ _ ⟨s.length + 1, ?_⟩
  have key : ∀ k i h, i + k = s.length → R i h → Sx.cols_take.n6_L (fun z0 h => K (.int .i64 (z0.length : Int)) h) (fun z0 h => K (.int .i64 (z0.length : Int)) h) (fun y4 h => K (.int .i64 y4) h) (k + 1) s f (s.length : Int) (i : Int) h := by
    intro k
    induction k with
    | zero =>
      intro i h hi hr
      have : i = s.length := by omega
      subst this
      exact splF (by omega) (hall h hr)
    | succ k ih =>
      intro i h hi hr
      have hil : i < s.length := by omega
      refine splT (by omega) ⟨⟨by omega, by omega⟩, ?_⟩
      rw [getDN hil]
      exact step i hil h _ hr (fun h' r => ⟨rng64 (by omega) (by omega), ih (i + 1) h' (by omega) r⟩) (fun h' e => hstop i hil h' e)
  exact key s.length 0 h (by omega) h0

/-! ### Width -/
theorem width_calls {col : Int} (hs : s.length ≤ 100000) (hc : col ≤ 1000000000000000000) (hk : ∀ h', KB h h' → K (.int .i64 (widthP s col)) h') : HCalls Tryd.prog 10 ⟨[S s, .int .i64 col]⟩ h K := by
  have hm : 0 ≤ mx0 col ∧ mx0 col ≤ 1000000000000000000 := by unfold mx0; split <;> omega
  have hx : mx0 col = if (0 : Int) > col then (0 : Int) else col := rfl
  refine Sx.cols_Width.ok _ _ _ _ (newx_var fun a h1 v1 k1 e1 s1 => ?_)
  have done : ∀ h', (KB h h' ∧ ∃ c, Var h' a 32 [.int .i64 c] ∧ c ≤ mx0 col + 4 * s.length ∧ widthGo s (mx0 col) = c) →
      ∃ i18, cell h' (a.add 0) = some (.int .i64 i18) ∧ (Rng .i64 (i18 - (mx0 col)) ∧ K (.int .i64 (i18 - mx0 col)) h') := by
    rintro h' ⟨k, c, v, hle, e⟩
    have hb := widthGo_bd s (mx0 col) hm.1
    have := hk h' k
    unfold widthP at this
    rw [e] at this hb
    exact ⟨c, v.cell 0 rfl, rng64 (by omega) (by omega), this⟩
  refine take_calls (R := fun i h' => KB h h' ∧ ∃ c, Var h' a 32 [.int .i64 c] ∧ 0 ≤ c ∧ c ≤ mx0 col + 4 * i ∧ widthGo s (mx0 col) = widthGo (s.drop i) c)
    (E := fun i h' => KB h h' ∧ ∃ c, Var h' a 32 [.int .i64 c] ∧ c ≤ mx0 col + 4 * s.length ∧ widthGo s (mx0 col) = c) (by omega) ?_ ?_ ?_ ?_
  · rintro i hi h2 K2 ⟨k, c, v, c0, cl, e⟩ hy hn
    refine callV_ok Tryd.func18 (by kernel_rfl) (pass_calls v c0 (by omega) (fun h3 v3 k3 s3 hb => decBool Tryd.underlying4 (hy h3 ?_)) (fun hb => decBool Tryd.underlying4 (hn h2 ?_)))
    · have hbd := ends_bd (b := s[i]) c0
      refine ⟨KB.step k k3 (by omega), _, v3, by omega, by omega, ?_⟩
      rw [e, List.drop_eq_getElem_cons hi, widthGo, if_pos hb]
    · refine ⟨k, c, v, by omega, ?_⟩
      rw [e, List.drop_eq_getElem_cons hi, widthGo, if_neg (by rw [hb]; decide)]
  · exact ⟨k1, _, v1, hm.1, by omega, rfl⟩
  · rintro h' ⟨k, c, v, c0, cl, e⟩
    rw [List.drop_length, widthGo] at e
    exact vIntMk (done h' ⟨k, c, v, cl, e⟩)
  · rintro i hi h' e
    exact vIntMk (done h' e)

/-! ### Cut -/
/-- what stays while it takes -/
def CutR (h h' : H) (a p q : Addr) (e : Int) : Prop :=
  KB h h' ∧ Var h' p 30 [.pointer (some a)] ∧ Var h' q 3 [.int .i64 e] ∧ h.size ≤ a.block ∧ a.block ≠ p.block ∧ a.block ≠ q.block
/-- what is asked behind the taking -/
abbrev CutD (s : Bs) (p q : Addr) (i : Nat) (K : Value → H → Prop) (h33 : H) : Prop :=
  ∃ p35, cell h33 p = some (.pointer p35) ∧ (vSome p35 fun a36 => ∃ i37, cell h33 (a36.add 0) = some (.int .i64 i37) ∧ (∃ i38, cell h33 q = some (.int .i64 i38) ∧ (Spl (i37 ≤ i38) ((0 ≤ (i : Int) ∧ (i : Int) ≤ (s.length : Int) ∧ (s.length : Int) ≤ (s.length : Int)) ∧ (∃ p39, cell h33 p = some (.pointer p39) ∧ (vSome p39 fun a40 => ∃ i41, cell h33 (a40.add 0) = some (.int .i64 i41) ∧ (K (.tuple ⟨[S (sub s (i : Int) (s.length : Int)), .int .i64 i41]⟩) h33))))
    (∃ p42, cell h33 p = some (.pointer p42) ∧ (vSome p42 fun a43 => ∃ i44, cell h33 (a43.add 0) = some (.int .i64 i44) ∧ (∃ i45, cell h33 q = some (.int .i64 i45) ∧ (Rng .i64 (i44 - i45) ∧ ((0 ≤ (i : Int) ∧ (i : Int) ≤ (s.length : Int) ∧ (s.length : Int) ≤ (s.length : Int)) ∧ (∃ i46, cell h33 q = some (.int .i64 i46) ∧ (HCalls Tryd.prog 19 ⟨[(S ([32] : List UInt8)), (.int .i64 (i44 - i45))]⟩ h33 fun v47 h48 => vStr v47 fun s49 => ExtH h33 h48 ∧ (((s49.length + (sub s (i : Int) (s.length : Int)).length : Nat) : Int) ≤ 9223372036854775807 ∧ (K (.tuple ⟨[S (s49 ++ (sub s (i : Int) (s.length : Int))), .int .i64 i46]⟩) h48))))))))))))
theorem cut_calls {col n : Int} (hs : s.length ≤ 100000) (hc : col ≤ 1000000000000000000) (hn : n ≤ 1000000000000000000) (hk : ∀ h', KB h h' → K (.tuple ⟨[S (cutP s col n).1, .int .i64 (cutP s col n).2]⟩) h') :
    HCalls Tryd.prog 7 ⟨[S s, .int .i64 col, .int .i64 n]⟩ h K := by
  have hm : 0 ≤ mx0 col ∧ mx0 col ≤ 1000000000000000000 := by unfold mx0; split <;> omega
  have hm2 : 0 ≤ mx0 n ∧ mx0 n ≤ 1000000000000000000 := by unfold mx0; split <;> omega
  have hx : mx0 col = if (0 : Int) > col then (0 : Int) else col := rfl
  have hx2 : mx0 n = if (0 : Int) > n then (0 : Int) else n := rfl
  refine Sx.cols_Cut.ok _ _ _ _ _ (newx_var fun a h1 v1 k1 e1 s1 => newx_var fun p h2 v2 k2 e2 s2 => stL_var0 v2 (Nat.le_refl _) fun h3 v3 k3 s3 => ⟨_, v3.cell0 rfl, _, (v1.kb k2).keep k3.w (by omega) |>.cell 0 rfl, rng64 (by omega) (by omega), ?_⟩)
  have v1' : Var h3 a 32 [.int .i64 (mx0 col)] := (v1.kb k2).keep k3.w (by omega)
  have k03 : KB h h3 := KB.step (k1.trans k2) k3 (by omega)
  refine newx_var fun q h4 v4 k4 e4 s4 => stL_var0 v4 (Nat.le_refl _) fun h5 v5 k5 s5 => ?_
  have v1'' : Var h5 a 32 [.int .i64 (mx0 col)] := (v1'.kb k4).keep k5.w (by omega)
  have v3'' : Var h5 p 30 [.pointer (some a)] := (v3.kb k4).keep k5.w (by omega)
  have k05 : KB h h5 := KB.step (k03.trans k4) k5 (by omega)
  have v5' : Var h5 q 3 [.int .i64 (mx0 col + mx0 n)] := v5
  -- what holds at each byte, and behind the last one
  have done : ∀ i, i ≤ s.length → ∀ h', (CutR h h' a p q (mx0 col + mx0 n) ∧ ∃ c, Var h' a 32 [.int .i64 c] ∧ c ≤ mx0 col + mx0 n + 3 ∧ cutGo s (mx0 col) (mx0 col + mx0 n) = (s.drop i, c)) → CutD s p q i K h' := by
    rintro i hi h' ⟨⟨k, vp, vq, _⟩, c, v, hle, e⟩
    have hb := (cutGo_bd s (mx0 col) (mx0 col + mx0 n) hm.1).1
    have hK := hk h' k
    unfold cutP padP at hK
    rw [e] at hK hb
    simp only at hK hb
    refine ⟨_, vp.cell0 rfl, _, v.cell 0 rfl, _, vq.cell0 rfl, spl (fun e1 => ⟨⟨by omega, by omega, by omega⟩, _, vp.cell0 rfl, _, v.cell 0 rfl, ?_⟩) fun e1 => ⟨_, vp.cell0 rfl, _, v.cell 0 rfl, _, vq.cell0 rfl, rng64 (by omega) (by omega), ⟨by omega, by omega, by omega⟩, _, vq.cell0 rfl, ?_⟩⟩
    · rw [if_pos e1] at hK
      rw [sub_full s i hi]
      exact hK
    · rw [if_neg e1] at hK
      rw [sub_full s i hi]
      have hz : c - (mx0 col + mx0 n) = ((c - (mx0 col + mx0 n)).toNat : Int) := by omega
      rw [hz]
      exact repeat_calls (by omega) (by omega) (vStrMk ⟨ExtH.refl _, by simp; omega, hK⟩)
  refine take_calls (R := fun i h' => CutR h h' a p q (mx0 col + mx0 n) ∧ ∃ c, Var h' a 32 [.int .i64 c] ∧ 0 ≤ c ∧ c ≤ mx0 col + mx0 n + 3 ∧ cutGo s (mx0 col) (mx0 col + mx0 n) = cutGo (s.drop i) c (mx0 col + mx0 n))
    (E := fun i h' => CutR h h' a p q (mx0 col + mx0 n) ∧ ∃ c, Var h' a 32 [.int .i64 c] ∧ c ≤ mx0 col + mx0 n + 3 ∧ cutGo s (mx0 col) (mx0 col + mx0 n) = (s.drop i, c)) (by omega) ?_ ?_ ?_ ?_
  · rintro i hi h6 K2 ⟨⟨k, vp, vq, ha, hap, haq⟩, c, v, c0, cl, e⟩ hy hn
    refine callV_ok Tryd.func17 (by kernel_rfl) (Sx.cols_Cut_1.ok _ _ _ _ _ ⟨_, vp.cell0 rfl, _, v.cell 0 rfl, _, vq.cell0 rfl, spl (fun e1 => ⟨_, vp.cell0 rfl, pass_calls v c0 (by omega) (fun h3 v3 k3 s3 hb => vBool_mk (condT (decBool Tryd.underlying4 (hy h3 ?_)))) (fun hb => vBool_mk (condF (decBool Tryd.underlying4 (hn h6 ?_))))⟩) fun e1 => decBool Tryd.underlying4 (hn h6 ?_)⟩)
    · have hbd := ends_bd (b := s[i]) c0
      refine ⟨⟨KB.step k k3 (by omega), vp.keep k3.w (fun e => hap e.symm), vq.keep k3.w (fun e => haq e.symm), ha, hap, haq⟩, _, v3, by omega, by omega, ?_⟩
      rw [e, List.drop_eq_getElem_cons hi, cutGo, if_pos ⟨e1, hb⟩]
    · refine ⟨⟨k, vp, vq, ha, hap, haq⟩, c, v, cl, ?_⟩
      rw [e, List.drop_eq_getElem_cons hi, cutGo, if_neg (by rw [hb]; simp)]
    · refine ⟨⟨k, vp, vq, ha, hap, haq⟩, c, v, cl, ?_⟩
      rw [e, List.drop_eq_getElem_cons hi, cutGo, if_neg (by simp [e1])]
  · exact ⟨⟨k05, v3'', v5', by omega, by omega, by omega⟩, _, v1'', hm.1, by omega, rfl⟩
  · rintro h' ⟨r, c, v, c0, cl, e⟩
    rw [List.drop_length, cutGo] at e
    exact vIntMk (done s.length (Nat.le_refl _) h' ⟨r, c, v, cl, by rw [List.drop_length]; exact e⟩)
  · rintro i hi h' e
    exact vIntMk (done i (by omega) h' e)
end
end Go.Proofs
