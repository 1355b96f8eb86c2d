/- Texts: the walks of the chapter's way of reading bytes. No condition. -/
import Derived.Test.YtpkicfcnhgnejaaDoorTxT
import Derived.Test.YtpkicfcnhgnejaaDoorUtH
namespace Go.Proofs
open Go Go.Sh
set_option linter.unusedVariables false
set_option maxRecDepth 100000

theorem apdB : Apd Tryd.prog elB 22 5 1 := apd_of (sz := 1) (by kernel_rfl) rfl
theorem _root_.Go.Sh.Row.less {α : Type} {E : El α} {A B : Nat → Prop} {h : H} {b : Option Addr} {n c : Nat} {l : List α} (r : Row E A h b n c l) (hb : ∀ k, A k → k < h.size → B k) : Row E B h b n c l := r.keep (Keep.refl _ _) hb
theorem u8I (x : UInt8) (n : Nat) : ((x.toNat : Int) = (n : Int)) = (x.toNat = n) := propext ⟨fun h => by omega, fun h => by omega⟩
section
variable {A : Nat → Prop} {h : H} {b : Option Addr} {n c : Nat} {l : Bs} {K : Value → H → Prop}

theorem second_calls {x y : UInt8} (hk : K (.bool (secondP x.toNat y.toNat)) h) : HCalls Tryd.prog 30 ⟨[.int .u8 (x.toNat : Int), .int .u8 (y.toNat : Int)]⟩ h K := by
  have fin : ∀ lo hi : Nat, secondP x.toNat y.toNat = (decide (lo ≤ y.toNat) && decide (y.toNat ≤ hi)) → Spl ((y.toNat : Int) ≥ (lo : Int)) (Spl ((y.toNat : Int) ≤ (hi : Int)) (K (.bool true) h) (K (.bool false) h)) (K (.bool false) h) := fun lo hi e => by
    rw [e] at hk
    refine spl (fun h1 => spl (fun h2 => ?_) fun h2 => ?_) fun h1 => ?_
    · rw [decide_eq_true (by omega), decide_eq_true (by omega)] at hk; exact hk
    · rw [decide_eq_true (by omega), decide_eq_false (by omega)] at hk; exact hk
    · rw [decide_eq_false (by omega)] at hk; exact hk
  refine Sx.r01_second.ok _ _ _ _ (spl (fun e => condT (fin 160 191 ?_)) fun e => condF (spl (fun e2 => condT (fin 128 159 ?_)) fun e2 => condF (spl (fun e3 => condT (fin 144 191 ?_)) fun e3 => condF (spl (fun e4 => fin 128 143 ?_) fun e4 => fin 128 191 ?_))))
  all_goals unfold secondP
  · rw [if_pos (by omega)]
  · rw [if_neg (by omega), if_pos (by omega)]
  · rw [if_neg (by omega), if_neg (by omega), if_pos (by omega)]
  · rw [if_neg (by omega), if_neg (by omega), if_neg (by omega), if_pos (by omega)]
  · rw [if_neg (by omega), if_neg (by omega), if_neg (by omega), if_neg (by omega)]
theorem many_calls {x : UInt8} (hk : K (.int .i64 (manyP x.toNat : Int)) h) : HCalls Tryd.prog 29 ⟨[.int .u8 (x.toNat : Int)]⟩ h K := by
  have g : ∀ m : Nat, manyP x.toNat = m → K (.int .i64 (m : Int)) h := fun m e => by rw [← e]; exact hk
  have e0 : (¬ x.toNat < 128) → (¬ (194 ≤ x.toNat ∧ x.toNat ≤ 223)) → (¬ (224 ≤ x.toNat ∧ x.toNat ≤ 239)) → Spl ((x.toNat : Int) ≥ 240) (Spl ((x.toNat : Int) ≤ 244) (K (.int .i64 4) h) (K (.int .i64 0) h)) (K (.int .i64 0) h) := fun h1 h2 h3 =>
    spl (fun h4 => spl (fun h5 => g 4 (by unfold manyP; rw [if_neg h1, if_neg h2, if_neg h3, if_pos (by omega)])) fun h5 => g 0 (by unfold manyP; rw [if_neg h1, if_neg h2, if_neg h3, if_neg (by omega)])) fun h4 => g 0 (by unfold manyP; rw [if_neg h1, if_neg h2, if_neg h3, if_neg (by omega)])
  have e1 : (¬ x.toNat < 128) → (¬ (194 ≤ x.toNat ∧ x.toNat ≤ 223)) → Sx.r01_many.n11 (x.toNat : Int) (fun h => K (.int .i64 0) h) (fun h => K (.int .i64 0) h) (fun y h => K (.int .i64 y) h) h := fun h1 h2 =>
    spl (fun h4 => spl (fun h5 => condT (g 3 (by unfold manyP; rw [if_neg h1, if_neg h2, if_pos (by omega)]))) fun h5 => condF (e0 h1 h2 (by omega))) fun h4 => condF (e0 h1 h2 (by omega))
  exact Sx.r01_many.ok _ _ _ (spl (fun h1 => condT (g 1 (by unfold manyP; rw [if_pos (by omega)]))) fun h1 => condF (spl (fun h4 => spl (fun h5 => condT (g 2 (by unfold manyP; rw [if_neg (by omega), if_pos (by omega)]))) fun h5 => condF (e1 (by omega) (by omega))) fun h4 => condF (e1 (by omega) (by omega))))
theorem byteAt_get {i : Nat} (hi : i < l.length) : byteAt l i = l[i].toNat := by unfold byteAt; rw [getD_get hi]
theorem front_calls (r : Row elB A h b n c l) (hne : l ≠ []) (hk : K (.tuple ⟨[.int .i64 ((frontP l).1 : Int), .bool (frontP l).2]⟩) h) : HCalls Tryd.prog 15 ⟨[.slice b n c]⟩ h K := by
  have hlen := r.len
  have hmx : n ≤ maxLen := Nat.le_trans r.cap r.max
  simp only [maxLen] at hmx
  have h0 : 0 < l.length := List.length_pos_iff.2 hne
  refine Sx.r01_front.ok _ _ _ _ _ (r.idx (by decide) (by omega) rfl fun a hi hA => ldU hA (many_calls (vIntMk ?_)))
  have b0 : byteAt l 0 = (l[(0 : Int).toNat]'hi).toNat := byteAt_get h0
  rw [← b0]
  unfold frontP at hk
  refine spl (fun e => ?_) fun e => ⟨5, ?_⟩
  · rw [if_pos (by omega)] at hk; exact hk
  · rw [if_neg (by omega)] at hk
    have hm4 := many_le (byteAt l 0)
    generalize manyP (byteAt l 0) = m at hk e hm4
    have key : ∀ k i, 1 ≤ i → i + k = 5 → K (.tuple ⟨[.int .i64 ((frontGo l m k i).1 : Int), .bool (frontGo l m k i).2]⟩) h →
        Sx.r01_front.n8_L (fun z4 z5 h => Sx.r01_front.n6 z4 z5 (fun y2 y3 h => K (.tuple ⟨[.int .i64 y2, .bool y3]⟩) h) (fun y2 y3 h => K (.tuple ⟨[.int .i64 y2, .bool y3]⟩) h) h) (fun z4 z5 h => Sx.r01_front.n6 z4 z5 (fun y2 y3 h => K (.tuple ⟨[.int .i64 y2, .bool y3]⟩) h) (fun y2 y3 h => K (.tuple ⟨[.int .i64 y2, .bool y3]⟩) h) h) (fun y2 y3 h => K (.tuple ⟨[.int .i64 y2, .bool y3]⟩) h) (k + 1) b n c (m : Int) (i : Int) h := by
      have fin : ∀ i : Nat, K (.tuple ⟨[.int .i64 (i : Int), .bool (decide (i = m))]⟩) h → Sx.r01_front.n6 (m : Int) (i : Int) (fun y2 y3 h => K (.tuple ⟨[.int .i64 y2, .bool y3]⟩) h) (fun y2 y3 h => K (.tuple ⟨[.int .i64 y2, .bool y3]⟩) h) h := fun i hk => by
        refine spl (fun e => ?_) fun e => ?_
        · rw [decide_eq_true (by omega)] at hk; exact hk
        · rw [decide_eq_false (by omega)] at hk; exact hk
      intro k
      induction k with
      | zero =>
        intro i h1 hi hk
        exact splF (by omega) (fin i hk)
      | succ k ih =>
        intro i h1 hi hk
        rw [frontGo] at hk
        refine spl (fun e1 => spl (fun e2 => ?_) fun e2 => fin i ?_) fun e1 => fin i ?_
        · have hil : i < l.length := by omega
          rw [if_pos ⟨by omega, hil⟩] at hk
          have no : okAt l i = false → K (.tuple ⟨[.int .i64 (i : Int), .bool false]⟩) h := fun e => by rw [if_neg (by rw [e]; decide)] at hk; exact hk
          have yes : okAt l i = true → Rng .i64 ((i : Int) + 1) ∧ Sx.r01_front.n8_L (fun z4 z5 h => Sx.r01_front.n6 z4 z5 (fun y2 y3 h => K (.tuple ⟨[.int .i64 y2, .bool y3]⟩) h) (fun y2 y3 h => K (.tuple ⟨[.int .i64 y2, .bool y3]⟩) h) h) (fun z4 z5 h => Sx.r01_front.n6 z4 z5 (fun y2 y3 h => K (.tuple ⟨[.int .i64 y2, .bool y3]⟩) h) (fun y2 y3 h => K (.tuple ⟨[.int .i64 y2, .bool y3]⟩) h) h) (fun y2 y3 h => K (.tuple ⟨[.int .i64 y2, .bool y3]⟩) h) (k + 1) b n c (m : Int) ((i : Int) + 1) h := fun e => by
            rw [if_pos e] at hk
            exact ⟨rng64 (by omega) (by omega), ih (i + 1) (by omega) (by omega) hk⟩
          refine spl (fun e3 => ?_) fun e3 => ?_
          · have hi1 : i = 1 := by omega
            refine r.idx (by decide) (by omega) rfl fun a1 hi1' hA1 => ldU hA1 (r.idx (by decide) (by omega) rfl fun a2 hi2' hA2 => ldU hA2 (second_calls (vBool_mk ?_)))
            have eo : okAt l i = secondP (l[(0 : Int).toNat]'hi1').toNat (l[(1 : Int).toNat]'hi2').toNat := by
              unfold okAt
              rw [if_pos hi1, byteAt_get (show 0 < l.length by omega), byteAt_get (show 1 < l.length by omega)]; rfl
            rw [← eo]
            refine condB (fun e4 => splF (by omega) (condF (yes e4))) fun e4 => condT (no e4)
          · have eo : okAt l i = (decide (128 ≤ l[i].toNat) && decide (l[i].toNat ≤ 191)) := by
              unfold okAt
              rw [if_neg (by omega), byteAt_get hil]
            refine splT (by omega) (r.idxN hil rfl fun a1 hA1 => ldU hA1 (spl (fun e4 => condT (no ?_)) fun e4 => r.idxN hil rfl fun a2 hA2 => ldU hA2 (spl (fun e5 => condT (no ?_)) fun e5 => condF (yes ?_))))
            · rw [eo, decide_eq_false (by omega)]; rfl
            · rw [eo, decide_eq_false (show ¬ l[i].toNat ≤ 191 by omega), Bool.and_false]
            · rw [eo, decide_eq_true (by omega), decide_eq_true (by omega)]; rfl
        · rw [if_neg (by omega)] at hk; exact hk
        · rw [if_neg (by omega)] at hk; exact hk
    exact key 4 1 (by decide) rfl hk
theorem plain_calls (r : Row elB A h b n c l) (hl : n ≤ 1000000000000) (hk : ∀ h', KB h h' → K (S (plainP l)) h') : HCalls Tryd.prog 9 ⟨[.slice b n c]⟩ h K := by
  refine Sx.r01_plain.ok _ _ _ _ _ ⟨l.length + 1, ?_⟩
  have hln := r.len
  have key : ∀ N (l1 : Bs) b n c h2 ob on oc (out : Bs), l1.length ≤ N → Row elB (Bel h.size) h2 b n c l1 → KB h h2 → OwnF elB h2 h.size 5 ob on oc out → out ++ plainP l1 = plainP l → out.length + 3 * l1.length ≤ 3 * l.length →
      Sx.r01_plain.n6_L (fun z3b z3n z3c h => Sx.r01_plain.n4 z3b z3n z3c (fun y2 h => K (S y2) h) (fun y2 h => K (S y2) h) h) (fun z3b z3n z3c h => Sx.r01_plain.n4 z3b z3n z3c (fun y2 h => K (S y2) h) (fun y2 h => K (S y2) h) h) (fun y2 h => K (S y2) h) (N + 1) b n c ob on oc h2 := by
    intro N
    induction N with
    | zero =>
      intro l1 b n c h2 ob on oc out hN r1 k1 o1 e1 _
      have hn := r1.len
      refine splF (by omega) (strOf_k Tryd.underlying22 Tryd.underlying5 Tryd.underlying9 o1.row (vStrMk ?_))
      have : l1 = [] := List.eq_nil_of_length_eq_zero (by omega)
      subst this
      rw [plainP_nil, List.append_nil] at e1
      rw [e1]; exact hk h2 k1
    | succ N ih =>
      intro l1 b n c h2 ob on oc out hN r1 k1 o1 e1 hle
      have hn := r1.len
      refine spl (fun hpos => ?_) fun hpos => strOf_k Tryd.underlying22 Tryd.underlying5 Tryd.underlying9 o1.row (vStrMk ?_)
      · have hne : l1 ≠ [] := by intro e; subst e; simp at hn; omega
        have hb := front_bd hne
        have hcap := r1.cap
        have ol := o1.own.len
        have k1s := k1.1
        rw [plainP_ne hne] at e1
        have h0 : 0 < l1.length := List.length_pos_iff.2 hne
        -- behind either append
        have next : ∀ h3 b3 n3 c3 (p : Bs), KB h h3 → Row elB (Bel h.size) h3 b n c l1 → OwnF elB h3 h.size 5 b3 n3 c3 (out ++ p) → p = pieceP l1 → p.length ≤ 3 * (frontP l1).1 → Sx.r01_plain.n11 b n c b3 n3 c3 ((frontP l1).1 : Int) (fun z0b z0n z0c z3b z3n z3c h => Sx.r01_plain.n6_L (fun z3b z3n z3c h => Sx.r01_plain.n4 z3b z3n z3c (fun y2 h => K (S y2) h) (fun y2 h => K (S y2) h) h) (fun z3b z3n z3c h => Sx.r01_plain.n4 z3b z3n z3c (fun y2 h => K (S y2) h) (fun y2 h => K (S y2) h) h) (fun y2 h => K (S y2) h) (N + 1) z0b z0n z0c z3b z3n z3c h) (fun z0b z0n z0c z3b z3n z3c h => Sx.r01_plain.n6_L (fun z3b z3n z3c h => Sx.r01_plain.n4 z3b z3n z3c (fun y2 h => K (S y2) h) (fun y2 h => K (S y2) h) h) (fun z3b z3n z3c h => Sx.r01_plain.n4 z3b z3n z3c (fun y2 h => K (S y2) h) (fun y2 h => K (S y2) h) h) (fun y2 h => K (S y2) h) (N + 1) z0b z0n z0c z3b z3n z3c h) (fun z3b z3n z3c h => Sx.r01_plain.n4 z3b z3n z3c (fun y2 h => K (S y2) h) (fun y2 h => K (S y2) h) h) (fun y2 h => K (S y2) h) h3 := by
          intro h3 b3 n3 c3 p k3 r3 o3 ep hp
          refine ⟨⟨by omega, by omega, by omega⟩, ?_⟩
          have rs := r3.sub (lo := (frontP l1).1) (hi := n) (by omega) (Nat.le_refl _) (z := 1) rfl
          rw [List.take_of_length_le (by omega)] at rs
          refine ih (l1.drop (frontP l1).1) _ _ _ h3 b3 n3 c3 (out ++ p) (by simp; omega) rs k3 o3 ?_ (by simp; omega)
          rw [List.append_assoc, ep]; exact e1
        -- U+FFFD
        have bad : ¬ ((frontP l1).2 = true ∧ byteAt l1 0 ≠ 0) → ∀ q, q = h2 → newx q #[(.int .u8 (239 : Int)), (.int .u8 (191 : Int)), (.int .u8 (189 : Int))] 5 fun a54 h55 => SemH Tryd.prog (Builtin.append_ #[22, 22] 22 ⟨[(.slice ob on oc), (.slice (some a54) 3 3)]⟩) h55 fun v56 h57 => vSlice v56 fun s58b s58n s58c => Sx.r01_plain.n11 b n c s58b s58n s58c ((frontP l1).1 : Int) (fun z0b z0n z0c z3b z3n z3c h => Sx.r01_plain.n6_L (fun z3b z3n z3c h => Sx.r01_plain.n4 z3b z3n z3c (fun y2 h => K (S y2) h) (fun y2 h => K (S y2) h) h) (fun z3b z3n z3c h => Sx.r01_plain.n4 z3b z3n z3c (fun y2 h => K (S y2) h) (fun y2 h => K (S y2) h) h) (fun y2 h => K (S y2) h) (N + 1) z0b z0n z0c z3b z3n z3c h) (fun z0b z0n z0c z3b z3n z3c h => Sx.r01_plain.n6_L (fun z3b z3n z3c h => Sx.r01_plain.n4 z3b z3n z3c (fun y2 h => K (S y2) h) (fun y2 h => K (S y2) h) h) (fun z3b z3n z3c h => Sx.r01_plain.n4 z3b z3n z3c (fun y2 h => K (S y2) h) (fun y2 h => K (S y2) h) h) (fun y2 h => K (S y2) h) (N + 1) z0b z0n z0c z3b z3n z3c h) (fun z3b z3n z3c h => Sx.r01_plain.n4 z3b z3n z3c (fun y2 h => K (S y2) h) (fun y2 h => K (S y2) h) h) (fun y2 h => K (S y2) h) h57 := by
          intro hc q hq
          subst hq
          refine newx_var (cs := [.int .u8 239, .int .u8 191, .int .u8 189]) fun a h4 v4 k4 ea es => ?_
          have rv : Row elB (fun k => k = a.block) h4 (some a) 3 3 [239, 191, 189] := Row.of (encB _) (fun j v hv => ⟨a, rfl, v4.cell j hv⟩) rfl (Nat.le_refl _) (by decide) fun x e => by cases e; rfl
          have k4s := k4.1
          refine OwnF.append apdB (o1.kb k4) (rv.less fun k hk _ => by subst hk; exact ⟨v4.lt, fun x hx => by have := o1.hi x hx; omega⟩) (by simp only [maxLen]; omega) (by omega) (by omega) fun b5 c5 h5 o5 g5 => vSliceMk (next h5 b5 _ c5 [239, 191, 189] (Grow.kb0 (k1.trans k4) g5 o1.lo) ?_ o5 ?_ (by simp; omega))
          · exact (r1.kb k4).keep (g5.keep.w.less fun k hk => ⟨hk.2, fun x hx => by have := o1.lo x hx; have : k < h.size := hk.1; omega⟩) fun k hk _ => hk
          · unfold pieceP; rw [if_neg hc]
        refine front_calls r1 hne (tupIB (condB (fun e2 => ?_) fun e2 => ?_))
        · refine condT (r1.idx (by decide) (by omega) rfl fun a hi hA => ldU hA (spl (fun e3 => bad (fun hc => hc.2 ?_) h2 rfl) fun e3 => ⟨⟨by omega, by omega, by omega⟩, ?_⟩))
          · rw [byteAt_get h0]
            have : (l1[(0 : Int).toNat]'hi).toNat = l1[0].toNat := rfl
            omega
          · have rs := r1.sub (lo := 0) (hi := (frontP l1).1) (by omega) (by omega) (z := 1) rfl
            rw [List.drop_zero] at rs
            refine OwnF.append apdB o1 (rs.less fun k hk _ => ⟨Nat.lt_of_lt_of_le hk k1s, fun x hx => by have := o1.lo x hx; have : k < h.size := hk; omega⟩) (by simp only [maxLen]; simp; omega) (by simp; omega) (by omega) fun b5 c5 h5 o5 g5 => vSliceMk (next h5 b5 _ c5 _ (Grow.kb0 k1 g5 o1.lo) ?_ o5 ?_ (by simp; omega))
            · exact r1.keep (g5.keep.w.less fun k hk => ⟨hk.2, fun x hx => by have := o1.lo x hx; have : k < h.size := hk.1; omega⟩) fun k hk _ => hk
            · unfold pieceP
              have hz : byteAt l1 0 ≠ 0 := by
                rw [byteAt_get h0]
                have : (l1[(0 : Int).toNat]'hi).toNat = l1[0].toNat := rfl
                omega
              rw [if_pos ⟨e2, hz⟩]
        · exact condF (bad (fun hc => by rw [e2] at hc; exact absurd hc.1 (by decide)) h2 rfl)
      · have : l1 = [] := List.eq_nil_of_length_eq_zero (by omega)
        subst this
        rw [plainP_nil, List.append_nil] at e1
        rw [e1]; exact hk h2 k1
  exact key l.length l b n c h none 0 0 [] (Nat.le_refl _) r.bel (KB.refl h) (OwnF.none _ _ _) rfl (by simp)
theorem text_calls (r : Row elB A h b n c l) (hl : n ≤ 1000000000000) (hk : ∀ h', KB h h' → K (S (textP l)) h') : HCalls Tryd.prog 5 ⟨[.slice b n c]⟩ h K := by
  have hn := r.len
  have hcap := r.cap
  have no : bomP l = false → Sx.r01_Text.n3 b n c (fun y2 h => K (S y2) h) (fun y2 h => K (S y2) h) h := fun e => by
    unfold textP at hk
    rw [if_neg (by rw [e]; decide)] at hk
    exact plain_calls r hl fun h' k => vStrMk (hk h' k)
  refine Sx.r01_Text.ok _ _ _ _ _ (spl (fun e => ?_) fun e => no (by unfold bomP; rw [decide_eq_false (by omega)]; rfl))
  have g0 := byteAt_get (l := l) (i := 0) (by omega)
  have g1 := byteAt_get (l := l) (i := 1) (by omega)
  have g2 := byteAt_get (l := l) (i := 2) (by omega)
  refine r.idx (by decide) (by omega) rfl fun a0 i0 A0 => ldU A0 (spl (fun e0 => r.idx (by decide) (by omega) rfl fun a1 i1 A1 => ldU A1 (spl (fun e1 => r.idx (by decide) (by omega) rfl fun a2 i2 A2 => ldU A2 (spl (fun e2 => ⟨⟨by decide, by omega, by omega⟩, ?_⟩) fun e2 => no ?_)) fun e1 => no ?_)) fun e0 => no ?_)
  · have rs := r.sub (lo := 3) (hi := n) (by omega) (Nat.le_refl _) (z := 1) rfl
    rw [List.take_of_length_le (by omega)] at rs
    refine plain_calls rs (by simp; omega) fun h' k => vStrMk ?_
    have : textP l = plainP (l.drop 3) := by
      unfold textP
      rw [if_pos]
      have x0 : (l[(0 : Int).toNat]'i0).toNat = l[0].toNat := rfl
      have x1 : (l[(1 : Int).toNat]'i1).toNat = l[1].toNat := rfl
      have x2 : (l[(2 : Int).toNat]'i2).toNat = l[2].toNat := rfl
      unfold bomP
      rw [decide_eq_true (by omega), decide_eq_true (show byteAt l 0 = 239 by omega), decide_eq_true (show byteAt l 1 = 187 by omega), decide_eq_true (show byteAt l 2 = 191 by omega)]; rfl
    rw [← this]; exact hk h' k
  · have x2 : (l[(2 : Int).toNat]'i2).toNat = l[2].toNat := rfl
    unfold bomP; rw [decide_eq_false (show ¬ byteAt l 2 = 191 by omega)]; simp
  · have x1 : (l[(1 : Int).toNat]'i1).toNat = l[1].toNat := rfl
    unfold bomP; rw [decide_eq_false (show ¬ byteAt l 1 = 187 by omega)]; simp
  · have x0 : (l[(0 : Int).toNat]'i0).toNat = l[0].toNat := rfl
    unfold bomP; rw [decide_eq_false (show ¬ byteAt l 0 = 239 by omega)]; simp
end
end Go.Proofs
