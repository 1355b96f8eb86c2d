/- utf: the walk of Text. No condition but that the library's tables hold what they hold. -/
import Derived.Test.YtodponooeepilaaDoorUfD
namespace Go.Proofs
open Go Go.Sh
set_option linter.unusedVariables false
set_option maxRecDepth 100000
theorem bom_take {l : Bs} (h : 3 ≤ l.length) : bomP l = decide (l.take 3 = [239, 187, 191]) := by
  match l, h with
  | x :: y :: z :: t, _ =>
    unfold bomP byteAt
    rw [Bool.eq_iff_iff]
    simp only [List.length_cons, List.getD_cons_zero, List.getD_cons_succ, Bool.and_eq_true, decide_eq_true_eq, List.take_succ_cons, List.take_zero, List.cons.injEq, and_true]
    exact ⟨fun ⟨_, a, b, c⟩ => ⟨UInt8.toNat_inj.1 a, UInt8.toNat_inj.1 b, UInt8.toNat_inj.1 c⟩, fun ⟨a, b, c⟩ => ⟨by omega, by rw [a]; rfl, by rw [b]; rfl, by rw [c]; rfl⟩⟩
  | [_, _], h => simp at h
  | [_], h => simp at h
  | [], h => simp at h
theorem Bld.kb {B g : Nat} {l : Bs} {h h' : H} (bl : Bld B g l h) (k : KB h h') : Bld B g l h' := fun w hw => by
  have old : ∀ (i : Nat) (o : Obj), h[i]? = some o → w.heap[i]? = some o := fun i o e => by rw [hw, k.2 i (Array.getElem?_eq_some_iff.1 e).1]; exact e
  rcases bl { w with heap := h } rfl with ⟨hB, v, hb, ⟨hlen, hown⟩, hne⟩ | ⟨hB, v, hb, ⟨hlen, hown⟩, hne⟩
  · exact .inl ⟨hB, v, old _ _ hb, ⟨hlen, hown.imp id fun ⟨g', cap, cur, fz, e1, e2, e3, e4⟩ => ⟨g', cap, cur, fz, e1, e2, old _ _ e3, e4⟩⟩, hne⟩
  · exact .inr ⟨hB, v, old _ _ hb, ⟨hlen, hown.imp id fun ⟨g', cap, cur, fz, e1, e2, e3, e4⟩ => ⟨g', cap, cur, fz, e1, e2, old _ _ e3, e4⟩⟩, hne⟩
theorem enc_err : Lib.encodeRune 65533 = [239, 191, 189] := by decide
section
variable {A : Nat → Prop} {h : H} {b : Option Addr} {n c : Nat} {l : Bs} {K : Value → H → Prop}
theorem text2_calls (u : U8 h) (r : Row elB A h b n c l) (hl : n ≤ 1000000000000) (hk : ∀ h', KB h h' → K (S (textP l)) h') : HCalls Tryd.prog 10 ⟨[.slice b n c]⟩ h K := by
  have hln := r.len
  have hcp := r.cap
  refine Sx.utf_Text.ok _ _ _ _ _ (bld_new fun h1 bl1 k1 => ?_)
  have loop : ∀ P0 : Bs, (∀ h', KB h h' → K (S P0) h') → ∀ N (l1 : Bs) b n c h2 (out : Bs), l1.length ≤ N → Row elB (Bel h.size) h2 b n c l1 → KB h h2 → Bld h.size h.size out h2 → out ++ plainP l1 = P0 → out.length + 3 * l1.length ≤ 3000000000000 →
      Sx.utf_Text.n7_L (fun z3 h => Sx.utf_Text.n5 z3 (fun y2 h => K (S y2) h) (fun y2 h => K (S y2) h) h) (fun z3 h => Sx.utf_Text.n5 z3 (fun y2 h => K (S y2) h) (fun y2 h => K (S y2) h) h) (fun y2 h => K (S y2) h) (N + 1) b n c (Ad h.size) h2 := by
    intro P0 hk N
    have fin : ∀ h2 (out : Bs), KB h h2 → Bld h.size h.size out h2 → out = P0 → Sx.utf_Text.n5 (Ad h.size) (fun y2 h => K (S y2) h) (fun y2 h => K (S y2) h) h2 := fun h2 out k2 bl e =>
      bld_string bl k2.1 fun h3 _ k3 => vStrMk (by rw [e]; exact hk h3 (SK.trans k2 k3))
    induction N with
    | zero =>
      intro l1 b n c h2 out hN r1 k2 bl he hle
      have hn := r1.len
      have : l1 = [] := List.eq_nil_of_length_eq_zero (by omega)
      subst this
      rw [plainP_nil, List.append_nil] at he
      exact splF (by omega) (fin h2 out k2 bl he)
    | succ N ih =>
      intro l1 b n c h2 out hN r1 k2 bl he hle
      have hn := r1.len
      have hcap := r1.cap
      refine spl (fun hpos => ?_) fun hpos => fin h2 out k2 bl ?_
      · have hne : l1 ≠ [] := by intro e; subst e; simp at hn; omega
        have hb := front_bd hne
        rw [plainP_ne hne] at he
        have h0 : 0 < l1.length := List.length_pos_iff.2 hne
        refine width_calls (u.kb k2) r1 hne fun h3 k3 => tupIB ?_
        have r3 := r1.kb k3
        have bl3 := bl.kb k3
        have k03 := k2.trans k3
        have next : ∀ h4 (p : Bs), SK (Bel h.size) h3 h4 → Bld h.size h.size (out ++ p) h4 → p = pieceP l1 → p.length ≤ 3 * (frontP l1).1 → (0 ≤ ((frontP l1).1 : Int) ∧ ((frontP l1).1 : Int) ≤ (n : Int) ∧ (n : Int) ≤ (c : Int)) ∧
            Sx.utf_Text.n7_L (fun z3 h => Sx.utf_Text.n5 z3 (fun y2 h => K (S y2) h) (fun y2 h => K (S y2) h) h) (fun z3 h => Sx.utf_Text.n5 z3 (fun y2 h => K (S y2) h) (fun y2 h => K (S y2) h) h) (fun y2 h => K (S y2) h) (N + 1) (if c = Int.toNat ((frontP l1).1 : Int) then b else Option.map (fun q => q.add (Int.toNat ((frontP l1).1 : Int) * 1)) b) (Int.toNat (n : Int) - Int.toNat ((frontP l1).1 : Int)) (c - Int.toNat ((frontP l1).1 : Int)) (Ad h.size) h4 := by
          intro h4 p k4 bl4 ep hp
          refine ⟨⟨by omega, by omega, by omega⟩, ?_⟩
          have r4 : Row elB (Bel h.size) h4 b n c l1 := r3.keep (k4.w.less fun k hk => hk.1) fun k hk _ => hk
          have rs := r4.sub (lo := (frontP l1).1) (hi := n) (by omega) (Nat.le_refl _) (z := 1) rfl
          rw [List.take_of_length_le (by omega)] at rs
          refine ih (l1.drop (frontP l1).1) _ _ _ h4 (out ++ p) (by simp; omega) rs (SK.trans k03 k4) bl4 (by rw [List.append_assoc, ep]; exact he) (by simp; omega)
        have bad : ¬ ((frontP l1).2 = true ∧ byteAt l1 0 ≠ 0) → ∀ h4, SK (Bel h.size) h3 h4 → Bld h.size h.size (out ++ Lib.encodeRune 65533) h4 → _ := fun hc h4 k4 bl4 => next h4 [239, 191, 189] k4 (by rw [← enc_err]; exact bl4) (by unfold pieceP; rw [if_neg hc]) (by simp; omega)
        refine condB (fun e2 => condT (r3.idx (by decide) (by omega) rfl fun a hi hA => ldU hA (spl (fun e3 => bld_rune ⟨by decide, by decide⟩ bl3 k03.1 (by omega) fun h4 bl4 k4 => tupIX (bad (fun hc => hc.2 ?_) h4 k4 bl4)) fun e3 => ⟨⟨by omega, by omega, by omega⟩, ?_⟩))) fun e2 => condF (bld_rune ⟨by decide, by decide⟩ bl3 k03.1 (by omega) fun h4 bl4 k4 => tupIX (bad (fun hc => by rw [e2] at hc; exact absurd hc.1 (by decide)) h4 k4 bl4))
        · rw [byteAt_get h0]
          have : (l1[(0 : Int).toNat]'hi).toNat = l1[0].toNat := rfl
          omega
        · have rs := r3.sub (lo := 0) (hi := (frontP l1).1) (by omega) (by omega) (z := 1) rfl
          rw [List.drop_zero] at rs
          have hz : byteAt l1 0 ≠ 0 := by
            rw [byteAt_get h0]
            have : (l1[(0 : Int).toNat]'hi).toNat = l1[0].toNat := rfl
            omega
          refine bld_write rs (fun e => by have := congrArg List.length e; rw [List.length_take, List.length_nil] at this; omega) (fun k hk => hk) bl3 k03.1 (by simp; omega) fun h4 bl4 k4 => tupIX (next h4 _ k4 bl4 ?_ (by simp; omega))
          unfold pieceP
          rw [if_pos ⟨e2, hz⟩]
      · have : l1 = [] := List.eq_nil_of_length_eq_zero (by omega)
        subst this
        rw [plainP_nil, List.append_nil] at he; exact he
  have hbl : h.size ≤ h1.size := k1.1
  have r1 := r.bel.kb k1
  have plain : ∀ (l1 : Bs) b n c h2, KB h1 h2 → Row elB (Bel h.size) h2 b n c l1 → l1.length ≤ 1000000000000 → (∀ h', KB h h' → K (S (plainP l1)) h') → Sx.utf_Text.n4 b n c (Ad h.size) (fun y2 h => K (S y2) h) (fun y2 h => K (S y2) h) h2 := fun l1 b n c h2 k2 r2 hl2 hk2 =>
    ⟨l1.length + 1, loop (plainP l1) hk2 l1.length l1 b n c h2 [] (Nat.le_refl _) r2 (k1.trans k2) (bl1.kb k2) rfl (by simp; omega)⟩
  have no : bomP l = false → ∀ h2, KB h1 h2 → Sx.utf_Text.n4 b n c (Ad h.size) (fun y2 h => K (S y2) h) (fun y2 h => K (S y2) h) h2 := fun e h2 k2 => plain l b n c h2 k2 (r1.kb k2) (by omega) (by
    unfold textP at hk
    rw [if_neg (by rw [e]; decide)] at hk
    exact hk)
  refine spl (fun e => ⟨⟨by decide, by decide, by omega⟩, ?_⟩) fun e => no (by unfold bomP; rw [decide_eq_false (by omega)]; rfl) h1 (KB.refl _)
  have rs := r1.sub (lo := 0) (hi := 3) (by omega) (by omega) (z := 1) rfl
  rw [List.drop_zero] at rs
  refine strOf_k Tryd.underlying22 Tryd.underlying5 Tryd.underlying9 rs (vStrMk (spl (fun e2 => ⟨⟨by decide, by omega, by omega⟩, ?_⟩) fun e2 => no (by rw [bom_take (by omega), decide_eq_false e2]) h1 (KB.refl _)))
  have r3 := r1.sub (lo := 3) (hi := n) (by omega) (Nat.le_refl _) (z := 1) rfl
  rw [List.take_of_length_le (by omega)] at r3
  refine plain (l.drop 3) _ _ _ h1 (KB.refl _) r3 (by simp; omega) ?_
  unfold textP at hk
  rw [if_pos (by rw [bom_take (by omega), decide_eq_true e2])] at hk
  exact hk
end
end Go.Proofs
