/- utf: the walks of begins and width. No condition but that the library's tables hold what they hold. -/
import Derived.Test.YtodponooeepilaaDoorUfA
import Derived.Test.YtodponooeepilaaDoorUtW
namespace Go.Proofs
open Go Go.Sh
set_option linter.unusedVariables false
set_option maxRecDepth 100000
section
variable {A : Nat → Prop} {h : H} {b : Option Addr} {n c : Nat} {l : Bs} {K : Value → H → Prop}

theorem begins_calls (u : U8 h) (r : Row elB A h b n c l) (h2 : 1 ≤ n) (h3 : n ≤ 3) (hk : ∀ h', KB h h' → K (.bool (begP l)) h') : HCalls Tryd.prog 31 ⟨[.slice b n c]⟩ h K := by
  have hn := r.len
  refine Sx.utf_begins.ok _ _ _ _ _ (newx_var (cs := [.int .u8 128, .int .u8 144, .int .u8 160]) fun a8 h8 v8 k8 e8 s8 => ⟨4, ?_⟩)
  have r8 : Row elB (fun k => k = a8.block) h8 (some a8) 3 3 [128, 144, 160] := Row.of (encB _) (fun j v hv => ⟨a8, rfl, v8.cell j hv⟩) rfl (Nat.le_refl _) (by decide) fun x e => by cases e; rfl
  have key : ∀ k i h5, i + k = 3 → KB h8 h5 → begP l = (([128, 144, 160] : Bs).drop i).any (fun x => begGo l x (4 - l.length)) →
      Sx.utf_begins.n6_L (fun h => K (.bool false) h) (fun h => K (.bool false) h) (fun y2 h => K (.bool y2) h) (k + 1) b n c (some a8) 3 3 (3 : Int) (i : Int) h5 := by
    intro k
    induction k with
    | zero =>
      intro i h5 hi k5 he
      have : i = 3 := by omega
      subst this
      rw [show ([128, 144, 160] : Bs).drop 3 = [] from rfl, List.any_nil] at he
      refine splF (by decide) (vBool_mk (condF ?_))
      rw [he] at hk
      exact hk h5 (k8.trans k5)
    | succ k ih =>
      intro i h5 hi k5 he
      have hil : i < ([128, 144, 160] : Bs).length := by show i < 3; omega
      rw [List.drop_eq_getElem_cons hil, List.any_cons] at he
      have k05 := k8.trans k5
      refine splT (by omega) (vBool_mk (condT ((r8.kb k5).idxN hil rfl fun a hA => ldU hA (newx_var (cs := []) fun a6 h6 v6 k6 e6 s6 => ?_))))
      generalize hx : ([128, 144, 160] : Bs)[i] = x at he
      have k06 := k05.trans k6
      refine Row.appendF (A := fun _ => True) apdB (⟨rfl, Nat.le_refl _, by decide, fun i x hx => by simp at hx⟩ : Row elB (fun _ => True) h6 (some a6) 0 0 []) (.inr (by omega)) (r.kb k06) (fun h => by cases h) (by simp only [maxLen]; omega) (by omega) (fun hz => absurd hz (by omega)) fun c7 h7 _ o7 k7 => vSliceMk ?_
      -- byte by byte
      have grow : ∀ k2 (m : Bs) h9 b9 n9 c9, m.length + k2 = 4 → KB h5 h9 → OwnF elB h9 h6.size 5 b9 n9 c9 m → (begGo l x (4 - l.length) = begGo m x k2) →
          Sx.utf_begins.n15_L (fun z0b z0n z0c z8b z8n z8c z9 z10 h => Sx.utf_begins.n10 z0b z0n z0c z8b z8n z8c z9 z10 (fun z0b z0n z0c z8b z8n z8c z9 z10 h => Sx.utf_begins.n6_L (fun h => K (.bool false) h) (fun h => K (.bool false) h) (fun y2 h => K (.bool y2) h) (k + 1) z0b z0n z0c z8b z8n z8c z9 z10 h) (fun h => K (.bool false) h) (fun y2 h => K (.bool y2) h) h)
            (fun z0b z0n z0c z8b z8n z8c z9 z10 h => Sx.utf_begins.n10 z0b z0n z0c z8b z8n z8c z9 z10 (fun z0b z0n z0c z8b z8n z8c z9 z10 h => Sx.utf_begins.n6_L (fun h => K (.bool false) h) (fun h => K (.bool false) h) (fun y2 h => K (.bool y2) h) (k + 1) z0b z0n z0c z8b z8n z8c z9 z10 h) (fun h => K (.bool false) h) (fun y2 h => K (.bool y2) h) h)
            (fun z0b z0n z0c z8b z8n z8c z9 z10 h => Sx.utf_begins.n10 z0b z0n z0c z8b z8n z8c z9 z10 (fun z0b z0n z0c z8b z8n z8c z9 z10 h => Sx.utf_begins.n6_L (fun h => K (.bool false) h) (fun h => K (.bool false) h) (fun y2 h => K (.bool y2) h) (k + 1) z0b z0n z0c z8b z8n z8c z9 z10 h) (fun h => K (.bool false) h) (fun y2 h => K (.bool y2) h) h)
            (fun h => K (.bool false) h) (fun y2 h => K (.bool y2) h) (k2 + 1) b n c (x.toNat : Int) b9 n9 c9 (some a8) 3 3 (3 : Int) (i : Int) h9 := by
        intro k2
        induction k2 with
        | zero =>
          intro m h9 b9 n9 c9 hm k9 o9 hb
          have hn9 := o9.own.len
          rw [hb, show begGo m x 0 = false from rfl, Bool.false_or] at he
          exact splF (by omega) ⟨rng64 (by omega) (by omega), ih (i + 1) h9 (by omega) (k5.trans k9) he⟩
        | succ k2 ih2 =>
          intro m h9 b9 n9 c9 hm k9 o9 hb
          have hn9 := o9.own.len
          have k9s := k9.1
          have k6s := k6.1
          refine splT (by omega) (newx_var (cs := [.int .u8 (x.toNat : Int)]) fun aa ha va ka ea sa => ?_)
          have ra : Row elB (fun k => k = aa.block) ha (some aa) 1 1 [x] := Row.of (encB _) (fun j v hv => ⟨aa, rfl, va.cell j hv⟩) rfl (Nat.le_refl _) (by decide) fun x e => by cases e; rfl
          have kas := ka.1
          refine OwnF.append apdB (o9.kb ka) (ra.less fun k hk _ => by subst hk; exact ⟨va.lt, fun x hx => by have := o9.hi x hx; omega⟩) (by simp only [maxLen]; omega) (by omega) (by omega) fun bb cb hb' ob gb => vSliceMk ?_
          have k5b : KB h5 hb' := Grow.kb0 (k9.trans ka) gb fun y hy => by have := o9.lo y hy; omega
          refine decode_calls (u.kb (k05.trans k5b)) ob.row fun hd kd => tupII ?_
          have k5d := k5b.trans kd
          have hbg : begGo m x (k2 + 1) = (oneP (m ++ [x]) || begGo (m ++ [x]) x k2) := rfl
          have yes : oneP (m ++ [x]) = true → K (.bool true) hd := fun e => by
            rw [hb, hbg, e, Bool.true_or, Bool.true_or] at he
            rw [he] at hk
            exact hk hd (k05.trans k5d)
          have no := fun (e : oneP (m ++ [x]) = false) => ih2 (m ++ [x]) hd bb _ cb (by simp; omega) k5d (ob.kb kd) (by rw [hb, hbg, e, Bool.false_or])
          unfold oneP at yes no
          have hml : (m ++ [x]).length = n9 + 1 := by simp; omega
          rw [hml] at yes no
          refine spl (fun e => ?_) fun e => ?_
          · by_cases e1 : (decG (m ++ [x])).1 = 65533
            · have ee : (decide ((decG (m ++ [x])).2 = n9 + 1) && !decide ((decG (m ++ [x])).1 = 65533)) = false := by rw [decide_eq_true e1]; simp
              rw [ee, Bool.false_or] at yes no
              refine splT (by omega) (strOf_k Tryd.underlying22 Tryd.underlying5 Tryd.underlying9 (ob.kb kd).row (vStrMk (spl (fun e2 => yes (decide_eq_true e2)) fun e2 => no (decide_eq_false e2))))
            · refine splF (by omega) (yes ?_)
              rw [decide_eq_true (show (decG (m ++ [x])).2 = n9 + 1 by omega), decide_eq_false e1]; rfl
          · have ee : (decide ((decG (m ++ [x])).2 = n9 + 1) && !decide ((decG (m ++ [x])).1 = 65533)) = false := by rw [decide_eq_false (show ¬ (decG (m ++ [x])).2 = n9 + 1 by omega)]; rfl
            rw [ee, Bool.false_or] at yes no
            exact strOf_k Tryd.underlying22 Tryd.underlying5 Tryd.underlying9 (ob.kb kd).row (vStrMk (spl (fun e2 => yes (decide_eq_true e2)) fun e2 => no (decide_eq_false e2)))
      exact ⟨4 - l.length + 1, grow (4 - l.length) l h7 _ _ c7 (by omega) (k6.trans k7) (by simpa using o7) rfl⟩
  exact key 3 0 h8 rfl (KB.refl _) rfl
theorem width_calls (u : U8 h) (r : Row elB A h b n c l) (hne : l ≠ []) (hk : ∀ h', KB h h' → K (.tuple ⟨[.int .i64 ((frontP l).1 : Int), .bool (frontP l).2]⟩) h') : HCalls Tryd.prog 21 ⟨[.slice b n c]⟩ h K := by
  have hn := r.len
  have hcap := r.cap
  have h0 : 1 ≤ n := by have := List.length_pos_iff.2 hne; omega
  rw [← width_front hne] at hk
  unfold widthF at hk
  refine Sx.utf_width.ok _ _ _ _ _ (decode_calls u r fun h1 k1 => tupII ?_)
  have good : ((decG l).1 ≠ 65533 ∨ (decG l).2 ≠ 1) → K (.tuple ⟨[.int .i64 ((decG l).2 : Int), .bool true]⟩) h1 := fun e => by
    rw [if_pos e] at hk; exact hk h1 k1
  refine spl (fun e1 => spl (fun e2 => ?_) fun e2 => good (.inr (by omega))) fun e1 => good (.inl (by omega))
  rw [if_neg (by omega)] at hk
  have em : (if (n : Int) < (3 : Int) then (n : Int) else (3 : Int)) = ((min 3 l.length : Nat) : Int) := by split <;> omega
  show Sx.utf_width.n6 b n c (if (n : Int) < (3 : Int) then (n : Int) else (3 : Int)) _ _ _
  rw [em]
  refine ⟨min 3 l.length + 1, ?_⟩
  have key : ∀ k h2, 1 ≤ k → k ≤ 3 → k ≤ n → KB h1 h2 → (∀ h', KB h h' → K (.tuple ⟨[.int .i64 ((widGo l k).1 : Int), .bool (widGo l k).2]⟩) h') →
      Sx.utf_width.n7_L (fun h => K (.tuple ⟨[.int .i64 1, .bool false]⟩) h) (fun h => K (.tuple ⟨[.int .i64 1, .bool false]⟩) h) (fun y2 y3 h => K (.tuple ⟨[.int .i64 y2, .bool y3]⟩) h) (k + 1) b n c (k : Int) h2 := by
    intro k
    induction k with
    | zero => intro h2 h; omega
    | succ k ih =>
      intro h2 hk1 hk3 hkn k2 hk
      unfold widGo at hk
      refine spl (fun e => ⟨⟨by omega, by omega, by omega⟩, ?_⟩) fun e => ?_
      · rw [if_pos (by omega)] at hk
        have rs := (r.kb (k1.trans k2)).sub (lo := 0) (hi := k + 1) (by omega) (by omega) (z := 1) rfl
        rw [List.drop_zero] at rs
        refine begins_calls (u.kb (k1.trans k2)) rs (by omega) (by omega) fun h3 k3 => vBool_mk (condB (fun eb => ?_) fun eb => ⟨rng64 (by omega) (by omega), ?_⟩)
        · rw [if_pos eb] at hk
          exact hk h3 ((k1.trans k2).trans k3)
        · rw [if_neg (by rw [eb]; decide)] at hk
          have ek : ((k + 1 : Nat) : Int) - 1 = (k : Int) := by omega
          rw [ek]
          exact ih h3 (by omega) (by omega) (by omega) (k2.trans k3) hk
      · rw [if_neg (by omega)] at hk
        exact hk h2 (k1.trans k2)
  exact key (min 3 l.length) h1 (by omega) (by omega) (by omega) (KB.refl _) hk
end
end Go.Proofs
