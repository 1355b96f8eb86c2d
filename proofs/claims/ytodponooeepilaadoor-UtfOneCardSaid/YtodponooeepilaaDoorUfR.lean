/- utf: the chapter's Newlines; comparing lists of texts; a builtin's call. No condition. -/
import Derived.Test.YtodponooeepilaaDoorUfP
import Derived.Test.YtodponooeepilaaDoorUfQ
namespace Go.Proofs
open Go Go.Sh
set_option linter.unusedVariables false
set_option maxRecDepth 100000
theorem apdS : Apd Tryd.prog elStr 30 9 16 := apd_of (sz := 1) (by kernel_rfl) rfl
section
variable {h : H} {s : Bs} {K : Value → H → Prop}
/-- one byte behind one's own row -/
theorem byte_app {h0 h : H} {ob : Option Addr} {on oc : Nat} {out : Bs} {x : UInt8} {K : Value → H → Prop} (o : OwnF elB h h0.size 5 ob on oc out) (k0 : KB h0 h) (hl : out.length ≤ 1000000000000)
    (hk : ∀ b' c' h', OwnF elB h' h0.size 5 b' (on + 1) c' (out ++ [x]) → KB h0 h' → K (.slice b' (on + 1) c') h') :
    newx h #[(.int .u8 (x.toNat : Int))] 5 fun a h1 => SemH Tryd.prog (Builtin.append_ #[22, 22] 22 ⟨[(.slice ob on oc), (.slice (some a) 1 1)]⟩) h1 K := by
  refine newx_var (cs := [.int .u8 (x.toNat : Int)]) fun a h4 v4 k4 ea es => ?_
  have rv : Row elB (fun k => k = a.block) h4 (some a) 1 1 [x] := Row.of (encB _) (fun j v hv => ⟨a, rfl, v4.cell j hv⟩) rfl (Nat.le_refl _) (by decide) fun x e => by cases e; rfl
  have k4s := k4.1
  have ol := o.own.len
  have k0s := k0.1
  refine OwnF.append apdB (o.kb k4) (rv.less fun k hk _ => by subst hk; exact ⟨v4.lt, fun x hx => by have := o.hi x hx; omega⟩) (by simp only [maxLen]; omega) (by omega) (by omega) fun b5 c5 h5 o5 g5 => hk b5 c5 h5 o5 (Grow.kb0 (k0.trans k4) g5 o.lo)
/-- one text behind one's own row -/
theorem str_app {h : H} {base : Nat} {ob : Option Addr} {on oc : Nat} {out : List Bs} {x : Bs} {K : Value → H → Prop} (o : OwnF elStr h base 9 ob on oc out) (k0s : base ≤ h.size) (hl : out.length ≤ 1000000000000) (hx : x.length ≤ maxLen)
    (hk : ∀ b' c' h', OwnF elStr h' base 9 b' (on + 1) c' (out ++ [x]) → SK (Bel base) h h' → K (.slice b' (on + 1) c') h') :
    newx h #[(S x)] 9 fun a h1 => SemH Tryd.prog (Builtin.append_ #[30, 30] 30 ⟨[(.slice ob on oc), (.slice (some a) 1 1)]⟩) h1 K := by
  refine newx_var (cs := [S x]) fun a h4 v4 k4 ea es => ?_
  have rv : Row elStr (fun k => k = a.block) h4 (some a) 1 1 [x] := v4.row1 ⟨rfl, hx⟩ rfl
  have k4s := k4.1
  have ol := o.own.len
  refine OwnF.append apdS (o.kb k4) (rv.less fun k hk _ => by subst hk; exact ⟨v4.lt, fun x hx => by have := o.hi x hx; omega⟩) (by simp only [maxLen]; omega) (by omega) (by omega) fun b5 c5 h5 o5 g5 => hk b5 c5 h5 o5 ⟨Nat.le_trans k4.1 g5.size, fun k hk => ?_⟩
  have hk : k < base := hk
  exact (g5.old k (by omega) fun x e => by have := o.lo x e; omega).trans (k4.2 k (show k < h.size by omega))
theorem newlinesR_calls (hs : s.length ≤ 1000000000) (hk : ∀ h', KB h h' → K (S (newP s)) h') : HCalls Tryd.prog 17 ⟨[S s]⟩ h K := by
  refine Sx.r01_Newlines.ok _ _ _ ⟨s.length + 1, ?_⟩
  have key : ∀ N i h2 ob on oc (out : Bs), s.length ≤ i + N → i ≤ s.length → KB h h2 → OwnF elB h2 h.size 5 ob on oc out → out ++ newP (s.drop i) = newP s → out.length ≤ i →
      Sx.r01_Newlines.n7_L (fun z3b z3n z3c h => Sx.r01_Newlines.n4 z3b z3n z3c (fun y2 h => K (S y2) h) (fun y2 h => K (S y2) h) h) (fun z3b z3n z3c h => Sx.r01_Newlines.n4 z3b z3n z3c (fun y2 h => K (S y2) h) (fun y2 h => K (S y2) h) h) (fun y2 h => K (S y2) h) (N + 1) s ob on oc (i : Int) h2 := by
    intro N
    have fin : ∀ i h2 ob on oc (out : Bs), s.length ≤ i → KB h h2 → OwnF elB h2 h.size 5 ob on oc out → out ++ newP (s.drop i) = newP s →
        Sx.r01_Newlines.n4 ob on oc (fun y2 h => K (S y2) h) (fun y2 h => K (S y2) h) h2 := by
      intro i h2 ob on oc out hle k2 o2 e
      refine strOf_k Tryd.underlying22 Tryd.underlying5 Tryd.underlying9 o2.row (vStrMk ?_)
      rw [List.drop_of_length_le hle] at e
      rw [show newP [] = [] from rfl, List.append_nil] at e
      rw [e]; exact hk h2 k2
    induction N with
    | zero =>
      intro i h2 ob on oc out hN hi k2 o2 e ho
      exact splF (by omega) (fin i h2 ob on oc out (by omega) k2 o2 e)
    | succ N ih =>
      intro i h2 ob on oc out hN hi k2 o2 e ho
      refine spl (fun hlt => ?_) fun hge => fin i h2 ob on oc out (by omega) k2 o2 e
      have hi' : i < s.length := by omega
      have hd : s.drop i = s[i] :: s.drop (i + 1) := List.drop_eq_getElem_cons hi'
      rw [hd] at e
      have gi : (List.getD s (Int.toNat (i : Int)) 0) = s[i] := getDN hi'
      refine ⟨⟨by omega, by omega⟩, ?_⟩
      rw [gi]
      refine spl (fun e13 => ?_) fun e13 => ⟨⟨by omega, by omega⟩, ?_⟩
      · have x13 : s[i] = 13 := UInt8.toNat_inj.1 (by have : (13 : UInt8).toNat = 13 := rfl; omega)
        rw [x13] at e
        refine byte_app (x := 10) o2 k2 (by omega) fun b5 c5 h5 o5 k5 => vSliceMk ⟨rng64 (by omega) (by omega), spl (fun h1 => ?_) fun h1 => ?_⟩
        · have h1' : i + 1 < s.length := by omega
          have hd2 : s.drop (i + 1) = s[i + 1] :: s.drop (i + 2) := List.drop_eq_getElem_cons h1'
          have g1 : (List.getD s (Int.toNat ((i : Int) + 1)) 0) = s[i + 1] := by
            rw [show ((i : Int) + 1) = ((i + 1 : Nat) : Int) by omega]; exact getDN h1'
          refine ⟨rng64 (by omega) (by omega), ⟨by omega, by omega⟩, ?_⟩
          rw [g1]
          refine spl (fun e10 => ⟨rng64 (by omega) (by omega), rng64 (by omega) (by omega), ?_⟩) fun e10 => ⟨rng64 (by omega) (by omega), ?_⟩
          · have x10 : s[i + 1] = 10 := UInt8.toNat_inj.1 (by have : (10 : UInt8).toNat = 10 := rfl; omega)
            rw [hd2, x10, newP_crlf] at e
            have := ih (i + 2) h5 b5 _ c5 (out ++ [10]) (by omega) (by omega) k5 o5 (by rw [List.append_assoc]; exact e) (by simp; omega)
            rw [show ((i + 2 : Nat) : Int) = (i : Int) + 1 + 1 by omega] at this
            exact this
          · rw [newP_cr (by rw [hd2]; simp only [List.head?_cons, ne_eq, Option.some.injEq]; intro hh; rw [hh] at e10; exact e10 rfl)] at e
            exact ih (i + 1) h5 b5 _ c5 (out ++ [10]) (by omega) (by omega) k5 o5 (by rw [List.append_assoc]; exact e) (by simp; omega)
        · rw [newP_cr (by rw [List.drop_of_length_le (by omega)]; simp)] at e
          exact ⟨rng64 (by omega) (by omega), ih (i + 1) h5 b5 _ c5 (out ++ [10]) (by omega) (by omega) k5 o5 (by rw [List.append_assoc]; exact e) (by simp; omega)⟩
      · rw [newP_ne _ (fun e => e13 (by rw [e]; rfl))] at e
        refine byte_app o2 k2 (by omega) fun b5 c5 h5 o5 k5 => vSliceMk ⟨rng64 (by omega) (by omega), ih (i + 1) h5 b5 _ c5 (out ++ [s[i]]) (by omega) (by omega) k5 o5 (by rw [List.append_assoc]; exact e) (by simp; omega)⟩
  exact key s.length 0 h none 0 0 [] (by omega) (by omega) (KB.refl h) (OwnF.none _ _ _) (by rw [List.drop_zero]; rfl) (by simp)
variable {A B : Nat → Prop} {b b2 : Option Addr} {n c n2 c2 : Nat} {l l2 : List Bs}
theorem sameS_calls (r : Row elStr A h b n c l) (r2 : Row elStr B h b2 n2 c2 l2) (hk : K (.bool (decide (l = l2))) h) :
    HCalls Tryd.prog 18 ⟨[.slice b n c, .slice b2 n2 c2]⟩ h K := by
  refine Sx.r00_SameStrings.ok _ _ _ _ _ _ _ _ ?_
  have hl := r.len
  have hl2 := r2.len
  have hm : n ≤ maxLen := Nat.le_trans r.cap r.max
  simp only [maxLen] at hm
  refine spl (fun hn => ⟨n + 1, ?_⟩) fun hn => ?_
  · have hn' : n = n2 := by omega
    have key : ∀ k i, i + k = n → (∀ j (h1 : j < l.length) (h2 : j < l2.length), j < i → l[j] = l2[j]) →
        Sx.r00_SameStrings.n7_L (fun h => K (.bool true) h) (fun h => K (.bool true) h) (fun y4 h => K (.bool y4) h) (k + 1) b n c b2 n2 c2 (i : Int) h := by
      intro k
      induction k with
      | zero =>
        intro i hi hall
        refine splF (by omega) ?_
        have : l = l2 := List.ext_getElem (by omega) fun j h1 h2 => hall j h1 h2 (by omega)
        rw [decide_eq_true this] at hk
        exact hk
      | succ k ih =>
        intro i hi hall
        refine splT (by omega) (r.idxN (by omega) rfl fun a hA => ldS hA fun hR => r2.idxN (i := i) (by omega) rfl fun a2 hA2 => ldS hA2 fun hR2 => ?_)
        refine spl (fun hd => ⟨rng64 (by omega) (by omega), ih (i + 1) (by omega) fun j h1 h2 hj => ?_⟩) fun hd => ?_
        · by_cases e : j < i
          · exact hall j h1 h2 e
          · have : j = i := by omega
            subst this
            exact hd
        · have : l ≠ l2 := fun e => by subst e; exact hd rfl
          rw [decide_eq_false this] at hk
          exact hk
    exact key n 0 (by omega) fun j _ _ hj => absurd hj (Nat.not_lt_zero _)
  · have : l ≠ l2 := fun e => hn (by rw [← hl, ← hl2, e])
    rw [decide_eq_false this] at hk
    exact hk
end
end Go.Proofs
