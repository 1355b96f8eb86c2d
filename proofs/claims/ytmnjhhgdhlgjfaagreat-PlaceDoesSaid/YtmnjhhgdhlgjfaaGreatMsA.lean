/- marks: what stands in memory; behind; alike, of the document; lists of marks that are the same. No condition. -/
import Derived.Test.YtmnjhhgdhlgjfaaGreatPcA
import Derived.Test.YtmnjhhgdhlgjfaaGreatDoN
import Derived.Test.YtmnjhhgdhlgjfaaGreatHmI
import Derived.Test.YtmnjhhgdhlgjfaaGreatTxD
namespace Go.Proofs
open Go Go.Sh
set_option linter.unusedVariables false
set_option maxRecDepth 100000
section
variable {A : Nat → Prop} {h : H} {a : Addr}
/-- a mark's cells -/
abbrev MarkR (A : Nat → Prop) (h : H) (m : MarkP) (b : Option Addr) (n c : Nat) : Prop := elMark.R A h m [.int .i64 m.1, S m.2.1, .slice b n c]
theorem markR {m : MarkP} {b : Option Addr} {n c : Nat} (r : Row elAttr A h b n c m.2.2) (hz : b = none → c = 0) (hr : Rng .i64 m.1) (hs : m.2.1.length ≤ maxLen) : MarkR A h m b n c :=
  ⟨[.int .i64 m.1], [S m.2.1, .slice b n c], rfl, ⟨rfl, hr⟩, [S m.2.1], [.slice b n c], rfl, ⟨rfl, hs⟩, b, n, c, rfl, r, hz⟩
theorem MarkR.inv {m : MarkP} {b : Option Addr} {n c : Nat} (r : MarkR A h m b n c) : Row elAttr A h b n c m.2.2 ∧ (b = none → c = 0) ∧ Rng .i64 m.1 ∧ m.2.1.length ≤ maxLen := by
  obtain ⟨c1, c2, e, ⟨e1, hr⟩, c3, c4, e2, ⟨e3, hs⟩, b', n', c', e4, r', hz⟩ := r
  subst e4; subst e3; subst e1; subst e2
  simp at e
  obtain ⟨rfl, rfl, rfl⟩ := e
  exact ⟨r', hz, hr, hs⟩
theorem MarkR.kb {h' : H} {m : MarkP} {b : Option Addr} {n c : Nat} (r : MarkR A h m b n c) (k : KB h h') : MarkR A h' m b n c := elMark.keep _ _ _ _ _ _ r ((SK.w k).less fun _ h => h.2) fun _ h _ => h
theorem MarkR.kw {h' : H} {m : MarkP} {b : Option Addr} {n c : Nat} (r : MarkR A h m b n c) (k : KW h h') : MarkR A h' m b n c := elMark.keep _ _ _ _ _ _ r (k.less fun _ h => h.2) fun _ h _ => h
theorem MarkR.any {m : MarkP} {b : Option Addr} {n c : Nat} (r : MarkR A h m b n c) : MarkR (fun _ => True) h m b n c := elMark.keep _ _ _ _ _ _ r (Keep.refl _ _) fun _ _ _ => trivial
theorem ldMark {m : MarkP} {K : Int → Bs → Option Addr → Nat → Nat → Prop} (hA : At elMark A h a m) (hk : ∀ b n c, MarkR A h m b n c → K m.1 m.2.1 b n c) :
    ∃ i, cell h (a.add 0) = some (.int .i64 i) ∧ ∃ s, cell h (a.add 1) = some (S s) ∧ ∃ b n c, cell h (a.add 2) = some (.slice b n c) ∧ K i s b n c :=
  ⟨_, hA.fst.int.1, _, hA.snd.fst.str.1, ldSl (hA.snd.sndAt (k := 2) rfl) fun b n c r hz => hk b n c (markR r hz hA.fst.int.2 hA.snd.fst.str.2)⟩
end
def behindTo (l : List MarkP) : Nat → Nat
  | 0 => 0
  | i + 1 => if (l.getD i (0, [], [])).1 < 0 then i + 1 else behindTo l i
def behind (l : List MarkP) : Nat := behindTo l l.length
theorem behind_asks {A : Nat → Prop} {h : H} {b : Option Addr} {n c : Nat} {l : List MarkP} (r : Row elMark A h b n c l) {K : Value → H → Prop} (hk : K (.int .i64 (behind l)) h) : Sx.r12_behind.asks b n c K h := by
  have hl := r.len
  have hm : n ≤ maxLen := Nat.le_trans r.cap r.max
  simp only [maxLen] at hm
  refine ⟨rng64 (by omega) (by omega), n + 1, ?_⟩
  have key : ∀ i, i ≤ n → behindTo l i = behind l → Sx.r12_behind.n6_L (fun h => K (.int .i64 0) h) (fun h => K (.int .i64 0) h) (fun y2 h => K (.int .i64 y2) h) (i + 1) b n c ((i : Int) - 1) h := by
    intro i
    induction i with
    | zero =>
      intro _ e
      refine splF (by omega) ?_
      rw [← e] at hk
      exact hk
    | succ i ih =>
      intro hi e
      refine splT (by omega) (r.idx (by omega) (by omega) rfl fun a hi2 hA => ldI (hA.fst) fun hr => ?_)
      have hx : ((i + 1 : Nat) : Int) - 1 = (i : Int) := by omega
      have hxt : (((i + 1 : Nat) : Int) - 1).toNat = i := by omega
      unfold behindTo at e
      rw [getD_get (by omega)] at e
      simp only [hxt]
      refine spl (fun hneg => ⟨rng64 (by omega) (by omega), ?_⟩) fun hneg => ⟨rng64 (by omega) (by omega), ?_⟩
      · rw [if_pos hneg] at e
        rw [← e] at hk
        rw [show ((i + 1 : Nat) : Int) - 1 + 1 = ((i + 1 : Nat) : Int) by omega]
        exact hk
      · rw [if_neg hneg] at e
        rw [hx]
        exact ih (by omega) e
  exact key n (Nat.le_refl _) (by rw [← hl]; rfl)
theorem behind_calls {A : Nat → Prop} {h : H} {b : Option Addr} {n c : Nat} {l : List MarkP} (r : Row elMark A h b n c l) {K : Value → H → Prop} (hk : K (.int .i64 (behind l)) h) :
    HCalls Tryz.prog 36 ⟨[.slice b n c]⟩ h K := Sx.r12_behind.ok _ _ _ _ _ (behind_asks r hk)
theorem behindTo_le (l : List MarkP) : ∀ i, behindTo l i ≤ i
  | 0 => Nat.le_refl _
  | i + 1 => by
    unfold behindTo
    split
    · exact Nat.le_refl _
    · exact Nat.le_succ_of_le (behindTo_le l i)
theorem behind_le (l : List MarkP) : behind l ≤ l.length := behindTo_le l _
theorem attrEq {x y : AttrP} {p q : Operand} {h : H} {K : Value → Prop} (hk : K (.bool (decide (x = y)))) : SemR Tryz.prog (binS .eql 79 p q (.agg ⟨[S x.1, S x.2]⟩) (.agg ⟨[S y.1, S y.2]⟩)) h K :=
  semR_eql (by kernel_rfl) (by kernel_rfl) (by rw [eqAttr]; exact hk)
theorem ldAttrM {A : Nat → Prop} {h : H} {a : Addr} {m : AttrP} {K : Bs → Bs → Prop} (hA : At elAttr A h a m) (hk : True → K m.1 m.2) : ∃ s, cell h (a.add 0) = some (S s) ∧ ∃ t, cell h (a.add 1) = some (S t) ∧ K s t := ldAttr hA fun _ _ => hk trivial
def alikeP (x y : MarkP) : Bool := decide (x.2.1 = y.2.1) && (decide (x.2.2.length = y.2.2.length) && x.2.2.all fun a => decide (a ∈ y.2.2))
section
variable {A B : Nat → Prop} {h : H} {b b2 : Option Addr} {n c n2 c2 : Nat}
theorem refAlike_calls {x y : MarkP} (hx : MarkR A h x b n c) (hy : MarkR B h y b2 n2 c2) {K : Value → H → Prop} (hk : ∀ h', KB h h' → K (.bool (alikeP x y)) h') :
    HCalls Tryz.prog 37 ⟨[.agg ⟨[.int .i64 x.1, S x.2.1, .slice b n c]⟩, .agg ⟨[.int .i64 y.1, S y.2.1, .slice b2 n2 c2]⟩]⟩ h K := by
  refine Sx.r12_alike.ok _ _ _ _ _ _ _ _ _ _ _ _ (newx_var fun a1 h1 v1 k1 e1 _ => newx_var fun a2 h2 v2 k2 e2 _ => ?_)
  have hA1 : At elMark (fun _ => True) h2 a1 x := (v1.at (A := fun _ => True) (MarkR.any hx |>.kb k1) trivial).kb k2
  have hA2 : At elMark (fun _ => True) h2 a2 y := v2.at (A := fun _ => True) (MarkR.any hy |>.kb (k1.trans k2)) trivial
  have hk := hk h2 (k1.trans k2)
  refine ldS hA1.snd.fst fun _ => ldS hA2.snd.fst fun _ => spl (fun e1 => ?_) fun e1 => ?_
  · refine ldSl (hA1.snd.sndAt (k := 2) rfl) fun b n c r _ => ldSl (hA2.snd.sndAt (k := 2) rfl) fun b2 n2 c2 r2 _ => spl (fun e2 => ?_) fun e2 => ?_
    · have e2' : x.2.2.length = y.2.2.length := by rw [r.len, r2.len]; omega
      have hm : x.2.2.length ≤ maxLen := by rw [r.len]; exact Nat.le_trans r.cap r.max
      simp only [maxLen] at hm
      refine ⟨x.2.2.length + 1, ?_⟩
      -- the inner loop
      have inner : ∀ (i : Nat) (hi : i < x.2.2.length) (Kn Ke2 : Sx.r12_alike.T5) (Ke1 : Sx.r12_alike.T4) (Ke0 : Sx.r12_alike.T3) (Kr : Sx.r12_alike.T0)
          (k : Nat) (j : Nat) (is : Bool), j + k = y.2.2.length → (is = decide (x.2.2[i] ∈ y.2.2.take j)) →
          Ke2 a1 a2 i (decide (x.2.2[i] ∈ y.2.2)) h2 →
          Sx.r12_alike.n17_L Kn Ke2 Ke1 Ke0 Kr (k + 1) a1 a2 (i : Int) is (j : Int) h2 := by
        intro i hi Kn Ke2 Ke1 Ke0 Kr k
        induction k with
        | zero =>
          intro j is hj his hK
          refine ldSl (hA2.snd.sndAt (k := 2) rfl) fun b2 n2 c2 r2 _ => splF (by rw [← r2.len]; omega) ?_
          rw [show j = y.2.2.length by omega, List.take_length] at his
          rw [his]; exact hK
        | succ k ih =>
          intro j is hj his hK
          have hjl : j < y.2.2.length := by omega
          have hst : y.2.2.take (j + 1) = y.2.2.take j ++ [y.2.2[j]] := by rw [List.take_succ_eq_append_getElem hjl]
          refine ldSl (hA2.snd.sndAt (k := 2) rfl) fun b2 n2 c2 r2 _ => splT (by rw [← r2.len]; omega) ?_
          refine condB (fun e => ⟨rng64 (by omega) (by omega), ih (j + 1) true (by omega) ?_ hK⟩) fun e => ?_
          · rw [e] at his
            rw [hst]
            exact (decide_eq_true (List.mem_append_left _ (of_decide_eq_true his.symm))).symm
          · refine ldSl (hA1.snd.sndAt (k := 2) rfl) fun b n c r _ => r.idxN hi rfl fun a hA => ldAttrM hA fun _ => ldSl (hA2.snd.sndAt (k := 2) rfl) fun b2 n2 c2 r2 _ => r2.idxN hjl rfl fun a' hA' => ldAttrM hA' fun _ => attrEq ?_
            rw [e] at his
            have hnot := of_decide_eq_false his.symm
            refine condB (fun hd => ⟨rng64 (by omega) (by omega), ih (j + 1) true (by omega) ?_ hK⟩) fun hd => ⟨rng64 (by omega) (by omega), ih (j + 1) false (by omega) ?_ hK⟩
            · rw [hst]
              exact (decide_eq_true (List.mem_append_right _ (List.mem_singleton.2 (of_decide_eq_true hd)))).symm
            · rw [hst]
              refine (decide_eq_false fun hm => ?_).symm
              rcases List.mem_append.1 hm with hm | hm
              · exact hnot hm
              · exact (of_decide_eq_false hd) (List.mem_singleton.1 hm)
      have key : ∀ k i, i + k = x.2.2.length → (∀ j (hj : j < x.2.2.length), j < i → x.2.2[j] ∈ y.2.2) →
          Sx.r12_alike.n7_L (fun h => K (.bool true) h) (fun h => K (.bool true) h) (fun y4 h => K (.bool y4) h) (k + 1) a1 a2 (i : Int) h2 := by
        intro k
        induction k with
        | zero =>
          intro i hi hall
          refine ldSl (hA1.snd.sndAt (k := 2) rfl) fun b n c r _ => splF (by rw [← r.len]; omega) ?_
          have : alikeP x y = true := by
            unfold alikeP
            rw [decide_eq_true e1, decide_eq_true e2', Bool.true_and, Bool.true_and, List.all_eq_true]
            intro z hz
            obtain ⟨j, hj, e⟩ := List.mem_iff_getElem.1 hz
            rw [← e]; exact decide_eq_true (hall j hj (by omega))
          rw [this] at hk; exact hk
        | succ k ih =>
          intro i hi hall
          have hil : i < x.2.2.length := by omega
          refine ldSl (hA1.snd.sndAt (k := 2) rfl) fun b n c r _ => splT (by rw [← r.len]; omega) ⟨y.2.2.length + 1, ?_⟩
          refine inner i hil _ _ _ _ _ y.2.2.length 0 false (by omega) (by simp) ?_
          refine condB (fun hd => ⟨rng64 (by omega) (by omega), ih (i + 1) (by omega) fun j hj hj2 => ?_⟩) fun hd => ?_
          · by_cases e : j < i
            · exact hall j hj e
            · have : j = i := by omega
              subst this
              exact of_decide_eq_true hd
          · have : alikeP x y = false := by
              unfold alikeP
              have h3 : (x.2.2.all fun a => decide (a ∈ y.2.2)) = false := by
                rw [List.all_eq_false]
                exact ⟨_, List.getElem_mem hil, by rw [hd]; simp⟩
              rw [h3, Bool.and_false, Bool.and_false]
            rw [this] at hk; exact hk
      exact key x.2.2.length 0 (by omega) fun j _ hj => absurd hj (Nat.not_lt_zero _)
    · have e2' : x.2.2.length ≠ y.2.2.length := by rw [r.len, r2.len]; omega
      rwa [show alikeP x y = false by simp [alikeP, e2']] at hk
  · rwa [show alikeP x y = false by simp [alikeP, e1]] at hk
theorem sameMarks_calls {l l2 : List MarkP} (r : Row elMark A h b n c l) (r2 : Row elMark B h b2 n2 c2 l2) {K : Value → H → Prop} (hk : K (.bool (decide (l = l2))) h) :
    HCalls Tryz.prog 48 ⟨[.slice b n c, .slice b2 n2 c2]⟩ h K := by
  refine Sx.r00_SameMarks.ok _ _ _ _ _ _ _ _ ?_
  have hl := r.len
  have hl2 := r2.len
  have hm : n ≤ maxLen := Nat.le_trans r.cap r.max
  simp only [maxLen] at hm
  refine spl (fun hn => ⟨n + 1, ?_⟩) fun hn => ?_
  · have hn' : n = n2 := by omega
    have key : ∀ k i, i + k = n → (∀ j (h1 : j < l.length) (h2 : j < l2.length), j < i → l[j] = l2[j]) →
        Sx.r00_SameMarks.n7_L (fun h => K (.bool true) h) (fun h => K (.bool true) h) (fun y4 h => K (.bool y4) h) (k + 1) b n c b2 n2 c2 (i : Int) h := by
      intro k
      induction k with
      | zero =>
        intro i hi hall
        refine splF (by omega) ?_
        have : l = l2 := list_eq_of (by omega) fun j h1 h2 => hall j h1 h2 (by omega)
        rw [decide_eq_true this] at hk
        exact hk
      | succ k ih =>
        intro i hi hall
        have h1 : i < l.length := by omega
        have h2 : i < l2.length := by omega
        have no : l[i] ≠ l2[i] → K (.bool false) h := fun hne => by
          have : l ≠ l2 := fun e => by subst e; exact hne rfl
          rw [decide_eq_false this] at hk
          exact hk
        refine splT (by omega) (r.idxN h1 rfl fun a hA => ldI hA.fst fun _ => r2.idxN h2 rfl fun a2 hA2 => ldI hA2.fst fun _ => spl (fun e1 => ?_) fun e1 => no fun e => e1 (by rw [e]))
        refine r.idxN h1 rfl fun a hA => ldS hA.snd.fst fun _ => r2.idxN h2 rfl fun a2 hA2 => ldS hA2.snd.fst fun _ => spl (fun e2 => ?_) fun e2 => no fun e => e2 (by rw [e])
        refine r.idxN h1 rfl fun a hA => ldSl (hA.snd.sndAt (k := 2) rfl) fun b3 n3 c3 r3 _ => r2.idxN h2 rfl fun a2 hA2 => ldSl (hA2.snd.sndAt (k := 2) rfl) fun b4 n4 c4 r4 _ => sameAttrs_calls r3 r4 ?_
        refine condB (fun hd => ⟨rng64 (by omega) (by omega), ih (i + 1) (by omega) fun j h1 h2 hj => ?_⟩) fun hd => no fun e => (of_decide_eq_false hd) (by rw [e])
        by_cases e : j < i
        · exact hall j h1 h2 e
        · have : j = i := by omega
          subst this
          have e3 := of_decide_eq_true hd
          exact Prod.ext e1 (Prod.ext e2 e3)
    exact key n 0 (by omega) fun j _ _ hj => absurd hj (Nat.not_lt_zero _)
  · have : l ≠ l2 := fun e => hn (by rw [← hl, ← hl2, e])
    rw [decide_eq_false this] at hk
    exact hk
end
end Go.Proofs
