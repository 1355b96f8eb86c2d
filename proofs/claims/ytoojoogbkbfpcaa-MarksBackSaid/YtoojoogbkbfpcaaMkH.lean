/- marks: Lost, of both texts. No condition. -/
import Derived.Test.YtoojoogbkbfpcaaMkG
namespace Go.Proofs
open Go Go.Sh
set_option linter.unusedVariables false
set_option maxRecDepth 100000

def lostAt (m : MarkP) (o : List OpenP) : Bool := decide (m.1 < 0) || o.any fun x => decide (x.1 = m.1)
def lostTo (l : List MarkP) (o : List OpenP) : Nat → Int
  | 0 => 0
  | i + 1 => if lostAt (l.getD i (0, [], [])) o then ((i : Int) + 1) else lostTo l o i
def lostP (l : List MarkP) (o : List OpenP) : Int := lostTo l o l.length

section
variable {A B : Nat → Prop} {h : H} {b b2 : Option Addr} {n c n2 c2 : Nat} {l : List MarkP} {o : List OpenP}

theorem lost_calls (hA : ∀ k, A k → k < h.size) (r : Row elMark A h b n c l) (ro : Row elOpen B h b2 n2 c2 o) {K : Value → H → Prop} (hk : ∀ h', KB h h' → K (.int .i64 (lostP l o)) h') :
    HCalls Try.prog 19 ⟨[.slice b n c, .slice b2 n2 c2]⟩ h K := by
  refine Sx.marks_Lost.ok _ _ _ _ _ _ _ _ (newx_var fun xs0 h0 v0 k0 e0 _ => newx_var fun x2 h1 v1 k1 e1 _ => backward_calls ((r.kb k0).kb k1) fun a h2 v2 k2 e2 => ?_)
  have hm : n ≤ maxLen := Nat.le_trans r.cap r.max
  simp only [maxLen] at hm
  have hl := r.len
  obtain ⟨xs, hB, hE⟩ := backward_emits (((r.kb k0).kb k1).kb k2) v2
  have h01 := k0.1
  have hne : ¬ (A x2.block ∨ x2.block = a.block) := fun e => by
    have := v1.lt
    rcases e with e | e
    · have := hA _ e; omega
    · omega
  have v12 := v1.kb k2
  have v02 := (v0.kb k1).kb k2
  have k02 : KB h h2 := (k0.trans k1).trans k2
  have k02s := k02.1
  refine ⟨xs, Non, _, hE, hB.len, rounds_of (fun xs h' => KB h2 h' ∧ ∃ i, Backs A h' l i xs ∧ lostTo l o i = lostP l o) (fun xs h' h'' ⟨k, i, hb, e⟩ n => ⟨k.nz n (Nat.le_succ _), i, hb.kw n.kw, e⟩) ?_ ?_ xs h2 ⟨KB.refl _, l.length, hB, rfl⟩⟩
  · rintro x xs h3 Kc ⟨k3, i, hb, e⟩ hKc
    cases i with
    | zero => simp [Backs] at hb
    | succ i =>
      obtain ⟨hi, b', n', c', rest, hm', e', hr⟩ := hb
      cases e'
      unfold lostTo at e
      rw [getD_get hi] at e
      refine rdMark (newx_var fun a4 h4 v4 k4 e4 _ => stL_var0 v4 (Nat.le_refl _) fun h5 v5 k5 s5 => ?_)
      have k35 : KB h3 h5 := KB.step k4 k5 (by omega)
      refine ⟨(k4.kp).trans (KX.kp v4 k5 fun e => ?_), fun h6 n6 => ?_⟩
      · have := k3.1; have h22 := k02.1
        rcases e with e | e
        · have := hA _ e; omega
        · have := v2.lt; omega
      have v6 := v5.kw n6.kw
      have k26 : KB h2 h6 := (k3.trans k35).nz n6 (Nat.le_succ _)
      have vx := v12.kb k26
      have found : lostAt l[i] o = true → lostP l o = (i : Int) + 1 := fun ht => by rw [← e, if_pos ht]
      refine ⟨_, v6.cell 0 rfl, spl (fun hneg => ⟨rng64 (by omega) (by omega), ?_⟩) fun hneg => ⟨_, _, _, (v02.kb k26).cell0 rfl, ?_⟩⟩
      · refine stL_var0 vx (Nat.le_refl _) fun h7 v7 k7 s7 => ⟨KX.kp vx k7 hne, fun h8 n8 hd => ?_⟩
        refine leave_int hd ((KB.step (k02.trans k26) k7 (by omega)).nz n8 (by omega)) k02s (v7.kw n8.kw) fun h' k' => ?_
        rw [found (by unfold lostAt; rw [decide_eq_true hneg, Bool.true_or])] at hk
        exact hk h' k'
      · refine containsFuncOpen_calls (p := fun x => decide (x.1 = l[i].1)) ((ro.kb k02).kb k26) (fun x h7 next hx k7 hR hn => ?_) fun h7 k7 => ?_
        · have e : CallV Try.prog 4 (.func (.func 33) ⟨[]⟩ ⟨[.pointer (some a4)]⟩) ⟨[.agg ⟨[.int .i64 x.1, .int .u8 x.2.1, S x.2.2.1, .int .u8 x.2.2.2]⟩]⟩ h7 next =
              HCalls Try.prog 33 ⟨[.agg ⟨[.int .i64 x.1, .int .u8 x.2.1, S x.2.2.1, .int .u8 x.2.2.2]⟩, .pointer (some a4)]⟩ h7 fun v h' => vBool v fun b => cond b (next (.bool true) h') (next (.bool false) h') := by kernel_rfl
          rw [e]
          refine Sx.marks_Lost_1.ok _ _ _ _ _ _ _ (newx_var fun a8 h8 v8 k8 e8 _ => ⟨_, v8.cell 0 rfl, _, ((v6.kb k7).kb k8).cell 0 rfl, ?_⟩)
          have := hn h8 k8
          refine spl (fun e => ?_) fun e => ?_
          · rw [decide_eq_true e] at this; exact this
          · rw [decide_eq_false e] at this; exact this
        · refine condB (fun ht => ⟨rng64 (by omega) (by omega), ?_⟩) fun ht => ?_
          · have vx7 := vx.kb k7
            refine stL_var0 vx7 (Nat.le_refl _) fun h8 v8 k8 s8 => ⟨(k7.kp).trans (KX.kp vx7 k8 hne), fun h9 n9 hd => ?_⟩
            refine leave_int hd ((KB.step ((k02.trans k26).trans k7) k8 (by omega)).nz n9 (by omega)) k02s (v8.kw n9.kw) fun h' k' => ?_
            rw [found (by unfold lostAt; rw [ht, Bool.or_true])] at hk
            exact hk h' k'
          · refine hKc _ _ k7.kp ⟨k26.trans k7, i, ((hr.kw (KB.w k35)).kw n6.kw).kw (KB.w k7), ?_⟩
            rw [if_neg (by unfold lostAt; rw [ht, decide_eq_false hneg]; simp)] at e
            exact e
  · rintro h3 ⟨k3, i, hb, e⟩ hd
    cases i with
    | succ i => obtain ⟨_, _, _, _, _, _, e', _⟩ := hb; cases e'
    | zero =>
      have vx := v12.kb k3
      refine stL_var0 vx (Nat.le_refl _) fun h7 v7 k7 s7 => ?_
      refine leave_int (vx.dOpen k7 hd) (KB.step (k02.trans k3) k7 (by omega)) k02s v7 fun h' k' => ?_
      rw [← e] at hk; exact hk h' k'

theorem refLost_calls (r : Row elMark A h b n c l) (ro : Row elOpen B h b2 n2 c2 o) {K : Value → H → Prop} (hk : K (.int .i64 (lostP l o)) h) :
    HCalls Try.prog 20 ⟨[.slice b n c, .slice b2 n2 c2]⟩ h K := by
  refine Sx.r12_Lost.ok _ _ _ _ _ _ _ _ ?_
  have hl := r.len
  have hm : n ≤ maxLen := Nat.le_trans r.cap r.max
  have hlo := ro.len
  have hmo : n2 ≤ maxLen := Nat.le_trans ro.cap ro.max
  simp only [maxLen] at hm hmo
  refine ⟨rng64 (by omega) (by omega), n + 1, ?_⟩
  have inner : ∀ (i : Nat) (hi : i < l.length) (Kn Ke2 : Sx.r12_Lost.T4) (Ke1 : Sx.r12_Lost.T3) (Ke0 : Sx.r12_Lost.T2) (Kr : Sx.r12_Lost.T0) (k j : Nat) (is : Bool), j + k = n2 →
      (∀ res, (res = (is || (o.drop j).any fun x => decide (x.1 = l[i].1))) → Ke2 b n c b2 n2 c2 i res h) →
      Sx.r12_Lost.n16_L Kn Ke2 Ke1 Ke0 Kr (k + 1) b n c b2 n2 c2 (i : Int) is (j : Int) h := by
    intro i hi Kn Ke2 Ke1 Ke0 Kr k
    induction k with
    | zero =>
      intro j is hj hK
      refine splF (by omega) (hK is ?_)
      rw [List.drop_of_length_le (by omega)]; simp
    | succ k ih =>
      intro j is hj hK
      have hjl : j < o.length := by omega
      have hst : o.drop j = o[j] :: o.drop (j + 1) := by rw [List.drop_eq_getElem_cons hjl]
      refine splT (by omega) (condB (fun e => ⟨rng64 (by omega) (by omega), ih (j + 1) true (by omega) fun res hr => hK res ?_⟩) fun e => ?_)
      · rw [hr, e]; simp
      · refine ro.idxN hjl rfl fun a hA => ldI hA.fst fun _ => r.idxN hi rfl fun a' hA' => ldI hA'.fst fun _ => spl (fun hd => ⟨rng64 (by omega) (by omega), ih (j + 1) true (by omega) fun res hr => hK res ?_⟩) fun hd => ⟨rng64 (by omega) (by omega), ih (j + 1) false (by omega) fun res hr => hK res ?_⟩
        · rw [hr, e, hst]; simp only [List.any_cons, decide_eq_true hd, Bool.true_or, Bool.false_or]
        · rw [hr, e, hst]; simp only [List.any_cons, decide_eq_false hd, Bool.false_or]
  have key : ∀ i, i ≤ n → lostTo l o i = lostP l o →
      Sx.r12_Lost.n6_L (fun h => K (.int .i64 0) h) (fun h => K (.int .i64 0) h) (fun y4 h => K (.int .i64 y4) h) (i + 1) b n c b2 n2 c2 ((i : Int) - 1) h := by
    intro i
    induction i with
    | zero =>
      intro _ e
      refine splF (by omega) ?_
      rw [← e] at hk; exact hk
    | succ i ih =>
      intro hi e
      have hx : ((i + 1 : Nat) : Int) - 1 = (i : Int) := by omega
      have hil : i < l.length := by omega
      unfold lostTo at e
      rw [getD_get hil] at e
      rw [hx]
      have go : ∀ is : Bool, is = decide (l[i].1 < 0) → ∀ Ke1 : Sx.r12_Lost.T3,
          Sx.r12_Lost.n12 b n c b2 n2 c2 (i : Int) is (fun z0b z0n z0c z1b z1n z1c z5 h => Sx.r12_Lost.n9 z0b z0n z0c z1b z1n z1c z5 (fun z0b z0n z0c z1b z1n z1c z5 h => Sx.r12_Lost.n6_L (fun h => K (.int .i64 0) h) (fun h => K (.int .i64 0) h) (fun y4 h => K (.int .i64 y4) h) (i + 1) z0b z0n z0c z1b z1n z1c z5 h) (fun h => K (.int .i64 0) h) (fun y4 h => K (.int .i64 y4) h) h) Ke1 (fun h => K (.int .i64 0) h) (fun y4 h => K (.int .i64 y4) h) h := by
        intro is his Ke1
        refine ⟨n2 + 1, inner i hil _ _ _ _ _ n2 0 is (by omega) fun res hr => ?_⟩
        have hres : res = lostAt l[i] o := by rw [hr, his]; rfl
        refine condB (fun ht => ⟨rng64 (by omega) (by omega), ?_⟩) fun ht => ⟨rng64 (by omega) (by omega), ?_⟩
        · rw [if_pos (by rw [← hres]; exact ht)] at e
          rw [← e] at hk; exact hk
        · rw [if_neg (by rw [← hres, ht]; simp)] at e
          exact ih (by omega) e
      refine splT (by omega) (r.idxN hil rfl fun a hA => ldI hA.fst fun _ => spl (fun hd => go true (decide_eq_true hd).symm _) fun hd => go false (decide_eq_false hd).symm _)
  exact key n (Nat.le_refl _) (by rw [← hl]; rfl)
end
end Go.Proofs
