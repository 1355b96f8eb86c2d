/- marks: MarksPush, MarksFew, MarksBack. No condition. -/
import Derived.Test.YtoojoogbkbfpcaaMkO
namespace Go.Proofs
open Go Go.Sh
set_option linter.unusedVariables false
set_option maxRecDepth 100000

section
variable {A B : Nat → Prop} {h : H} {b b2 : Option Addr} {n c n2 c2 : Nat} {l l2 : List MarkP} {m : MarkP}

def bhP : MarkP := (99, [98, 101, 104, 105, 110, 100], [])

theorem lawPush_calls (r : Row elMark A h b n c l) (hn : n ≤ 1000000000000000) (ha : ∀ m ∈ l, m.2.2.length ≤ 1000000000000000) (hR : MarkR B h m b2 n2 c2) (hm : m.2.2.length ≤ 1000000000000000)
    {K : Value → H → Prop} (hk : ∀ h', KB h h' → K (.bool true) h') : HCalls Try.prog 3 ⟨[.slice b n c, .agg ⟨[.int .i64 m.1, S m.2.1, .slice b2 n2 c2]⟩]⟩ h K := by
  refine Sx.l12_MarksPush.ok _ _ _ _ _ _ _ _ _ _ (newx_var fun x3 h1 v1 k1 e1 _ => much_calls (r.kb k1) hn ha fun w hw => condB (fun _ => hk h1 k1) fun e => ?_)
  obtain ⟨hn1, ha1⟩ := hw e
  refine ⟨_, v1.cell 0 rfl, _, v1.cell 1 rfl, _, _, _, v1.cell 2 rfl, newx_var fun x4 h2 v2 k2 e2 _ => ?_⟩
  have k02 := k1.trans k2
  refine much_calls (l := [m]) (v2.row1 (MarkR.any (hR.kb k02)) trivial) (by decide) (fun y hy => by rw [List.mem_singleton.1 hy]; exact hm) fun w2 hw2 => condB (fun _ => hk h2 k02) fun e2 => ?_
  refine lent_calls (r.kb k02) (by omega) (fun m hm => by have := ha1 m hm; omega) fun b3 c3 h3 o3 k3 => vSliceMk (newx_var fun a4 h4 v4 k4 e4 _ => ?_)
  have k3s := k3.1
  have k4s := k4.1
  have hl := r.len
  refine OwnF.append apdMark (o3.kb k4) (v4.row1 (x := bhP) (markR (m := bhP) (Row.nil _ _) (fun _ => rfl) (rng64 (by decide) (by decide)) (by decide)) ⟨v4.lt, fun x hx => by have := o3.hi x hx; omega⟩) (by simp only [maxLen]; omega) (by omega) (by omega) fun b5 c5 h5 o5 g5 => vSliceMk ?_
  have k25 : KB h2 h5 := Grow.kb0 (k3.trans k4) g5 o3.lo
  have k05 := k02.trans k25
  have v5 := v1.kb (k2.trans k25)
  have hc5 := o5.cap
  have hit : Int.toNat (n : Int) = n := by omega
  have hi0 : Int.toNat (0 : Int) = 0 := rfl
  have rs := o5.row.sub (lo := 0) (hi := n) (Nat.zero_le _) (by omega) (z := 3) rfl
  rw [List.drop_zero, List.take_append_of_le_length (by omega), List.take_of_length_le (by omega)] at rs
  have hzs : (if c5 = 0 then b5 else Option.map (fun q => q.add (0 * 3)) b5) = none → c5 - 0 = 0 := fun e => by
    by_cases hc0 : c5 = 0
    · omega
    · rw [if_neg hc0] at e
      cases hb : b5 with
      | none => have := o5.nil hb; omega
      | some a => rw [hb] at e; cases e
  refine ⟨⟨by omega, by omega, by omega⟩, _, v5.cell 0 rfl, _, v5.cell 1 rfl, _, _, _, v5.cell 2 rfl, ?_⟩
  simp only [hit, hi0]
  refine push_calls rs hzs (hR.kb k05) (by omega) fun b6 n6 c6 h6 o6 k6 => vSliceMk ?_
  have k06 := k05.trans k6
  have v6 := v5.kb k6
  refine ⟨_, v6.cell 0 rfl, _, v6.cell 1 rfl, _, _, _, v6.cell 2 rfl, refPush_calls (r.kb k06) (hR.kb k06) (by omega) fun b7 n7 c7 h7 o7 k7 => vSliceMk (sameMarks_calls (o6.row.kb k7) o7.row (condB (fun _ => ?_) fun e => absurd (of_decide_eq_false e) (fun h => h rfl)))⟩
  have k57 := k6.trans k7
  have o67 := o6.kb k7
  have fin : ∀ h9, KB h5 h9 → Sx.l12_MarksPush.n8 b n c b5 (n + 1) c5 true (fun y4 h => K (.bool y4) h) (fun y4 h => K (.bool y4) h) h9 := fun h9 k9 => by
    refine known_calls fun h10 k10 => vBool_mk (condB (fun _ => condB (fun _ => ⟨⟨by omega, by omega, by omega⟩, ?_⟩) fun e => by cases e) fun e => by cases e)
    have k510 := k9.trans k10
    simp only [hit, hi0]
    refine sameMarks_calls (rs.kb k510) (r.kb (k05.trans k510)) (condB (fun _ => ?_) fun e => absurd (of_decide_eq_false e) (fun h => h rfl))
    refine (o5.kb k510).row.idxN (i := n) (by simp; omega) rfl fun a hA => ldI hA.fst fun _ => spl (fun _ => hk h10 (k05.trans k510)) fun e => absurd ?_ e
    have : (l ++ [bhP])[n]'(by simp; omega) = bhP := by
      rw [List.getElem_append_right (by omega)]
      simp [hl]
    rw [this]; rfl
  refine ⟨n6 + 1, ?_⟩
  have key : ∀ k i h9, i + k = n6 → KB h5 h9 → (0 < n6 → ∃ a cs, b6 = some a ∧ Var h9 a 25 cs ∧ n6 * 3 ≤ cs.length ∧ h5.size ≤ a.block) →
      Sx.l12_MarksPush.n11_L (fun z0b z0n z0c z5b z5n z5c z7 h => Sx.l12_MarksPush.n8 z0b z0n z0c z5b z5n z5c z7 (fun y4 h => K (.bool y4) h) (fun y4 h => K (.bool y4) h) h)
        (fun z0b z0n z0c z5b z5n z5c z7 h => Sx.l12_MarksPush.n8 z0b z0n z0c z5b z5n z5c z7 (fun y4 h => K (.bool y4) h) (fun y4 h => K (.bool y4) h) h) (fun y4 h => K (.bool y4) h) (k + 1) b n c b5 (n + 1) c5 b6 n6 c6 true (i : Int) h9 := by
    intro k
    induction k with
    | zero => intro i h9 hi k9 _; exact splF (by omega) (fin h9 k9)
    | succ k ih =>
      intro i h9 hi k9 hv
      obtain ⟨a, cs, rfl, v, hcs, hge⟩ := hv (by omega)
      refine splT (by omega) ⟨⟨by omega, by omega⟩, ?_⟩
      refine stL_var (m := i * 3) (i := 0) v (by simp; omega) fun h10 v10 k10 s10 => ⟨rng64 (by omega) (by have := o67.cap; simp only [maxLen] at this; omega), ih (i + 1) h10 (by omega) (KB.step k9 k10 hge) fun _ => ⟨a, _, rfl, v10, by rw [setAll_len]; exact hcs, hge⟩⟩
  refine key n6 0 h7 (by omega) k57 fun hp => ?_
  obtain ⟨a, cs, e, v, hcs, hge⟩ := ownVar o67 hp
  exact ⟨a, cs, e, v, hcs, hge⟩

theorem lawBack_calls (r : Row elMark A h b n c l) (hz : b = none → c = 0) (hn : n ≤ 1000000000000000) (ha : ∀ m ∈ l, m.2.2.length ≤ 1000000000000000)
    (r2 : Row elMark B h b2 n2 c2 l2) (hn2 : n2 ≤ 1000000000000000) (ha2 : ∀ m ∈ l2, m.2.2.length ≤ 1000000000000000)
    {K : Value → H → Prop} (hk : ∀ h', KB h h' → K (.bool true) h') : HCalls Try.prog 6 ⟨[.slice b n c, .slice b2 n2 c2]⟩ h K := by
  have kn : ∀ h1, KB h h1 → HCalls Try.prog 12 ⟨[]⟩ h1 (fun v h => vBool v fun b => cond b (K (.bool true) h) (K (.bool false) h)) := fun h1 k1 => known_calls fun h2 k2 => vBool_mk (hk h2 (k1.trans k2))
  refine Sx.l12_MarksBack.ok _ _ _ _ _ _ _ _ (much_calls r hn ha fun w hw => condB (fun _ => kn h (KB.refl h)) fun e => ?_)
  refine much_calls r2 hn2 ha2 fun w2 hw2 => condB (fun _ => kn h (KB.refl h)) fun e2 => spl (fun _ => kn h (KB.refl h)) fun h60 => ?_
  obtain ⟨hn1, _⟩ := hw e
  refine known_calls fun h1 k1 => vBool_mk (show Sx.l12_MarksBack.n3 b n c b2 n2 c2 _ _ h1 from push_calls (m := (-1, [], [])) (r.kb k1) hz (markR (A := fun _ => True) (m := (-1, [], [])) (Row.nil _ _) (fun _ => rfl) (rng64 (by decide) (by decide)) (Nat.zero_le _)) (by omega) fun b3 n3 c3 h3 o3 k3 => vSliceMk ⟨n2 + 1, ?_⟩)
  have hl := r.len
  have hl2 := r2.len
  have key : ∀ k i h5 b5 n5 c5, i + k = n2 → KB h h5 → OwnF elMark h5 h.size 25 b5 n5 c5 (backAll l l2 i) →
      Sx.l12_MarksBack.n8_L (fun z0b z0n z0c z5b z5n z5c h => Sx.l12_MarksBack.n5 z0b z0n z0c z5b z5n z5c (fun y4 h => K (.bool y4) h) (fun y4 h => K (.bool y4) h) h) (fun z0b z0n z0c z5b z5n z5c h => Sx.l12_MarksBack.n5 z0b z0n z0c z5b z5n z5c (fun y4 h => K (.bool y4) h) (fun y4 h => K (.bool y4) h) h) (fun y4 h => K (.bool y4) h)
        (k + 1) b n c b2 n2 c2 b5 n5 c5 (i : Int) h5 := by
    intro k
    induction k with
    | zero =>
      intro i h5 b5 n5 c5 hi k5 o5
      have h5l := o5.own.len
      have hlen := (backAll_spec l l2 i).2.2
      refine splF (by omega) (clear_calls (A := Bel h5.size) (fun _ h => h) o5.row o5.nil (by omega) fun b6 n6 c6 h6 o6 k6 => vSliceMk (sameMarks_calls o6.row (r.kb (k5.trans k6)) (condB (fun _ => hk h6 (k5.trans k6)) fun e => absurd (backAll_clear l l2 i) (of_decide_eq_false e))))
    | succ k ih =>
      intro i h5 b5 n5 c5 hi k5 o5
      have hil : i < l2.length := by omega
      have h5l := o5.own.len
      have hlen := (backAll_spec l l2 i).2.2
      have k5s := k5.1
      have hst : backAll l l2 (i + 1) = if l2[i].1 < 0 then backAll l l2 i else pushP (backAll l l2 i) l2[i] := by
        conv => lhs; unfold backAll
        rw [getD_get hil]
      refine splT (by omega) ((r2.kb k5).idxN hil rfl fun a hA => ldI hA.fst fun _ => spl (fun hp => ?_) fun hp => ?_)
      · rw [if_neg (by omega)] at hst
        refine (r2.kb k5).idxN hil rfl fun a hA => ldMark hA fun b' n' c' hR => push_calls o5.row o5.nil hR (by omega) fun b6 n6 c6 h6 o6 k6 => vSliceMk ⟨rng64 (by omega) (by omega), ih (i + 1) h6 b6 n6 c6 (by omega) (k5.trans k6) ?_⟩
        rw [hst]; exact o6.lower k5s
      · rw [if_pos (by omega)] at hst
        exact ⟨rng64 (by omega) (by omega), ih (i + 1) h5 b5 n5 c5 (by omega) k5 (by rw [hst]; exact o5)⟩
  exact key n2 0 h3 b3 n3 c3 (by omega) (k1.trans k3) (o3.lower k1.1)

theorem lawFew_calls (r : Row elMark A h b n c l) (hn : n ≤ 1000000000000000) (ha : ∀ m ∈ l, m.2.2.length ≤ 1000000000000000)
    {K : Value → H → Prop} (hk : ∀ h', KB h h' → K (.bool true) h') : HCalls Try.prog 5 ⟨[.slice b n c]⟩ h K := by
  have kn : ∀ h1, KB h h1 → HCalls Try.prog 12 ⟨[]⟩ h1 (fun v h => vBool v fun b => cond b (K (.bool true) h) (K (.bool false) h)) := fun h1 k1 => known_calls fun h2 k2 => vBool_mk (hk h2 (k1.trans k2))
  refine Sx.l12_MarksFew.ok _ _ _ _ _ (much_calls r hn ha fun w hw => condB (fun _ => kn h (KB.refl h)) fun e => spl (fun _ => kn h (KB.refl h)) fun h60 => ?_)
  refine known_calls fun h1 k1 => vBool_mk (show Sx.l12_MarksFew.n3 b n c _ _ h1 from ⟨n + 1, ?_⟩)
  have hl := r.len
  have key : ∀ k i h5 b5 n5 c5, i + k = n → KB h h5 → OwnF elMark h5 h.size 25 b5 n5 c5 (fewAll l i) →
      Sx.l12_MarksFew.n8_L (fun  h => Sx.l12_MarksFew.n5 (fun y2 h => K (.bool y2) h) (fun y2 h => K (.bool y2) h) h) (fun  h => Sx.l12_MarksFew.n5 (fun y2 h => K (.bool y2) h) (fun y2 h => K (.bool y2) h) h) (fun y2 h => K (.bool y2) h)
        (k + 1) b n c b5 n5 c5 (i : Int) h5 := by
    intro k
    induction k with
    | zero => intro i h5 b5 n5 c5 hi k5 o5; exact splF (by omega) (hk h5 k5)
    | succ k ih =>
      intro i h5 b5 n5 c5 hi k5 o5
      have hil : i < l.length := by omega
      have h5l := o5.own.len
      have hlen := fewAll_len l i
      have k5s := k5.1
      refine splT (by omega) ((r.kb k5).idxN hil rfl fun a hA => ldI hA.fst fun hr => (r.kb k5).idxN hil rfl fun a hA => ldS hA.snd.fst fun hs => newx_var fun a6 h6 v6 k6 e6 _ => ⟨k6.ext, stL_var0 v6 (Nat.le_refl _) fun h7 v7 k7 s7 => ?_⟩)
      have k57 : KB h5 h7 := KB.step k6 k7 (by omega)
      have o7 := o5.kb k57
      refine ⟨_, v7.cell 0 rfl, _, v7.cell 1 rfl, _, _, _, v7.cell 2 rfl, push_calls (m := bare l[i]) o7.row o7.nil (markR (A := fun _ => True) (m := bare l[i]) (Row.nil _ _) (fun _ => rfl) hr hs) (by omega) fun b8 n8 c8 h8 o8 k8 => vSliceMk ?_⟩
      have hst : fewAll l (i + 1) = pushP (fewAll l i) (bare l[i]) := by
        conv => lhs; unfold fewAll
        rw [getD_get hil]
      rw [← hst] at o8
      have hfew := (few_ok l (i + 1)).2 l[i].2.1
      have h8l := o8.own.len
      obtain ⟨hp1, hp2⟩ := push_len (fewAll l i) (bare l[i])
      rw [← hst] at hp1 hp2
      obtain ⟨L0, hL0⟩ := push_last (fewAll l i) (bare l[i])
      rw [← hst] at hL0
      have k7s := k57.1
      have v8 := v7.kb k8
      have r8 := o8.row
      refine splF (by omega) ⟨rng64 (by omega) (by omega), ?_⟩
      rw [show (n8 : Int) - 1 = ((n8 - 1 : Nat) : Int) by omega]
      refine r8.idxN (by omega) rfl fun a hA => ldI hA.fst fun _ => ⟨_, v8.cell 0 rfl, splT ?_ ?_⟩
      · have : (fewAll l (i + 1))[n8 - 1]'(by omega) = bare l[i] := by
          have hn8 : n8 - 1 = L0.length := by rw [hL0] at h8l; simp at h8l; omega
          simp only [hL0, hn8]
          simp
        rw [this]; rfl
      refine ⟨rng64 (by omega) (by omega), n8 + 1, ?_⟩
      have inner : ∀ k (cnt : Nat), k ≤ n8 → cnt + tailCnt (fewAll l (i + 1)) l[i].2.1 k = cntB (fewAll l (i + 1)) l[i].2.1 → ∀ (Kn Ke2 : Sx.l12_MarksFew.T7) (Ke1 : Sx.l12_MarksFew.T4) (Ke0 : Sx.l12_MarksFew.T3) (Kr : Sx.l12_MarksFew.T0),
          Ke2 b n c b8 n8 c8 i (cntB (fewAll l (i + 1)) l[i].2.1 : Nat) h8 → Sx.l12_MarksFew.n21_L Kn Ke2 Ke1 Ke0 Kr (k + 1) b n c b8 n8 c8 (i : Int) a6 (cnt : Int) ((k : Int) - 1) h8 := by
        intro k
        induction k with
        | zero =>
          intro cnt _ hc Kn Ke2 Ke1 Ke0 Kr hK
          refine splF (by omega) ?_
          rw [← hc] at hK
          simpa [tailCnt] using hK
        | succ k ih2 =>
          intro cnt hk8 hc Kn Ke2 Ke1 Ke0 Kr hK
          have hkl : k < (fewAll l (i + 1)).length := by omega
          have hx : ((k + 1 : Nat) : Int) - 1 = (k : Int) := by omega
          rw [hx]
          unfold tailCnt at hc
          rw [getD_get hkl] at hc
          refine splT (by omega) (r8.idxN hkl rfl fun a hA => ldI hA.fst fun _ => spl (fun hp => r8.idxN hkl rfl fun a hA => ldS hA.snd.fst fun _ => ⟨_, v8.cell 1 rfl, spl (fun he => ?_) fun he => ?_⟩) fun hp => ?_)
          · rw [if_neg (by omega), if_pos he] at hc
            exact ⟨rng64 (by omega) (by omega), rng64 (by omega) (by omega), by have := ih2 (cnt + 1) (by omega) (by omega) Kn Ke2 Ke1 Ke0 Kr hK; rwa [show ((cnt + 1 : Nat) : Int) = (cnt : Int) + 1 by omega] at this⟩
          · rw [if_neg (by omega), if_neg he] at hc
            exact ⟨rng64 (by omega) (by omega), ih2 cnt (by omega) (by omega) Kn Ke2 Ke1 Ke0 Kr hK⟩
          · rw [if_pos (by omega)] at hc
            rw [← hc] at hK
            simpa using hK
      refine inner n8 0 (Nat.le_refl _) (by rw [Nat.zero_add, ← h8l, tailCnt_all]) _ _ _ _ _ (splF (by omega) ⟨rng64 (by omega) (by omega), ih (i + 1) h8 b8 n8 c8 (by omega) ((k5.trans k57).trans k8) (o8.lower (by omega))⟩)
  exact key n 0 h1 none 0 0 (by omega) k1 (OwnF.none _ _ _)
end
end Go.Proofs
