/- dom: the program's tree and the chapter's, side by side: they are found alike. No condition but that they are trees of the same nodes. -/
import Derived.Test.YtgkaebhnamcfkaaDrG
import Derived.Test.YtgkaebhnamcfkaaDpE
import Derived.Test.YtgkaebhnamcfkaaTxG
namespace Go.Proofs
open Go Go.Sh
set_option linter.unusedVariables false
set_option maxRecDepth 100000
/-- both trees, and what was there before -/
structure TwoT (h0 h : H) (col : Col) (t r : Addr) (ads : List Addr) (ns : List NodeM) : Prop where
  T : TreeP h col 0 t ads ns
  R : RefP h col 1 r ns
  G : GoodT ns
  B : BareT ns
  k : KB h0 h
  c : ∀ k, k < h0.size → col k = none
section
variable {h h0 h' : H} {K : Value → H → Prop} {col col' : Col} {s i p : Nat} {t r a : Addr} {ads ads' : List Addr} {ns ns' : List NodeM}
theorem TwoT.kb (W : TwoT h0 h col t r ads ns) (k : KB h h') : TwoT h0 h' col t r ads ns := ⟨W.T.kb k, W.R.kb k, W.G, W.B, W.k.trans k, W.c⟩
theorem ext_kb {h1 : H} {col1 : Col} (k : KB h0 h) (c : ∀ k, k < h0.size → col k = none) (e : Ext s h col h1 col1) : KB h0 h1 ∧ ∀ k, k < h0.size → col1 k = none :=
  ⟨SK.trans k (e.sk.less fun q (hq : q < h0.size) => ⟨by have := k.1; omega, fun p e => by rw [c q hq] at e; cases e⟩), fun q hq => (e.cl q (by have := k.1; omega)).trans (c q hq)⟩
/-- an act on both -/
theorem TwoT.act {h1 h2 : H} {col1 col2 : Col} (W : TwoT h0 h col t r ads ns) (T1 : TreeP h1 col1 0 t ads' ns') (E1 : Ext 0 h col h1 col1) (R2 : RefP h2 col2 1 r ns') (E2 : Ext 1 h1 col1 h2 col2) (G : GoodT ns') (B : BareT ns') : TwoT h0 h2 col2 t r ads' ns' := by
  obtain ⟨k1, c1⟩ := ext_kb W.k W.c E1
  obtain ⟨k2, c2⟩ := ext_kb k1 c1 E2
  exact ⟨T1.other (by decide) E2 R2.fresh, R2, G, B, k2, c2⟩
theorem TwoT.mid {h1 : H} {col1 : Col} (W : TwoT h0 h col t r ads ns) (T1 : TreeP h1 col1 0 t ads' ns') (E1 : Ext 0 h col h1 col1) : RefP h1 col1 1 r ns := W.R.other (by decide) E1 T1.fresh
theorem sameI_true {A A' : Nat → Prop} {b b2 : Option Addr} {n c n2 c2 : Nat} {l : List Int} (r1 : Row (elInt .i64) A h b n c l) (r2 : Row (elInt .i64) A' h b2 n2 c2 l) (hk : K (.bool true) h) : HCalls Try.prog 51 ⟨[.slice b n c, .slice b2 n2 c2]⟩ h K := by
  have hl := r1.len
  have hl2 := r2.len
  have hm : n ≤ maxLen := Nat.le_trans r1.cap r1.max
  simp only [maxLen] at hm
  refine Sx.r00_SameInts.ok _ _ _ _ _ _ _ _ (splT (by omega) ⟨n + 1, ?_⟩)
  have key : ∀ N m, m + N = n → Sx.r00_SameInts.n7_L (fun h => Sx.r00_SameInts.n4 (fun y4 h => K (.bool y4) h) (fun y4 h => K (.bool y4) h) h) (fun h => Sx.r00_SameInts.n4 (fun y4 h => K (.bool y4) h) (fun y4 h => K (.bool y4) h) h) (fun y4 h => K (.bool y4) h) (N + 1) b n c b2 n2 c2 (m : Int) h := by
    intro N
    induction N with
    | zero =>
      intro m hm
      unfold Sx.r00_SameInts.n7_L
      exact splF (by omega) hk
    | succ N ih =>
      intro m hm
      have hml : m < l.length := by omega
      unfold Sx.r00_SameInts.n7_L
      exact splT (by omega) (r1.idxN hml rfl fun a hA => ldI hA fun _ => r2.idxN hml rfl fun a2 hA2 => ldI hA2 fun _ => splT rfl ⟨rngI (by omega) (by omega), ih (m + 1) (by omega)⟩)
  exact key n 0 (by omega)
theorem par_neg (G : GoodT ns) {id : Int} (h : id < 0) : parI ns id = -1 := by
  obtain ⟨x, hx, hp⟩ := G.root
  unfold parI
  rw [show id.toNat = 0 by omega, hx]
  exact hp
theorem par_out {id : Int} (h : ¬ id < (ns.length : Int)) : parI ns id = -1 := by
  unfold parI
  rw [List.getElem?_eq_none (by omega)]
  rfl
theorem stands_calls (W : TwoT h0 h col t r ads ns) {most : Int} (hm : most ≤ 1000000) (hm0 : -1 ≤ most) (hk : ∀ h', KB h h' → K (.bool true) h') : HCalls Try.prog 28 ⟨[.pointer (some t), .pointer (some r), .int .i64 most]⟩ h K := by
  have fin : ∀ h1, KB h h1 → Sx.l10_stands.n3 (some t) (some r) (fun y6 h => K (.bool y6) h) (fun y6 h => K (.bool y6) h) h1 := fun h1 k1 => by
    obtain ⟨D, hD⟩ := W.G.deep
    have hd := hD D (Nat.le_refl _) 0
    refine whole_calls W.G D 0 (W.T.kb k1) hd fun h2 b2 n2 c2 k2 o2 => vSliceMk (whole_r W.G W.B D 0 (W.R.kb (k1.trans k2)) hd fun h3 b3 n3 c3 k3 o3 => vSliceMk (sameNodes_calls D (o2.row.kb k3) o3.row fun h4 k4 => vBool_mk ?_))
    rw [sameN_true rfl]
    exact condT (hk h4 (((k1.trans k2).trans k3).trans k4))
  obtain ⟨N0, hN0⟩ := Int.eq_ofNat_of_zero_le (show 0 ≤ most + 1 by omega)
  refine Sx.l10_stands.ok _ _ _ _ _ ⟨N0 + 1 + 1, ?_⟩
  have key : ∀ (N : Nat) (id : Int) h1, id + (N : Int) = most + 1 → -1 ≤ id → KB h h1 → Sx.l10_stands.n6_L (fun z0 z1 h => Sx.l10_stands.n3 z0 z1 (fun y6 h => K (.bool y6) h) (fun y6 h => K (.bool y6) h) h) (fun z0 z1 h => Sx.l10_stands.n3 z0 z1 (fun y6 h => K (.bool y6) h) (fun y6 h => K (.bool y6) h) h) (fun y6 h => K (.bool y6) h) (N + 1) (some t) (some r) most id h1 := by
    intro N
    induction N with
    | zero =>
      intro id h1 hid hge k1
      unfold Sx.l10_stands.n6_L
      exact splF (by omega) (fin h1 k1)
    | succ N ih =>
      intro id h1 hid hge k1
      unfold Sx.l10_stands.n6_L
      refine splT (by omega) ?_
      have T1 := W.T.kb k1
      have R1 := W.R.kb k1
      have G := W.G
      have rest : HCalls Try.prog 50 ⟨[.pointer (some r), .int .i64 id]⟩ h1 fun v53 h54 => vInt .i64 v53 fun i55 => Spl (parI ns id = i55) (HCalls Try.prog 15 ⟨[(.pointer (some t)), (.int .i64 id)]⟩ h54 fun v56 h57 => vSlice v56 fun s58b s58n s58c => HCalls Try.prog 52 ⟨[(.pointer (some r)), (.int .i64 id)]⟩ h57 fun v59 h60 => vSlice v59 fun s61b s61n s61c => HCalls Try.prog 51 ⟨[(.slice s58b s58n s58c), (.slice s61b s61n s61c)]⟩ h60 fun v62 h63 => vBool v62 fun b64 => cond b64 (Rng .i64 (id + (1 : Int)) ∧ (Sx.l10_stands.n6_L (fun z0 z1 h => Sx.l10_stands.n3 z0 z1 (fun y6 h => K (.bool y6) h) (fun y6 h => K (.bool y6) h) h) (fun z0 z1 h => Sx.l10_stands.n3 z0 z1 (fun y6 h => K (.bool y6) h) (fun y6 h => K (.bool y6) h) h) (fun y6 h => K (.bool y6) h) (N + 1) (some t) (some r) most (id + (1 : Int)) h63)) (K (.bool false) h63)) (K (.bool false) h54) := by
        refine parent_r R1 (vIntMk (splT rfl ?_)) (par_neg G)
        have same : ∀ (l : List Int) b n c b2 n2 c2 h2 h3, KB h1 h2 → KB h2 h3 → Row (elInt .i64) (fun _ => True) h3 b n c l → Row (elInt .i64) (fun _ => True) h3 b2 n2 c2 l →
            HCalls Try.prog 51 ⟨[(.slice b n c), (.slice b2 n2 c2)]⟩ h3 fun v62 h63 => vBool v62 fun b64 => cond b64 (Rng .i64 (id + (1 : Int)) ∧ (Sx.l10_stands.n6_L (fun z0 z1 h => Sx.l10_stands.n3 z0 z1 (fun y6 h => K (.bool y6) h) (fun y6 h => K (.bool y6) h) h) (fun z0 z1 h => Sx.l10_stands.n3 z0 z1 (fun y6 h => K (.bool y6) h) (fun y6 h => K (.bool y6) h) h) (fun y6 h => K (.bool y6) h) (N + 1) (some t) (some r) most (id + (1 : Int)) h63)) (K (.bool false) h63) := fun l b n c b2 n2 c2 h2 h3 k2 k3 r1 r2 =>
          sameI_true r1 r2 (vBool_mk (condT ⟨rngI (by omega) (by omega), ih (id + 1) h3 (by omega) (by omega) ((k1.trans k2).trans k3)⟩))
        refine kids_calls T1 (fun hn => vSliceMk (kids_r R1 G (fun _ => vSliceMk ?_) fun i x b c h' e hx _ _ => absurd ⟨by omega, by have := getI hx; omega⟩ hn)) G fun i x b c h2 e hx o2 k2 => vSliceMk (kids_r (R1.kb k2) G (fun hn => absurd ⟨by omega, by have := getI hx; omega⟩ hn) fun i2 x2 b3 c3 h3 e2 hx2 o3 k3 => vSliceMk ?_)
        · exact same [] none 0 0 none 0 0 h1 h1 (KB.refl _) (KB.refl _) ⟨rfl, Nat.le_refl _, Nat.zero_le _, fun i x hx => by simp at hx⟩ ⟨rfl, Nat.le_refl _, Nat.zero_le _, fun i x hx => by simp at hx⟩
        · have : i = i2 := by omega
          subst this
          rw [hx] at hx2; cases hx2
          exact same x.kids _ _ _ _ _ _ h2 h3 k2 k3 ((ownI_of (o2.kb k3)).row fun _ _ => trivial) ((ownI_of o3).row fun _ _ => trivial)
      refine parent_calls T1 (fun hn => vIntMk ?_) fun i x e hx => vIntMk ?_
      · have e : parI ns id = -1 := by
          by_cases h0 : id < 0
          · exact par_neg G h0
          · exact par_out (by omega)
        rw [e] at rest
        exact rest
      · subst e
        rw [parI_some hx] at rest
        exact rest
  exact key (N0 + 1) (-1) h (by omega) (by omega) (KB.refl h)
end
end Go.Proofs
