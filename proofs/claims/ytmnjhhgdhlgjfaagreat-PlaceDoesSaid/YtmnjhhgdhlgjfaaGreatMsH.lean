/- marks: the first place at which something holds; lists of open elements that are asked; Lost, of both texts. No condition. -/
import Derived.Test.YtmnjhhgdhlgjfaaGreatMsD
import Derived.Test.YtmnjhhgdhlgjfaaGreatTxF
namespace Go.Proofs
open Go Go.Sh
set_option linter.unusedVariables false
set_option maxRecDepth 100000
/-- the first place at which something holds -/
def idxQ {α : Type} (l : List α) (p : α → Bool) : Int := match l.findIdx? p with | some i => (i : Int) | none => -1
theorem idxQ_some {α : Type} {l : List α} {p : α → Bool} {i : Nat} (hi : i < l.length) (hp : p l[i] = true) (hall : ∀ j (hj : j < l.length), j < i → p l[j] = false) : idxQ l p = i := by
  have : l.findIdx? p = some i := List.findIdx?_eq_some_iff_getElem.2 ⟨hi, hp, fun j hj => by simp [hall j (by omega) hj]⟩
  unfold idxQ; rw [this]
theorem idxQ_none {α : Type} {l : List α} {p : α → Bool} (hall : ∀ j (hj : j < l.length), p l[j] = false) : idxQ l p = -1 := by
  have : l.findIdx? p = none := List.findIdx?_eq_none_iff.2 fun x hx => by
    obtain ⟨j, hj, e⟩ := List.mem_iff_getElem.1 hx
    rw [← e]; exact hall j hj
  unfold idxQ; rw [this]
theorem idxQ_any {α : Type} {l : List α} {p : α → Bool} : 0 ≤ idxQ l p ↔ l.any p = true := by
  unfold idxQ
  cases h : l.findIdx? p with
  | none =>
    have := List.findIdx?_eq_none_iff.1 h
    refine ⟨fun h => absurd h (by decide), fun h2 => ?_⟩
    obtain ⟨x, hx, hp⟩ := List.any_eq_true.1 h2
    rw [this x hx] at hp; cases hp
  | some i =>
    obtain ⟨hi, hp, _⟩ := List.findIdx?_eq_some_iff_getElem.1 h
    exact ⟨fun _ => List.any_eq_true.2 ⟨_, List.getElem_mem _, hp⟩, fun _ => by simp⟩
theorem OpenR.any {A : Nat → Prop} {h : H} {m : OpenP} (r : OpenR A h m) : OpenR (fun _ => True) h m := elOpen.keep _ _ _ _ _ _ r (Keep.refl _ _) fun _ _ _ => trivial
theorem OpenR.kb {A : Nat → Prop} {h h' : H} {m : OpenP} (r : OpenR A h m) (k : KB h h') : OpenR A h' m := elOpen.keep _ _ _ _ _ _ r ((SK.w k).less fun _ h => h.2) fun _ h _ => h
theorem ldOpenR {A : Nat → Prop} {h : H} {a : Addr} {m : OpenP} {K : Int → Int → Bs → Int → Prop} (hA : At elOpen A h a m) (hk : OpenR A h m → K m.1 m.2.1 m.2.2.1 m.2.2.2) :
    ∃ i, cell h (a.add 0) = some (.int .i64 i) ∧ ∃ j, cell h (a.add 1) = some (.int .u8 j) ∧ ∃ s, cell h (a.add 2) = some (S s) ∧ ∃ k, cell h (a.add 3) = some (.int .u8 k) ∧ K i j s k :=
  have h1 := hA.fst.int
  have h2 := hA.snd.fst.int
  have h3 := (hA.snd.sndAt (k := 2) rfl).fst.str
  have h4 := ((hA.snd.sndAt (k := 2) rfl).sndAt (k := 3) rfl).int
  ⟨_, h1.1, _, h2.1, _, h3.1, _, h4.1, hk ⟨[.int .i64 m.1], _, rfl, ⟨rfl, h1.2⟩, [.int .u8 m.2.1], _, rfl, ⟨rfl, h2.2⟩, [S m.2.2.1], _, rfl, ⟨rfl, h3.2⟩, rfl, h4.2⟩⟩
section
variable {A B : Nat → Prop} {h : H} {b b2 : Option Addr} {n c n2 c2 : Nat} {l : List MarkP}
theorem indexFuncOpen_calls {l : List OpenP} {f : Value} {p : OpenP → Bool} (r : Row elOpen A h b n c l)
    (hf : ∀ x h1 (next : Value → H → Prop), x ∈ l → KB h h1 → OpenR A h1 x → (∀ h2, KB h1 h2 → next (.bool (p x)) h2) → CallV Tryz.prog 4 f ⟨[.agg ⟨[.int .i64 x.1, .int .u8 x.2.1, S x.2.2.1, .int .u8 x.2.2.2]⟩]⟩ h1 next)
    {K : Value → H → Prop} (hk : ∀ h', KB h h' → K (.int .i64 (idxQ l p)) h') :
    HCalls Tryz.prog 43 ⟨[.slice b n c, f]⟩ h K := by
  refine Sx.slices_IndexFunc_apiOpen.ok _ _ _ _ _ _ ?_
  have hl := r.len
  have hm : n ≤ maxLen := Nat.le_trans r.cap r.max
  simp only [maxLen] at hm
  refine ⟨n + 1, ?_⟩
  have key : ∀ k i h1, i + k = n → KB h h1 → (∀ j (h1 : j < l.length), j < i → p l[j] = false) →
      Sx.slices_IndexFunc_apiOpen.n6_L (fun h => K (.int .i64 (-1)) h) (fun h => K (.int .i64 (-1)) h) (fun y4 h => K (.int .i64 y4) h) (k + 1) b n c f (n : Int) (i : Int) h1 := by
    intro k
    induction k with
    | zero =>
      intro i h1 hi k1 hall
      have := hk h1 k1
      rw [idxQ_none fun j hj => hall j hj (by omega)] at this
      exact splF (by omega) this
    | succ k ih =>
      intro i h1 hi k1 hall
      have hil : i < l.length := by omega
      refine splT (by omega) ((r.kb k1).idxN hil rfl fun a hA => ldOpenR hA fun hR => hf _ h1 _ (List.getElem_mem _) k1 hR fun h2 k2 => ?_)
      refine condB (fun hd => ?_) fun hd => ⟨rng64 (by omega) (by omega), ih (i + 1) h2 (by omega) (k1.trans k2) fun j h1 hj => ?_⟩
      · have := hk h2 (k1.trans k2)
        rwa [idxQ_some hil hd hall] at this
      · by_cases e : j < i
        · exact hall j h1 e
        · have : j = i := by omega
          subst this
          exact hd
  exact key n 0 h (by omega) (KB.refl h) fun j _ hj => absurd hj (Nat.not_lt_zero _)
theorem containsFuncOpen_calls {l : List OpenP} {f : Value} {p : OpenP → Bool} (r : Row elOpen A h b n c l)
    (hf : ∀ x h1 (next : Value → H → Prop), x ∈ l → KB h h1 → OpenR A h1 x → (∀ h2, KB h1 h2 → next (.bool (p x)) h2) → CallV Tryz.prog 4 f ⟨[.agg ⟨[.int .i64 x.1, .int .u8 x.2.1, S x.2.2.1, .int .u8 x.2.2.2]⟩]⟩ h1 next)
    {K : Value → H → Prop} (hk : ∀ h', KB h h' → K (.bool (l.any p)) h') :
    HCalls Tryz.prog 73 ⟨[.slice b n c, f]⟩ h K := by
  refine Sx.slices_ContainsFunc_apiOpen.ok _ _ _ _ _ _ (indexFuncOpen_calls r hf fun h' k' => ?_)
  refine spl (fun hp => ?_) fun hp => ?_
  · have := hk h' k'
    rwa [idxQ_any.1 hp] at this
  · have := hk h' k'
    have e : l.any p = false := by
      cases hq : l.any p with
      | false => rfl
      | true => exact absurd (idxQ_any.2 hq) hp
    rwa [e] at this
end
def lostAt (m : MarkP) (o : List OpenP) : Bool := decide (m.1 < 0) || o.any fun x => decide (x.1 = m.1)
def lostTo (l : List MarkP) (o : List OpenP) : Nat → Int
  | 0 => 0
  | i + 1 => if lostAt (l.getD i (0, [], [])) o then ((i : Int) + 1) else lostTo l o i
def lostP (l : List MarkP) (o : List OpenP) : Int := lostTo l o l.length
section
variable {A B : Nat → Prop} {h : H} {b b2 : Option Addr} {n c n2 c2 : Nat} {l : List MarkP} {o : List OpenP}
theorem lost_calls (hA : ∀ k, A k → k < h.size) (r : Row elMark A h b n c l) (ro : Row elOpen B h b2 n2 c2 o) {K : Value → H → Prop} (hk : ∀ h', KB h h' → K (.int .i64 (lostP l o)) h') :
    HCalls Tryz.prog 40 ⟨[.slice b n c, .slice b2 n2 c2]⟩ h K := by
  refine Sx.marks_Lost.ok _ _ _ _ _ _ _ _ (newx_var fun xs0 h0 v0 k0 e0 _ => newx_var fun x2 h1 v1 k1 e1 _ => backward_calls ((r.kb k0).kb k1) fun a h2 v2 k2 e2 => ?_)
  have hm : n ≤ maxLen := Nat.le_trans r.cap r.max
  simp only [maxLen] at hm
  have hl := r.len
  obtain ⟨xs, hB, hE⟩ := backward_emits (((r.kb k0).kb k1).kb k2) v2
  have h01 := k0.1
  have hne : ¬ (A x2.block ∨ x2.block = a.block) := fun e => by
    have := v1.lt
    rcases e with e | e
    · have := hA _ e; omega
    · omega
  have v12 := v1.kb k2
  have v02 := (v0.kb k1).kb k2
  have k02 : KB h h2 := (k0.trans k1).trans k2
  have k02s := k02.1
  refine ⟨xs, Non, _, hE, hB.len, rounds_of (fun xs h' => KB h2 h' ∧ ∃ i, Backs A h' l i xs ∧ lostTo l o i = lostP l o) (fun xs h' h'' ⟨k, i, hb, e⟩ n => ⟨k.nz n (Nat.le_succ _), i, hb.kw n.kw, e⟩) ?_ ?_ xs h2 ⟨KB.refl _, l.length, hB, rfl⟩⟩
  · rintro x xs h3 Kc ⟨k3, i, hb, e⟩ hKc
    cases i with
    | zero => simp [Backs] at hb
    | succ i =>
      obtain ⟨hi, b', n', c', rest, hm', e', hr⟩ := hb
      cases e'
      unfold lostTo at e
      rw [getD_get hi] at e
      refine rdMark (newx_var fun a4 h4 v4 k4 e4 _ => stL_var0 v4 (Nat.le_refl _) fun h5 v5 k5 s5 => ?_)
      have k35 : KB h3 h5 := KB.step k4 k5 (by omega)
      refine ⟨(k4.kp).trans (KX.kp v4 k5 fun e => ?_), fun h6 n6 => ?_⟩
      · have := k3.1; have h22 := k02.1
        rcases e with e | e
        · have := hA _ e; omega
        · have := v2.lt; omega
      have v6 := v5.kw n6.kw
      have k26 : KB h2 h6 := (k3.trans k35).nz n6 (Nat.le_succ _)
      have vx := v12.kb k26
      have found : lostAt l[i] o = true → lostP l o = (i : Int) + 1 := fun ht => by rw [← e, if_pos ht]
      refine ⟨_, v6.cell 0 rfl, spl (fun hneg => ⟨rng64 (by omega) (by omega), ?_⟩) fun hneg => ⟨_, _, _, (v02.kb k26).cell0 rfl, ?_⟩⟩
      · refine stL_var0 vx (Nat.le_refl _) fun h7 v7 k7 s7 => ⟨KX.kp vx k7 hne, fun h8 n8 hd => ?_⟩
        refine leave_int hd ((KB.step (k02.trans k26) k7 (by omega)).nz n8 (by omega)) k02s (v7.kw n8.kw) fun h' k' => ?_
        rw [found (by unfold lostAt; rw [decide_eq_true hneg, Bool.true_or])] at hk
        exact hk h' k'
      · refine containsFuncOpen_calls (p := fun x => decide (x.1 = l[i].1)) ((ro.kb k02).kb k26) (fun x h7 next hx k7 hR hn => ?_) fun h7 k7 => ?_
        · have e : CallV Tryz.prog 4 (.func (.func 74) ⟨[]⟩ ⟨[.pointer (some a4)]⟩) ⟨[.agg ⟨[.int .i64 x.1, .int .u8 x.2.1, S x.2.2.1, .int .u8 x.2.2.2]⟩]⟩ h7 next =
              HCalls Tryz.prog 74 ⟨[.agg ⟨[.int .i64 x.1, .int .u8 x.2.1, S x.2.2.1, .int .u8 x.2.2.2]⟩, .pointer (some a4)]⟩ h7 fun v h' => vBool v fun b => cond b (next (.bool true) h') (next (.bool false) h') := by kernel_rfl
          rw [e]
          refine Sx.marks_Lost_1.ok _ _ _ _ _ _ _ (newx_var fun a8 h8 v8 k8 e8 _ => ⟨_, v8.cell 0 rfl, _, ((v6.kb k7).kb k8).cell 0 rfl, ?_⟩)
          have := hn h8 k8
          refine spl (fun e => ?_) fun e => ?_
          · rw [decide_eq_true e] at this; exact this
          · rw [decide_eq_false e] at this; exact this
        · refine condB (fun ht => ⟨rng64 (by omega) (by omega), ?_⟩) fun ht => ?_
          · have vx7 := vx.kb k7
            refine stL_var0 vx7 (Nat.le_refl _) fun h8 v8 k8 s8 => ⟨(k7.kp).trans (KX.kp vx7 k8 hne), fun h9 n9 hd => ?_⟩
            refine leave_int hd ((KB.step ((k02.trans k26).trans k7) k8 (by omega)).nz n9 (by omega)) k02s (v8.kw n9.kw) fun h' k' => ?_
            rw [found (by unfold lostAt; rw [ht, Bool.or_true])] at hk
            exact hk h' k'
          · refine hKc _ _ k7.kp ⟨k26.trans k7, i, ((hr.kw (KB.w k35)).kw n6.kw).kw (KB.w k7), ?_⟩
            rw [if_neg (by unfold lostAt; rw [ht, decide_eq_false hneg]; simp)] at e
            exact e
  · rintro h3 ⟨k3, i, hb, e⟩ hd
    cases i with
    | succ i => obtain ⟨_, _, _, _, _, _, e', _⟩ := hb; cases e'
    | zero =>
      have vx := v12.kb k3
      refine stL_var0 vx (Nat.le_refl _) fun h7 v7 k7 s7 => ?_
      refine leave_int (vx.dOpen k7 hd) (KB.step (k02.trans k3) k7 (by omega)) k02s v7 fun h' k' => ?_
      rw [← e] at hk; exact hk h' k'
theorem refLost_calls (r : Row elMark A h b n c l) (ro : Row elOpen B h b2 n2 c2 o) {K : Value → H → Prop} (hk : K (.int .i64 (lostP l o)) h) :
    HCalls Tryz.prog 42 ⟨[.slice b n c, .slice b2 n2 c2]⟩ h K := by
  refine Sx.r12_Lost.ok _ _ _ _ _ _ _ _ ?_
  have hl := r.len
  have hm : n ≤ maxLen := Nat.le_trans r.cap r.max
  have hlo := ro.len
  have hmo : n2 ≤ maxLen := Nat.le_trans ro.cap ro.max
  simp only [maxLen] at hm hmo
  refine ⟨rng64 (by omega) (by omega), n + 1, ?_⟩
  have inner : ∀ (i : Nat) (hi : i < l.length) (Kn Ke2 : Sx.r12_Lost.T4) (Ke1 : Sx.r12_Lost.T3) (Ke0 : Sx.r12_Lost.T2) (Kr : Sx.r12_Lost.T0) (k j : Nat) (is : Bool), j + k = n2 →
      (∀ res, (res = (is || (o.drop j).any fun x => decide (x.1 = l[i].1))) → Ke2 b n c b2 n2 c2 i res h) →
      Sx.r12_Lost.n16_L Kn Ke2 Ke1 Ke0 Kr (k + 1) b n c b2 n2 c2 (i : Int) is (j : Int) h := by
    intro i hi Kn Ke2 Ke1 Ke0 Kr k
    induction k with
    | zero =>
      intro j is hj hK
      refine splF (by omega) (hK is ?_)
      rw [List.drop_of_length_le (by omega)]; simp
    | succ k ih =>
      intro j is hj hK
      have hjl : j < o.length := by omega
      have hst : o.drop j = o[j] :: o.drop (j + 1) := by rw [List.drop_eq_getElem_cons hjl]
      refine splT (by omega) (condB (fun e => ⟨rng64 (by omega) (by omega), ih (j + 1) true (by omega) fun res hr => hK res ?_⟩) fun e => ?_)
      · rw [hr, e]; simp
      · refine ro.idxN hjl rfl fun a hA => ldI hA.fst fun _ => r.idxN hi rfl fun a' hA' => ldI hA'.fst fun _ => spl (fun hd => ⟨rng64 (by omega) (by omega), ih (j + 1) true (by omega) fun res hr => hK res ?_⟩) fun hd => ⟨rng64 (by omega) (by omega), ih (j + 1) false (by omega) fun res hr => hK res ?_⟩
        · rw [hr, e, hst]; simp only [List.any_cons, decide_eq_true hd, Bool.true_or, Bool.false_or]
        · rw [hr, e, hst]; simp only [List.any_cons, decide_eq_false hd, Bool.false_or]
  have key : ∀ i, i ≤ n → lostTo l o i = lostP l o →
      Sx.r12_Lost.n6_L (fun h => K (.int .i64 0) h) (fun h => K (.int .i64 0) h) (fun y4 h => K (.int .i64 y4) h) (i + 1) b n c b2 n2 c2 ((i : Int) - 1) h := by
    intro i
    induction i with
    | zero =>
      intro _ e
      refine splF (by omega) ?_
      rw [← e] at hk; exact hk
    | succ i ih =>
      intro hi e
      have hx : ((i + 1 : Nat) : Int) - 1 = (i : Int) := by omega
      have hil : i < l.length := by omega
      unfold lostTo at e
      rw [getD_get hil] at e
      rw [hx]
      have go : ∀ is : Bool, is = decide (l[i].1 < 0) → ∀ Ke1 : Sx.r12_Lost.T3,
          Sx.r12_Lost.n12 b n c b2 n2 c2 (i : Int) is (fun z0b z0n z0c z1b z1n z1c z5 h => Sx.r12_Lost.n9 z0b z0n z0c z1b z1n z1c z5 (fun z0b z0n z0c z1b z1n z1c z5 h => Sx.r12_Lost.n6_L (fun h => K (.int .i64 0) h) (fun h => K (.int .i64 0) h) (fun y4 h => K (.int .i64 y4) h) (i + 1) z0b z0n z0c z1b z1n z1c z5 h) (fun h => K (.int .i64 0) h) (fun y4 h => K (.int .i64 y4) h) h) Ke1 (fun h => K (.int .i64 0) h) (fun y4 h => K (.int .i64 y4) h) h := by
        intro is his Ke1
        refine ⟨n2 + 1, inner i hil _ _ _ _ _ n2 0 is (by omega) fun res hr => ?_⟩
        have hres : res = lostAt l[i] o := by rw [hr, his]; rfl
        refine condB (fun ht => ⟨rng64 (by omega) (by omega), ?_⟩) fun ht => ⟨rng64 (by omega) (by omega), ?_⟩
        · rw [if_pos (by rw [← hres]; exact ht)] at e
          rw [← e] at hk; exact hk
        · rw [if_neg (by rw [← hres, ht]; simp)] at e
          exact ih (by omega) e
      refine splT (by omega) (r.idxN hil rfl fun a hA => ldI hA.fst fun _ => spl (fun hd => go true (decide_eq_true hd).symm _) fun hd => go false (decide_eq_false hd).symm _)
  exact key n (Nat.le_refl _) (by rw [← hl]; rfl)
end
end Go.Proofs
