/- marks: Last, Find and Lost, of both texts. No condition. -/
import Derived.Test.YtoojoogbkbfpcaaMkE
namespace Go.Proofs
open Go Go.Sh
set_option linter.unusedVariables false
set_option maxRecDepth 100000

/-- the first place at which something holds -/
def idxP {α : Type} (l : List α) (p : α → Bool) : Int := match l.findIdx? p with | some i => (i : Int) | none => -1
theorem idxP_some {α : Type} {l : List α} {p : α → Bool} {i : Nat} (hi : i < l.length) (hp : p l[i] = true) (hall : ∀ j (hj : j < l.length), j < i → p l[j] = false) : idxP l p = i := by
  have : l.findIdx? p = some i := List.findIdx?_eq_some_iff_getElem.2 ⟨hi, hp, fun j hj => by simp [hall j (by omega) hj]⟩
  unfold idxP; rw [this]
theorem idxP_none {α : Type} {l : List α} {p : α → Bool} (hall : ∀ j (hj : j < l.length), p l[j] = false) : idxP l p = -1 := by
  have : l.findIdx? p = none := List.findIdx?_eq_none_iff.2 fun x hx => by
    obtain ⟨j, hj, e⟩ := List.mem_iff_getElem.1 hx
    rw [← e]; exact hall j hj
  unfold idxP; rw [this]
theorem idxP_any {α : Type} {l : List α} {p : α → Bool} : 0 ≤ idxP l p ↔ l.any p = true := by
  unfold idxP
  cases h : l.findIdx? p with
  | none =>
    have := List.findIdx?_eq_none_iff.1 h
    refine ⟨fun h => absurd h (by decide), fun h2 => ?_⟩
    obtain ⟨x, hx, hp⟩ := List.any_eq_true.1 h2
    rw [this x hx] at hp; cases hp
  | some i =>
    obtain ⟨hi, hp, _⟩ := List.findIdx?_eq_some_iff_getElem.1 h
    exact ⟨fun _ => List.any_eq_true.2 ⟨_, List.getElem_mem _, hp⟩, fun _ => by simp⟩

abbrev OpenP := Int × Int × Bs × Int
abbrev elOpen : El OpenP := elPair (elInt .i64) (elPair (elInt .u8) (elPair elStr (elInt .u8)))
abbrev OpenR (A : Nat → Prop) (h : H) (m : OpenP) : Prop := elOpen.R A h m [.int .i64 m.1, .int .u8 m.2.1, S m.2.2.1, .int .u8 m.2.2.2]
theorem OpenR.any {A : Nat → Prop} {h : H} {m : OpenP} (r : OpenR A h m) : OpenR (fun _ => True) h m := elOpen.keep _ _ _ _ _ _ r (Keep.refl _ _) fun _ _ _ => trivial
theorem OpenR.kb {A : Nat → Prop} {h h' : H} {m : OpenP} (r : OpenR A h m) (k : KB h h') : OpenR A h' m := elOpen.keep _ _ _ _ _ _ r ((SK.w k).less fun _ h => h.2) fun _ h _ => h
theorem ldOpen {A : Nat → Prop} {h : H} {a : Addr} {m : OpenP} {K : Int → Int → Bs → Int → Prop} (hA : At elOpen A h a m) (hk : OpenR A h m → K m.1 m.2.1 m.2.2.1 m.2.2.2) :
    ∃ i, cell h (a.add 0) = some (.int .i64 i) ∧ ∃ j, cell h (a.add 1) = some (.int .u8 j) ∧ ∃ s, cell h (a.add 2) = some (S s) ∧ ∃ k, cell h (a.add 3) = some (.int .u8 k) ∧ K i j s k :=
  have h1 := hA.fst.int
  have h2 := hA.snd.fst.int
  have h3 := (hA.snd.sndAt (k := 2) rfl).fst.str
  have h4 := ((hA.snd.sndAt (k := 2) rfl).sndAt (k := 3) rfl).int
  ⟨_, h1.1, _, h2.1, _, h3.1, _, h4.1, hk ⟨[.int .i64 m.1], _, rfl, ⟨rfl, h1.2⟩, [.int .u8 m.2.1], _, rfl, ⟨rfl, h2.2⟩, [S m.2.2.1], _, rfl, ⟨rfl, h3.2⟩, rfl, h4.2⟩⟩

section
variable {A B : Nat → Prop} {h : H} {b b2 : Option Addr} {n c n2 c2 : Nat} {l : List MarkP}

/-! ### IndexFunc -/
theorem indexFuncMark_calls {f : Value} {p : MarkP → Bool} (r : Row elMark A h b n c l)
    (hf : ∀ x h1 b' n' c' (next : Value → H → Prop), x ∈ l → KB h h1 → MarkR A h1 x b' n' c' → (∀ h2, KB h1 h2 → next (.bool (p x)) h2) → CallV Try.prog 4 f ⟨[.agg ⟨[.int .i64 x.1, S x.2.1, .slice b' n' c']⟩]⟩ h1 next)
    {K : Value → H → Prop} (hk : ∀ h', KB h h' → K (.int .i64 (idxP l p)) h') :
    HCalls Try.prog 30 ⟨[.slice b n c, f]⟩ h K := by
  refine Sx.slices_IndexFunc_apiMark.ok _ _ _ _ _ _ ?_
  have hl := r.len
  have hm : n ≤ maxLen := Nat.le_trans r.cap r.max
  simp only [maxLen] at hm
  refine ⟨n + 1, ?_⟩
  have key : ∀ k i h1, i + k = n → KB h h1 → (∀ j (h1 : j < l.length), j < i → p l[j] = false) →
      Sx.slices_IndexFunc_apiMark.n6_L (fun h => K (.int .i64 (-1)) h) (fun h => K (.int .i64 (-1)) h) (fun y4 h => K (.int .i64 y4) h) (k + 1) b n c f (n : Int) (i : Int) h1 := by
    intro k
    induction k with
    | zero =>
      intro i h1 hi k1 hall
      have := hk h1 k1
      rw [idxP_none fun j hj => hall j hj (by omega)] at this
      exact splF (by omega) this
    | succ k ih =>
      intro i h1 hi k1 hall
      have hil : i < l.length := by omega
      refine splT (by omega) ((r.kb k1).idxN hil rfl fun a hA => ldMark hA fun b' n' c' hR => hf _ h1 b' n' c' _ (List.getElem_mem _) k1 hR fun h2 k2 => ?_)
      refine condB (fun hd => ?_) fun hd => ⟨rng64 (by omega) (by omega), ih (i + 1) h2 (by omega) (k1.trans k2) fun j h1 hj => ?_⟩
      · have := hk h2 (k1.trans k2)
        rwa [idxP_some hil hd hall] at this
      · by_cases e : j < i
        · exact hall j h1 e
        · have : j = i := by omega
          subst this
          exact hd
  exact key n 0 h (by omega) (KB.refl h) fun j _ hj => absurd hj (Nat.not_lt_zero _)
theorem indexFuncOpen_calls {l : List OpenP} {f : Value} {p : OpenP → Bool} (r : Row elOpen A h b n c l)
    (hf : ∀ x h1 (next : Value → H → Prop), x ∈ l → KB h h1 → OpenR A h1 x → (∀ h2, KB h1 h2 → next (.bool (p x)) h2) → CallV Try.prog 4 f ⟨[.agg ⟨[.int .i64 x.1, .int .u8 x.2.1, S x.2.2.1, .int .u8 x.2.2.2]⟩]⟩ h1 next)
    {K : Value → H → Prop} (hk : ∀ h', KB h h' → K (.int .i64 (idxP l p)) h') :
    HCalls Try.prog 38 ⟨[.slice b n c, f]⟩ h K := by
  refine Sx.slices_IndexFunc_apiOpen.ok _ _ _ _ _ _ ?_
  have hl := r.len
  have hm : n ≤ maxLen := Nat.le_trans r.cap r.max
  simp only [maxLen] at hm
  refine ⟨n + 1, ?_⟩
  have key : ∀ k i h1, i + k = n → KB h h1 → (∀ j (h1 : j < l.length), j < i → p l[j] = false) →
      Sx.slices_IndexFunc_apiOpen.n6_L (fun h => K (.int .i64 (-1)) h) (fun h => K (.int .i64 (-1)) h) (fun y4 h => K (.int .i64 y4) h) (k + 1) b n c f (n : Int) (i : Int) h1 := by
    intro k
    induction k with
    | zero =>
      intro i h1 hi k1 hall
      have := hk h1 k1
      rw [idxP_none fun j hj => hall j hj (by omega)] at this
      exact splF (by omega) this
    | succ k ih =>
      intro i h1 hi k1 hall
      have hil : i < l.length := by omega
      refine splT (by omega) ((r.kb k1).idxN hil rfl fun a hA => ldOpen hA fun hR => hf _ h1 _ (List.getElem_mem _) k1 hR fun h2 k2 => ?_)
      refine condB (fun hd => ?_) fun hd => ⟨rng64 (by omega) (by omega), ih (i + 1) h2 (by omega) (k1.trans k2) fun j h1 hj => ?_⟩
      · have := hk h2 (k1.trans k2)
        rwa [idxP_some hil hd hall] at this
      · by_cases e : j < i
        · exact hall j h1 e
        · have : j = i := by omega
          subst this
          exact hd
  exact key n 0 h (by omega) (KB.refl h) fun j _ hj => absurd hj (Nat.not_lt_zero _)
theorem containsFuncOpen_calls {l : List OpenP} {f : Value} {p : OpenP → Bool} (r : Row elOpen A h b n c l)
    (hf : ∀ x h1 (next : Value → H → Prop), x ∈ l → KB h h1 → OpenR A h1 x → (∀ h2, KB h1 h2 → next (.bool (p x)) h2) → CallV Try.prog 4 f ⟨[.agg ⟨[.int .i64 x.1, .int .u8 x.2.1, S x.2.2.1, .int .u8 x.2.2.2]⟩]⟩ h1 next)
    {K : Value → H → Prop} (hk : ∀ h', KB h h' → K (.bool (l.any p)) h') :
    HCalls Try.prog 32 ⟨[.slice b n c, f]⟩ h K := by
  refine Sx.slices_ContainsFunc_apiOpen.ok _ _ _ _ _ _ (indexFuncOpen_calls r hf fun h' k' => ?_)
  refine spl (fun hp => ?_) fun hp => ?_
  · have := hk h' k'
    rwa [idxP_any.1 hp] at this
  · have := hk h' k'
    have e : l.any p = false := by
      cases hq : l.any p with
      | false => rfl
      | true => exact absurd (idxP_any.2 hq) hp
    rwa [e] at this

/-! ### Find -/
def findP (l : List MarkP) (id : Int) : Int := if id < 0 then -1 else idxP l fun m => decide (m.1 = id)
theorem find_calls {id : Int} (r : Row elMark A h b n c l) {K : Value → H → Prop} (hk : ∀ h', KB h h' → K (.int .i64 (findP l id)) h') : HCalls Try.prog 17 ⟨[.slice b n c, .int .i64 id]⟩ h K := by
  refine Sx.marks_Find.ok _ _ _ _ _ _ (newx_var fun a1 h1 v1 k1 e1 _ => ⟨id, v1.cell0 rfl, spl (fun hn => ?_) fun hn => ?_⟩)
  · have := hk h1 k1
    unfold findP at this
    rwa [if_pos hn] at this
  · refine indexFuncMark_calls (p := fun m => decide (m.1 = id)) (r.kb k1) (fun x h3 b' n' c' next hx k3 hR hnx => ?_) fun h' k' => ?_
    · have e : CallV Try.prog 4 (.func (.func 31) ⟨[]⟩ ⟨[.pointer (some a1)]⟩) ⟨[.agg ⟨[.int .i64 x.1, S x.2.1, .slice b' n' c']⟩]⟩ h3 next =
          HCalls Try.prog 31 ⟨[.agg ⟨[.int .i64 x.1, S x.2.1, .slice b' n' c']⟩, .pointer (some a1)]⟩ h3 fun v h' => vBool v fun b => cond b (next (.bool true) h') (next (.bool false) h') := by kernel_rfl
      rw [e]
      refine Sx.marks_Find_1.ok _ _ _ _ _ _ _ _ (newx_var fun a4 h4 v4 k4 e4 _ => ⟨_, v4.cell 0 rfl, _, ((v1.kb k3).kb k4).cell0 rfl, ?_⟩)
      have := hnx h4 k4
      refine spl (fun e => ?_) fun e => ?_
      · rw [decide_eq_true e] at this; exact this
      · rw [decide_eq_false e] at this; exact this
    · have := hk h' (k1.trans k')
      unfold findP at this
      rwa [if_neg hn] at this
theorem refFind_calls {id : Int} (r : Row elMark A h b n c l) {K : Value → H → Prop} (hk : K (.int .i64 (findP l id)) h) : HCalls Try.prog 18 ⟨[.slice b n c, .int .i64 id]⟩ h K := by
  refine Sx.r12_Find.ok _ _ _ _ _ _ ?_
  have hl := r.len
  have hm : n ≤ maxLen := Nat.le_trans r.cap r.max
  simp only [maxLen] at hm
  refine ⟨n + 1, ?_⟩
  have key : ∀ k i, i + k = n → (∀ j (h1 : j < l.length), j < i → decide (l[j].1 = id) = false) →
      Sx.r12_Find.n6_L (fun h => K (.int .i64 (-1)) h) (fun h => K (.int .i64 (-1)) h) (fun y4 h => K (.int .i64 y4) h) (k + 1) b n c id (i : Int) h := by
    intro k
    induction k with
    | zero =>
      intro i hi hall
      refine splF (by omega) ?_
      have e : findP l id = -1 := by
        unfold findP
        rw [idxP_none fun j hj => hall j hj (by omega)]
        split <;> rfl
      rwa [e] at hk
    | succ k ih =>
      intro i hi hall
      have hil : i < l.length := by omega
      refine splT (by omega) (spl (fun hid => r.idxN hil rfl fun a hA => ldI hA.fst fun _ => spl (fun hd => ?_) fun hd => ⟨rng64 (by omega) (by omega), ih (i + 1) (by omega) fun j h1 hj => ?_⟩) fun hid => ?_)
      · have e : findP l id = i := by
          unfold findP
          rw [if_neg (by omega), idxP_some hil (decide_eq_true hd) hall]
        rwa [e] at hk
      · by_cases e : j < i
        · exact hall j h1 e
        · have : j = i := by omega
          subst this
          exact decide_eq_false hd
      · have e : findP l id = -1 := by
          unfold findP
          rw [if_pos (by omega)]
        rwa [e] at hk
  exact key n 0 (by omega) fun j _ hj => absurd hj (Nat.not_lt_zero _)

/-! ### Last -/
def lastTo (l : List MarkP) (s : Bs) : Nat → Int
  | 0 => -1
  | i + 1 => if (l.getD i (0, [], [])).1 < 0 then -1 else if (l.getD i (0, [], [])).2.1 = s then i else lastTo l s i
def lastP (l : List MarkP) (s : Bs) : Int := lastTo l s l.length
theorem refLast_calls {s : Bs} (r : Row elMark A h b n c l) {K : Value → H → Prop} (hk : K (.int .i64 (lastP l s)) h) : HCalls Try.prog 16 ⟨[.slice b n c, S s]⟩ h K := by
  refine Sx.r12_Last.ok _ _ _ _ _ _ ?_
  have hl := r.len
  have hm : n ≤ maxLen := Nat.le_trans r.cap r.max
  simp only [maxLen] at hm
  refine ⟨rng64 (by omega) (by omega), n + 1, ?_⟩
  have key : ∀ i, i ≤ n → lastTo l s i = lastP l s → behindTo l i = behind l →
      Sx.r12_Last.n6_L (fun h => K (.int .i64 (-1)) h) (fun h => K (.int .i64 (-1)) h) (fun y4 h => K (.int .i64 y4) h) (i + 1) b n c s ((i : Int) - 1) h := by
    intro i
    induction i with
    | zero =>
      intro _ e _
      refine behind_calls r (splF (by have := Int.natCast_nonneg (behind l); omega) ?_)
      rw [← e] at hk; exact hk
    | succ i ih =>
      intro hi e e2
      have hx : ((i + 1 : Nat) : Int) - 1 = (i : Int) := by omega
      have hil : i < l.length := by omega
      unfold lastTo at e
      unfold behindTo at e2
      rw [getD_get hil] at e e2
      rw [hx]
      by_cases hneg : l[i].1 < 0
      · rw [if_pos hneg] at e e2
        refine behind_calls r (splF (by omega) ?_)
        rw [← e] at hk; exact hk
      · rw [if_neg hneg] at e e2
        have hle := behindTo_le l i
        refine behind_calls r (splT (by omega) (r.idxN hil rfl fun a hA => ldS hA.snd.fst fun _ => spl (fun hd => ?_) fun hd => ⟨rng64 (by omega) (by omega), ?_⟩))
        · rw [if_pos hd] at e
          rw [← e] at hk; exact hk
        · rw [if_neg hd] at e
          exact ih (by omega) e e2
  exact key n (Nat.le_refl _) (by rw [← hl]; rfl) (by rw [← hl]; rfl)
theorem last_calls {s : Bs} (hA : ∀ k, A k → k < h.size) (r : Row elMark A h b n c l) {K : Value → H → Prop} (hk : ∀ h', KB h h' → K (.int .i64 (lastP l s)) h') : HCalls Try.prog 15 ⟨[.slice b n c, S s]⟩ h K := by
  refine Sx.marks_Last.ok _ _ _ _ _ _ (newx_var fun xs0 h0 v0 k0 e0 _ => newx_var fun x2 h1 v1 k1 e1 _ => backward_calls ((r.kb k0).kb k1) fun a h2 v2 k2 e2 => ?_)
  have hm : n ≤ maxLen := Nat.le_trans r.cap r.max
  simp only [maxLen] at hm
  have hl := r.len
  obtain ⟨xs, hB, hE⟩ := backward_emits (((r.kb k0).kb k1).kb k2) v2
  have h01 := k0.1
  have hne : ¬ (A x2.block ∨ x2.block = a.block) := fun e => by
    have := v1.lt
    rcases e with e | e
    · have := hA _ e; omega
    · omega
  have v12 := v1.kb k2
  have v02 := (v0.kb k1).kb k2
  have k02 : KB h h2 := (k0.trans k1).trans k2
  have k02s := k02.1
  -- the end, with nothing found
  have fin : lastP l s = -1 → ∀ h3, KB h2 h3 → dOpen h2.size h3 → Sx.marks_Last.n5 x2 [markD h2.size] (fun y4 ds h => leaveX ds h fun h => ∃ i93, cell h y4 = some (.int .i64 i93) ∧ (K (.int .i64 i93) h)) (fun y4 ds h => leaveX ds h fun h => ∃ i93, cell h y4 = some (.int .i64 i93) ∧ (K (.int .i64 i93) h)) h3 := by
    intro e h3 k3 hd
    have vx := v12.kb k3
    refine stL_var0 vx (Nat.le_refl _) fun h7 v7 k7 s7 => ?_
    refine leave_int (vx.dOpen k7 hd) (KB.step (k02.trans k3) k7 (by omega)) k02s v7 fun h' k' => ?_
    rw [e] at hk; exact hk h' k'
  refine ⟨xs, Non, _, hE, hB.len, rounds_of (fun xs h' => KB h2 h' ∧ ∃ i, Backs A h' l i xs ∧ lastTo l s i = lastP l s) (fun xs h' h'' ⟨k, i, hb, e⟩ n => ⟨k.nz n (Nat.le_succ _), i, hb.kw n.kw, e⟩) ?_ ?_ xs h2 ⟨KB.refl _, l.length, hB, rfl⟩⟩
  · rintro x xs h3 Kc ⟨k3, i, hb, e⟩ hKc
    cases i with
    | zero => simp [Backs] at hb
    | succ i =>
      obtain ⟨hi, b', n', c', rest, hm', e', hr⟩ := hb
      cases e'
      unfold lastTo at e
      rw [getD_get hi] at e
      refine rdMark (newx_var fun a4 h4 v4 k4 e4 _ => stL_var0 v4 (Nat.le_refl _) fun h5 v5 k5 s5 => ?_)
      have k35 : KB h3 h5 := KB.step k4 k5 (by omega)
      refine ⟨(k4.kp).trans (KX.kp v4 k5 fun e => ?_), fun h6 n6 => ?_⟩
      · have := k3.1; have h22 := k02.1
        rcases e with e | e
        · have := hA _ e; omega
        · have := v2.lt; omega
      have v6 := v5.kw n6.kw
      have k26 : KB h2 h6 := (k3.trans k35).nz n6 (Nat.le_succ _)
      have vx := v12.kb k26
      refine ⟨_, v6.cell 0 rfl, spl (fun hneg => ?_) fun hneg => ⟨_, v6.cell 1 rfl, _, (v02.kb k26).cell0 rfl, spl (fun hd => ?_) fun hd => ?_⟩⟩
      · rw [if_pos hneg] at e
        exact ⟨KpP.refl _ _, fun h4 n4 hd => fin e.symm h4 (k26.nz n4 (Nat.le_succ _)) hd⟩
      · rw [if_neg hneg, if_pos hd] at e
        refine stL_var0 vx (Nat.le_refl _) fun h7 v7 k7 s7 => ⟨KX.kp vx k7 hne, fun h8 n8 hd => ?_⟩
        refine leave_int hd ((KB.step (k02.trans k26) k7 (by omega)).nz n8 (by omega)) k02s (v7.kw n8.kw) fun h' k' => ?_
        rw [← e] at hk; exact hk h' k'
      · rw [if_neg hneg, if_neg hd] at e
        exact hKc _ _ (KpP.refl _ _) ⟨k26, i, (hr.kw (KB.w k35)).kw n6.kw, e⟩
  · rintro h3 ⟨k3, i, hb, e⟩ hd
    cases i with
    | succ i => obtain ⟨_, _, _, _, _, _, e', _⟩ := hb; cases e'
    | zero => exact fin e.symm h3 k3 hd
end
end Go.Proofs
