/- marks: Push, of the document. No condition. -/
import Derived.Test.YtmnjhhgdhlgjfaaGreatMsA
import Derived.Test.YtmnjhhgdhlgjfaaGreatHmI
namespace Go.Proofs
open Go Go.Sh
set_option linter.unusedVariables false
set_option maxRecDepth 100000
theorem apdMark : Apd Tryz.prog elMark 40 39 48 := apd_of (sz := 3) (by kernel_rfl) rfl
section
variable {A : Nat → Prop} {h : H} {b : Option Addr}
/-- a mark in a row of one's own -/
theorem markPart {l : List MarkP} {xs : List Value} (he : Enc elMark A h l xs) (hc : Cells h b xs) {i : Nat} (hi : i < l.length) :
    ∃ a b2 n2 c2, b = some a ∧ cell h ((a.add (i * 3)).add 0) = some (.int .i64 l[i].1) ∧ cell h ((a.add (i * 3)).add 1) = some (S l[i].2.1) ∧ cell h ((a.add (i * 3)).add 2) = some (.slice b2 n2 c2) ∧ MarkR A h l[i] b2 n2 c2 := by
  obtain ⟨cs, hR, hcs⟩ := he.at (List.getElem?_eq_getElem hi)
  have hR0 := hR
  obtain ⟨c1, c2, e, h1, c3, c4, e2, h2, b2, n2, cc2, e3, h3, h4⟩ := hR
  rw [h1.1] at e
  rw [h2.1] at e2
  rw [e3] at e2
  rw [e2] at e
  subst e
  obtain ⟨a, ea, ec⟩ := hc _ _ (hcs 0 _ rfl)
  subst ea
  have cel : ∀ j v, ([Value.int .i64 l[i].1] ++ ([S l[i].2.1] ++ [Value.slice b2 n2 cc2]))[j]? = some v → cell h ((a.add (i * 3)).add j) = some v := fun j v hv => by
    obtain ⟨a', ea', ec'⟩ := hc _ _ (hcs j v hv)
    cases ea'
    rw [add_add]; exact ec'
  exact ⟨a, b2, n2, cc2, rfl, cel 0 _ rfl, cel 1 _ rfl, cel 2 _ rfl, hR0⟩
end
/-- the places from one up to another one at which marks are alike -/
def sames (l : List MarkP) (m : MarkP) (s k : Nat) : List Nat := (List.range' s k).filter fun j => alikeP m (l.getD j (0, [], []))
theorem sames_succ (l : List MarkP) (m : MarkP) (s k : Nat) : sames l m s (k + 1) = if alikeP m (l.getD (s + k) (0, [], [])) then sames l m s k ++ [s + k] else sames l m s k := by
  unfold sames
  rw [List.range'_concat, List.filter_append, Nat.one_mul]
  rw [List.filter_cons]
  split
  · rfl
  · rw [List.filter_nil, List.append_nil]
theorem sames_lt {l : List MarkP} {m : MarkP} {s k : Nat} : ∀ j ∈ sames l m s k, s ≤ j ∧ j < s + k := by
  intro j hj
  have := (List.mem_filter.1 hj).1
  rw [List.mem_range'] at this
  obtain ⟨i, hi, e⟩ := this
  omega
def pushS (l : List MarkP) (m : MarkP) : List Nat := if m.1 < 0 then [] else sames l m (behind l) (l.length - behind l)
def pushP (l : List MarkP) (m : MarkP) : List MarkP := if (pushS l m).length < 3 then l ++ [m] else l.eraseIdx ((pushS l m).headD 0) ++ [m]
def fstI (l : List Nat) : Int := match l with | [] => -1 | a :: _ => (a : Int)
theorem fstI_append (l : List Nat) (j : Nat) : fstI (l ++ [j]) = if fstI l < 0 then (j : Int) else fstI l := by
  cases l with
  | nil => rfl
  | cons a t => show (a : Int) = if (a : Int) < 0 then _ else _; rw [if_neg (by omega)]; rfl
section
variable {A B : Nat → Prop} {h : H} {b b2 : Option Addr} {n c n2 c2 : Nat} {l : List MarkP} {m : MarkP}
/-- what is kept of the first ones -/
def keptTo (l : List MarkP) (s : List Nat) (i : Nat) : List MarkP := if s.length < 3 then l.take i else (l.take i).eraseIdx (s.headD 0)
theorem keptTo_yes {s : List Nat} {i : Nat} (hi : i < l.length) (hy : s.length < 3 ∨ (i : Int) ≠ fstI s) : keptTo l s (i + 1) = keptTo l s i ++ [l[i]] := by
  unfold keptTo
  rw [List.take_succ_eq_append_getElem hi]
  by_cases hs : s.length < 3
  · rw [if_pos hs, if_pos hs]
  · rw [if_neg hs, if_neg hs]
    have hne := hy.resolve_left hs
    cases s with
    | nil => simp at hs
    | cons a t =>
      simp only [List.headD_cons]
      have hne : i ≠ a := fun e => hne (by show (i : Int) = (a : Int); rw [e])
      by_cases ha : a < i
      · rw [List.eraseIdx_append_of_lt_length (by simp; omega)]
      · rw [List.eraseIdx_of_length_le (by simp; omega), List.eraseIdx_of_length_le (by simp; omega)]
theorem keptTo_no {s : List Nat} {i : Nat} (hi : i < l.length) (hs : ¬ s.length < 3) (hn : (i : Int) = fstI s) : keptTo l s (i + 1) = keptTo l s i := by
  unfold keptTo
  rw [List.take_succ_eq_append_getElem hi, if_neg hs, if_neg hs]
  cases s with
  | nil => simp at hs
  | cons a t =>
    simp only [List.headD_cons]
    have e : i = a := by have : (i : Int) = (a : Int) := hn; omega
    subst e
    have hlen : (l.take i).length = i := by simp; omega
    rw [List.eraseIdx_append_of_length_le (by omega), List.eraseIdx_of_length_le (k := i) (l := l.take i) (by omega), hlen]
    simp
theorem keptTo_len (s : List Nat) (i : Nat) : (keptTo l s i).length ≤ i := by
  unfold keptTo
  split
  · simp; omega
  · exact Nat.le_trans (List.length_eraseIdx_le _ _) (by simp; omega)
theorem refPush_calls {xs : List Value} (r : Row elMark B h b n c l) (hx : Enc elMark A h l xs) (hcx : Cells h b xs) (hA : ∀ k, A k → k < h.size) (hR : MarkR A h m b2 n2 c2) (hn : n ≤ 100000000) {K : Value → H → Prop}
    (hk : ∀ b' n' c' h', OwnA elMark A h' h.size 39 b' n' c' (pushP l m) → KB h h' → K (.slice b' n' c') h') :
    HCalls Tryz.prog 11 ⟨[.slice b n c, .agg ⟨[.int .i64 m.1, S m.2.1, .slice b2 n2 c2]⟩]⟩ h K := by
  refine Sx.r12_Push.ok _ _ _ _ _ _ _ _ _ _ (newx_var fun x3 h1 v1 k1 e1 _ => behind_calls (r.kb k1) ?_)
  have hl := r.len
  have hble := behind_le l
  refine ⟨(n - behind l) + 1, ?_⟩
  -- the second loop, and the end
  have second : ∀ h2, KB h1 h2 → Sx.r12_Push.n5 b n c x3 ((pushS l m).length : Int) (fstI (pushS l m)) (fun y4b y4n y4c h => K (.slice y4b y4n y4c) h) (fun y4b y4n y4c h => K (.slice y4b y4n y4c) h) h2 := by
    intro h2 k2
    have key : ∀ k i h5 b9 c9, i + k = n → KB h1 h5 → OwnA elMark A h5 h1.size 39 b9 (keptTo l (pushS l m) i).length c9 (keptTo l (pushS l m) i) →
        Sx.r12_Push.n10_L (fun z3 z9b z9n z9c h => Sx.r12_Push.n7 z3 z9b z9n z9c (fun y4b y4n y4c h => K (.slice y4b y4n y4c) h) (fun y4b y4n y4c h => K (.slice y4b y4n y4c) h) h)
          (fun z3 z9b z9n z9c h => Sx.r12_Push.n7 z3 z9b z9n z9c (fun y4b y4n y4c h => K (.slice y4b y4n y4c) h) (fun y4b y4n y4c h => K (.slice y4b y4n y4c) h) h)
          (fun y4b y4n y4c h => K (.slice y4b y4n y4c) h) (k + 1) b n c x3 ((pushS l m).length : Int) (fstI (pushS l m)) b9 (keptTo l (pushS l m) i).length c9 (i : Int) h5 := by
      intro k
      induction k with
      | zero =>
        intro i h5 b9 c9 hi k5 o9
        have e : i = n := by omega
        subst e
        have v5 := v1.kb k5
        have k1s := k1.1
        have k5s := k5.1
        have hlen := keptTo_len (l := l) (pushS l m) i
        refine splF (by omega) ⟨_, v5.cell 0 rfl, _, v5.cell 1 rfl, _, _, _, v5.cell 2 rfl, newx_var fun a6 h6 v6 k6 e6 _ => ?_⟩
        have k16 := k5.trans k6
        have hR6 : MarkR A h6 m b2 n2 c2 := hR.kb (k1.trans k16)
        have k6s := k6.1
        refine OwnA.append1 apdMark (o9.kb k6) (fun k hk => by have := hA k hk; omega) v6 hR6 (by simp only [maxLen]; omega) (by omega) (by omega) fun b7 c7 h7 o7 g7 => hk b7 _ c7 h7 ?_ (Grow.kb0 (k1.trans k16) g7 fun a e => by have := o9.lo a e; omega)
        have e2 : keptTo l (pushS l m) i ++ [m] = pushP l m := by
          unfold keptTo pushP
          rw [List.take_of_length_le (by omega)]
          split <;> rfl
        rw [e2] at o7
        exact o7.lower k1s
      | succ k ih =>
        intro i h5 b9 c9 hi k5 o9
        have hil : i < l.length := by omega
        have hlen := keptTo_len (l := l) (pushS l m) i
        -- one is kept
        have yes : (pushS l m).length < 3 ∨ (i : Int) ≠ fstI (pushS l m) → ∀ (Kn Ke3 : Sx.r12_Push.T7) (Ke2 : Sx.r12_Push.T6) (Kr : Sx.r12_Push.T0), (∀ b7 c7 h7, KB h1 h7 → OwnA elMark A h7 h1.size 39 b7 (keptTo l (pushS l m) (i + 1)).length c7 (keptTo l (pushS l m) (i + 1)) → Kn b n c x3 ((pushS l m).length : Int) (fstI (pushS l m)) b7 (keptTo l (pushS l m) (i + 1)).length c7 (i : Int) h7) →
            Sx.r12_Push.n16 b n c x3 ((pushS l m).length : Int) (fstI (pushS l m)) b9 (keptTo l (pushS l m) i).length c9 (i : Int) true Kn Ke3 Ke2 Kr h5 := by
          intro hy Kn Ke3 Ke2 Kr hKn
          have e7 : (keptTo l (pushS l m) (i + 1)).length = (keptTo l (pushS l m) i).length + 1 := by rw [keptTo_yes hil hy]; simp
          rw [e7] at hKn
          have k05 : KB h h5 := k1.trans k5
          obtain ⟨a, b', n', c', eb, m0, m1, m2, hRi⟩ := markPart (hx.keep ((KB.w k05).less fun k hk => hk.2) fun _ h _ => h) (fun j u hu => by
            obtain ⟨q, e, ec⟩ := hcx j u hu
            exact ⟨q, e, (KB.w k05).cell (cell_lt ec) ec⟩) hil
          subst eb
          refine ⟨⟨by omega, by omega⟩, ⟨_, m0, _, m1, _, _, _, m2, newx_var fun a6 h6 v6 k6 e6 _ => ?_⟩⟩
          have k16 := k5.trans k6
          have k6s := k6.1
          have k5s := k5.1
          have k1s := k1.1
          refine OwnA.append1 apdMark (o9.kb k6) (fun k hk => by have := hA k hk; omega) v6 (hRi.kb k6) (by simp only [maxLen]; omega) (by omega) (by omega) fun b7 c7 h7 o7 g7 => hKn b7 c7 h7 (Grow.kb0 k16 g7 o9.lo) ?_
          rw [keptTo_yes hil hy]; exact o7
        refine splT (by omega) (spl (fun h3 => yes (.inl (by omega)) _ _ _ _ fun b7 c7 h7 k7 o7 => ⟨rng64 (by omega) (by omega), ih (i + 1) h7 b7 c7 (by omega) k7 o7⟩) fun h3 => spl (fun hf => ?_) fun hf => yes (.inr hf) _ _ _ _ fun b7 c7 h7 k7 o7 => ⟨rng64 (by omega) (by omega), ih (i + 1) h7 b7 c7 (by omega) k7 o7⟩)
        have en := keptTo_no hil (by omega) hf
        have := ih (i + 1) h5 b9 c9 (by omega) k5 (by rw [en]; exact o9)
        rw [en] at this
        exact ⟨rng64 (by omega) (by omega), this⟩
    have e0 : keptTo l (pushS l m) 0 = [] := by unfold keptTo; simp
    have := key n 0 h2 none 0 (by omega) k2 (by rw [e0]; exact OwnA.none _ _ _ _)
    rw [e0] at this
    exact ⟨n + 1, this⟩
  -- the first loop
  have key : ∀ k i h5, behind l + i + k = n → KB h1 h5 → (m.1 < 0 → i = 0) →
      Sx.r12_Push.n19_L (fun z0b z0n z0c z3 z5 z6 h => Sx.r12_Push.n5 z0b z0n z0c z3 z5 z6 (fun y4b y4n y4c h => K (.slice y4b y4n y4c) h) (fun y4b y4n y4c h => K (.slice y4b y4n y4c) h) h)
        (fun z0b z0n z0c z3 z5 z6 h => Sx.r12_Push.n5 z0b z0n z0c z3 z5 z6 (fun y4b y4n y4c h => K (.slice y4b y4n y4c) h) (fun y4b y4n y4c h => K (.slice y4b y4n y4c) h) h)
        (fun y4b y4n y4c h => K (.slice y4b y4n y4c) h) (k + 1) b n c x3 ((sames l m (behind l) i).length : Int) (fstI (sames l m (behind l) i)) ((behind l + i : Nat) : Int) h5 := by
    intro k
    induction k with
    | zero =>
      intro i h5 hi k5 hneg
      refine splF (by omega) ?_
      have e : sames l m (behind l) i = pushS l m := by
        unfold pushS
        split
        · rename_i hm
          rw [hneg hm]; rfl
        · congr 1; omega
      rw [e]
      exact second h5 k5
    | succ k ih =>
      intro i h5 hi k5 hneg
      have hil : behind l + i < l.length := by omega
      have v5 := v1.kb k5
      have hsl : (sames l m (behind l) i).length ≤ i := by
        unfold sames
        exact Nat.le_trans (List.length_filter_le _ _) (by rw [List.length_range']; exact Nat.le_refl _)
      refine splT (by omega) ⟨_, v5.cell 0 rfl, spl (fun hp => ?_) fun hp => ?_⟩
      · refine ⟨_, v5.cell 0 rfl, _, v5.cell 1 rfl, _, _, _, v5.cell 2 rfl, (r.kb (k1.trans k5)).idxN hil rfl fun a hAt => ldMark hAt fun b' n' c' hRi => refAlike_calls (hR.kb (k1.trans k5)) hRi fun h6 k6 => ?_⟩
        have hsuc := sames_succ l m (behind l) i
        rw [getD_get hil] at hsuc
        have go := ih (i + 1) h6 (by omega) (k5.trans k6) (fun h => by omega)
        refine condB (fun ha => ⟨rng64 (by omega) (by omega), ?_⟩) fun ha => ⟨rng64 (by omega) (by omega), ?_⟩
        · rw [if_pos ha] at hsuc
          rw [hsuc, List.length_append, List.length_singleton, fstI_append] at go
          refine spl (fun hf => ⟨rng64 (by omega) (by omega), ?_⟩) fun hf => ⟨rng64 (by omega) (by omega), ?_⟩
          · rw [if_pos hf] at go
            exact go
          · rw [if_neg hf] at go
            exact go
        · rw [if_neg (by rw [ha]; simp)] at hsuc
          rw [hsuc] at go
          exact go
      · have hi0 : i = 0 := hneg (by omega)
        subst hi0
        have e : pushS l m = [] := by unfold pushS; rw [if_pos (by omega)]
        have := second h5 k5
        rw [e] at this
        exact this
  exact key (n - behind l) 0 h1 (by omega) (KB.refl _) fun _ => rfl
end
end Go.Proofs
