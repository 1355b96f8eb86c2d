/- open: OpenScopes, OpenOrder. No condition but that the library's variable holds a number. -/
import Derived.Test.YtggejikikcffmaaOpF
namespace Go.Proofs
open Go Go.Sh
set_option linter.unusedVariables false
set_option maxRecDepth 100000

/-! ### plain laws -/
theorem scanTo_congr {R : Type} {f g : Nat → OpenP → Option R} {d : R} {l m : List OpenP} : ∀ {k : Nat}, (∀ i, i < k → f i (l.getD i (0, 0, [], 0)) = g i (m.getD i (0, 0, [], 0))) → scanTo f d l k = scanTo g d m k
  | 0, _ => rfl
  | k + 1, h => by
    unfold scanTo
    rw [h k (by omega), scanTo_congr (k := k) fun i hi => h i (by omega)]
theorem bounds_less (x : OpenP) {sc : Int} (hs : sc ≠ 3) (h : boundsP x 0 = true) : boundsP x sc = true := by
  unfold boundsP at *
  rw [if_neg (by decide)] at h
  rw [if_neg hs]
  split
  · rename_i h0; rw [if_pos h0] at h; exact h
  · rename_i h0
    rw [if_neg h0] at h
    simp at h
    rw [h]; simp
theorem in_less {sc : Int} (hs : sc ≠ 3) (ns : List Bs) (l : List OpenP) : ∀ k, scanTo (inF sc ns) false l k = true → scanTo (inF 0 ns) false l k = true
  | 0, h => h
  | k + 1, h => by
    unfold scanTo at *
    generalize l.getD k (0, 0, [], 0) = x at *
    unfold inF at *
    by_cases h1 : oneP x ns = true
    · rw [if_pos h1]
    · rw [if_neg h1] at h ⊢
      by_cases h2 : boundsP x 0 = true
      · rw [if_pos (bounds_less x hs h2)] at h; cases h
      · rw [if_neg h2]
        by_cases h3 : boundsP x sc = true
        · rw [if_pos h3] at h; cases h
        · rw [if_neg h3] at h
          exact in_less hs ns l k h
theorem one_more {x : OpenP} {ns ms : List Bs} (hm : ∀ s ∈ ns, s ∈ ms) (h : oneP x ns = true) : oneP x ms = true := by
  unfold oneP inNames at *
  simp at *
  exact ⟨h.1, hm _ h.2⟩
theorem in_more {ns ms : List Bs} (hm : ∀ s ∈ ns, s ∈ ms) (l : List OpenP) : ∀ k, scanTo (inF 0 ns) false l k = true → scanTo (inF 0 ms) false l k = true
  | 0, h => h
  | k + 1, h => by
    unfold scanTo at *
    generalize l.getD k (0, 0, [], 0) = x at *
    unfold inF at *
    by_cases h1 : oneP x ns = true
    · rw [if_pos (one_more hm h1)]
    · rw [if_neg h1] at h
      by_cases h0 : oneP x ms = true
      · rw [if_pos h0]
      · rw [if_neg h0]
        by_cases h2 : boundsP x 0 = true
        · rw [if_pos h2] at h; cases h
        · rw [if_neg h2] at h ⊢
          exact in_more hm l k h
theorem in_until (sc : Int) (ns : List Bs) (l : List OpenP) : ∀ k, scanTo (inF sc ns) false l k = true → 0 ≤ scanTo (untilF ns) (-1) l k
  | 0, h => by cases h
  | k + 1, h => by
    unfold scanTo at *
    generalize l.getD k (0, 0, [], 0) = x at *
    unfold inF untilF at *
    by_cases h1 : oneP x ns = true
    · rw [if_pos h1]; simp
    · rw [if_neg h1] at h ⊢
      by_cases h2 : boundsP x sc = true
      · rw [if_pos h2] at h; cases h
      · rw [if_neg h2] at h
        exact in_until sc ns l k h
theorem until_range (ns : List Bs) (l : List OpenP) : ∀ k : Nat, -1 ≤ scanTo (untilF ns) (-1) l k ∧ scanTo (untilF ns) (-1) l k < (k : Int)
  | 0 => by simp [scanTo]
  | k + 1 => by
    have := until_range ns l k
    unfold scanTo
    generalize l.getD k (0, 0, [], 0) = x at *
    unfold untilF
    by_cases h1 : oneP x ns = true
    · rw [if_pos h1]; simp; omega
    · rw [if_neg h1]; simp only; unfold untilF at this; omega
theorem implied_range (s : Bs) (l : List OpenP) : ∀ k : Nat, 0 ≤ scanTo (impliedF s) 0 l k ∧ scanTo (impliedF s) 0 l k ≤ (k : Int)
  | 0 => by simp [scanTo]
  | k + 1 => by
    have := implied_range s l k
    unfold scanTo
    cases h : impliedF s k (l.getD k (0, 0, [], 0)) with
    | none => simp only; omega
    | some r =>
      unfold impliedF at h
      split at h
      · cases h; simp only; omega
      · cases h
theorem clear_range (ns : List Bs) (l : List OpenP) : ∀ k : Nat, 0 ≤ scanTo (clearF ns) 0 l k ∧ scanTo (clearF ns) 0 l k ≤ (k : Int)
  | 0 => by simp [scanTo]
  | k + 1 => by
    have := clear_range ns l k
    unfold scanTo
    cases h : clearF ns k (l.getD k (0, 0, [], 0)) with
    | none => simp only; omega
    | some r =>
      unfold clearF at h
      split at h
      · cases h; simp only; omega
      · cases h
theorem item_until (ns : List Bs) (l : List OpenP) : ∀ k : Nat, scanTo (itemF ns) (-1) l k ≤ scanTo (untilF ns) (-1) l k
  | 0 => by simp [scanTo]
  | k + 1 => by
    have h0 := item_until ns l k
    have h1 := (until_range ns l k).1
    unfold scanTo
    generalize l.getD k (0, 0, [], 0) = x at *
    have e1 : ∀ b, oneP x ns = b → untilF ns k x = if b then some (k : Int) else none := fun b hb => by unfold untilF; rw [hb]
    by_cases h2 : oneP x ns = true
    · rw [show itemF ns k x = some (k : Int) by unfold itemF; rw [if_pos h2], show untilF ns k x = some (k : Int) by unfold untilF; rw [if_pos h2]]
      exact Int.le_refl _
    · rw [show untilF ns k x = none by unfold untilF; rw [if_neg h2]]
      unfold itemF
      rw [if_neg h2]
      split
      · rename_i h3
        split at h3
        · cases h3; exact h1
        · cases h3
      · exact h0

section
variable {A B C : Nat → Prop} {h : H} {b b2 b3 : Option Addr} {n c n2 c2 n3 c3 : Nat} {l : List OpenP} {ns : List Bs} {s : Bs} {sc sp : Int} {more : List Int}

theorem lawScopes_calls (m : ML h) (hA : ∀ k, A k → k < h.size) (r : Row elOpen A h b n c l) (hl : ∀ x ∈ l, x.2.2.1.length ≤ 9000000000000000000) (rn : Row elStr B h b2 n2 c2 ns) (hs : s.length ≤ 9000000000000000000) {K : Value → H → Prop} (hk : ∀ h', KB h h' → K (.bool true) h') :
    HCalls Try.prog 6 ⟨[.slice b n c, .slice b2 n2 c2, S s]⟩ h K := by
  have hln := r.len
  have kn : ∀ h1, KB h h1 → HCalls Try.prog 9 ⟨[]⟩ h1 (fun v h => vBool v fun b => cond b (K (.bool true) h) (K (.bool false) h)) := fun h1 k1 => known_calls (m.kb k1) fun h2 k2 => vBool_mk (hk h2 (k1.trans k2))
  refine Sx.l11_OpenScopes.ok _ _ _ _ _ _ _ _ _ (much_calls r rn fun w hw => condB (fun _ => kn h (KB.refl h)) fun e => spl (fun _ => kn h (KB.refl h)) fun _ => known_calls m fun h1 k1 => vBool_mk (condT ?_))
  obtain ⟨hn1, hn2⟩ := hw e
  have hin : ∀ (sc : Int) h1, KB h h1 → ∀ {K' : Value → H → Prop}, (∀ h2, KB h1 h2 → K' (.bool (inP l sc ns)) h2) → HCalls Try.prog 10 ⟨[.slice b n c, .int .u8 sc, .slice b2 n2 c2]⟩ h1 K' := fun sc h1 k1 K' hk' =>
    openIn_calls (m.kb k1) (A := A) (fun k hk => Nat.lt_of_lt_of_le (hA k hk) k1.1) (r.kb k1) hl (rn.kb k1) hk'
  -- what the numbers say
  have hu := until_range ns l l.length
  have hi := implied_range s l l.length
  have hc := clear_range ns l l.length
  have hiu := item_until ns l l.length
  have key : ∀ (all but lis wide : Bool), (but = true → all = true) → (lis = true → all = true) → (all = true → wide = true) → (all = true → 0 ≤ untilP l ns) → ∀ h1, KB h h1 →
      Sx.l11_OpenScopes.n10 b n c b2 n2 c2 s all but lis wide (fun y6 h => K (.bool y6) h) (fun y6 h => K (.bool y6) h) h1 := by
    intro all but lis wide hb1 hb2 hb3 hb4 h1 k1
    refine openUntil_calls (A := A) (fun k hk => Nat.lt_of_lt_of_le (hA k hk) k1.1) (r.kb k1) (rn.kb k1) fun h2 k2 => vIntMk ?_
    have k02 := k1.trans k2
    have fin : HCalls Try.prog 16 ⟨[(.slice b n c), (S s)]⟩ h2 fun v136 h137 => vInt .i64 v136 fun i138 => HCalls Try.prog 20 ⟨[(.slice b n c), (.slice b2 n2 c2)]⟩ h137 fun v139 h140 => vInt .i64 v139 fun i141 => HCalls Try.prog 22 ⟨[(.slice b n c), (.slice b2 n2 c2)]⟩ h140 fun v142 h143 => vInt .i64 v142 fun i144 => Spl (i138 ≥ (0 : Int)) (Spl (i138 ≤ (n : Int)) (Spl (i141 ≥ (0 : Int)) (Spl (i141 ≤ (n : Int)) (Spl (untilP l ns < (n : Int)) (Spl (i144 < (n : Int)) (Spl (i144 ≤ (if (-1 : Int) > untilP l ns then (-1 : Int) else untilP l ns)) (K (.bool true) h143) (K (.bool false) h143)) (K (.bool false) h143)) (K (.bool false) h143)) (K (.bool false) h143)) (K (.bool false) h143)) (K (.bool false) h143)) (K (.bool false) h143) := by
      refine openImplied_calls (m.kb k02) (A := A) (fun k hk => Nat.lt_of_lt_of_le (hA k hk) k02.1) (r.kb k02) hl fun h3 k3 => vIntMk ?_
      have k03 := k02.trans k3
      refine openClear_calls (A := A) (fun k hk => Nat.lt_of_lt_of_le (hA k hk) k03.1) (r.kb k03) (rn.kb k03) fun h4 k4 => vIntMk ?_
      have k04 := k03.trans k4
      refine openItem_calls (m.kb k04) (A := A) (fun k hk => Nat.lt_of_lt_of_le (hA k hk) k04.1) (r.kb k04) hl (rn.kb k04) fun h5 k5 => vIntMk ?_
      have e1 : impliedP l s = scanTo (impliedF s) 0 l l.length := rfl
      have e2 : clearO l ns = scanTo (clearF ns) 0 l l.length := rfl
      have e3 : untilP l ns = scanTo (untilF ns) (-1) l l.length := rfl
      have e4 : itemP l ns = scanTo (itemF ns) (-1) l l.length := rfl
      rw [← hln, e1, e2, e3, e4]
      refine splT (by omega) (splT (by omega) (splT (by omega) (splT (by omega) (splT (by omega) (splT (by omega) (splT ?_ (hk h5 (k04.trans k5))))))))
      rw [if_neg (by omega)]
      exact hiu
    cases all
    · cases but
      · cases lis
        · exact fin
        · cases hb2 rfl
      · cases hb1 rfl
    · have hw := hb3 rfl
      subst hw
      have h4 := hb4 rfl
      cases but <;> cases lis <;> exact splF (by omega) fin
  refine hin 0 h1 k1 fun h2 k2 => vBool_mk ?_
  have k02 := k1.trans k2
  have three : Sx.l11_OpenScopes.n4 b n c b2 n2 c2 s (inP l 0 ns) (fun y6 h => K (.bool y6) h) (fun y6 h => K (.bool y6) h) h2 := by
    refine hin 2 h2 k02 fun h3 k3 => vBool_mk ?_
    have k03 := k02.trans k3
    have four : Sx.l11_OpenScopes.n5 b n c b2 n2 c2 s (inP l 0 ns) (inP l 2 ns) (fun y6 h => K (.bool y6) h) (fun y6 h => K (.bool y6) h) h3 := by
      refine hin 1 h3 k03 fun h4 k4 => vBool_mk ?_
      have k04 := k03.trans k4
      have six : Sx.l11_OpenScopes.n6 b n c b2 n2 c2 s (inP l 0 ns) (inP l 2 ns) (inP l 1 ns) (fun y6 h => K (.bool y6) h) (fun y6 h => K (.bool y6) h) h4 := by
        have nine : ∀ h5 b5 n5 c5, KB h4 h5 → OwnF elStr h5 h4.size 9 b5 n5 c5 ns → Sx.l11_OpenScopes.n8 b n c b2 n2 c2 s (inP l 0 ns) (inP l 2 ns) (inP l 1 ns) b5 n5 c5 (fun y6 h => K (.bool y6) h) (fun y6 h => K (.bool y6) h) h5 := by
          intro h5 b5 n5 c5 k5 o5
          have h5l := o5.own.len
          have hln2 := rn.len
          refine newx_var fun a6 h6 v6 k6 e6 _ => ?_
          have k6s := k6.1
          have k5s := k5.1
          refine OwnF.append apdStr (o5.kb k6) (v6.row1 (x := s) ⟨rfl, by simp only [maxLen]; omega⟩ ⟨v6.lt, fun x hx => by have := o5.hi x hx; omega⟩) (by simp only [maxLen]; omega) (by omega) (by omega) fun b7 c7 h7 o7 g7 => vSliceMk ?_
          have k07 : KB h h7 := k04.trans (Grow.kb0 (k5.trans k6) g7 o5.lo)
          refine openIn_calls (m.kb k07) (A := A) (fun k hk => Nat.lt_of_lt_of_le (hA k hk) k07.1) (r.kb k07) hl o7.row fun h8 k8 => vBool_mk ?_
          have := key (inP l 0 ns) (inP l 2 ns) (inP l 1 ns) (inP l 0 (ns ++ [s])) (in_less (by decide) ns l l.length) (in_less (by decide) ns l l.length) (in_more (fun x hx => List.mem_append_left _ hx) l l.length) (in_until 0 ns l l.length) h8 (k07.trans k8)
          cases hwd : inP l 0 (ns ++ [s]) <;> rw [hwd] at this <;> exact this
        refine Row.appendF (B := B) apdStr (Row.nil B h4) (by omega) (rn.kb k04) (fun _ => rfl) (by rw [Nat.zero_add]; exact Nat.le_trans rn.cap rn.max) (by omega) (fun hz => ?_) fun c5 h5 hz o5 k5 => vSliceMk ?_
        · have : ns = [] := List.eq_nil_of_length_eq_zero (by rw [rn.len, hz])
          exact vSliceMk (nine h4 none 0 0 (KB.refl _) (by rw [this]; exact OwnF.none _ _ _))
        · rw [List.nil_append] at o5
          exact nine h5 _ _ c5 k5 o5
      cases hx : inP l 1 ns <;> rw [hx] at six <;> exact six
    cases hx : inP l 2 ns <;> rw [hx] at four <;> exact four
  cases hx : inP l 0 ns <;> rw [hx] at three <;> exact three

/-! ### OpenOrder -/
theorem wrap_rng (n : Int) : Rng .u8 (IntKind.wrap .u8 n) := by
  constructor <;> simp [IntKind.wrap, IntKind.min, IntKind.max, IntKind.bits, IntKind.signed] <;> omega
def turnO (more : List Int) (i : Nat) (x : OpenP) : OpenP := if i < more.length then (more.getD i 0, x.2.1, x.2.2.1, IntKind.wrap .u8 (more.getD i 0)) else x
def turnTo (l : List OpenP) (more : List Int) : Nat → List OpenP
  | 0 => []
  | i + 1 => turnTo l more i ++ [turnO more i (l.getD i (0, 0, [], 0))]
theorem turnTo_len (l : List OpenP) (more : List Int) : ∀ i, (turnTo l more i).length = i
  | 0 => rfl
  | i + 1 => by unfold turnTo; rw [List.length_append, turnTo_len l more i]; rfl
theorem turnTo_get (l : List OpenP) (more : List Int) : ∀ k i, i < k → (turnTo l more k).getD i (0, 0, [], 0) = turnO more i (l.getD i (0, 0, [], 0))
  | 0, i, h => by omega
  | k + 1, i, h => by
    unfold turnTo
    rw [List.getD_eq_getElem?_getD]
    by_cases e : i < k
    · rw [List.getElem?_append_left (by rw [turnTo_len]; exact e), ← List.getD_eq_getElem?_getD]; exact turnTo_get l more k i e
    · have : i = k := by omega
      subst this
      rw [List.getElem?_append_right (by rw [turnTo_len]; exact Nat.le_refl _), turnTo_len, Nat.sub_self]
      rfl
theorem turnO_same (more : List Int) (i : Nat) (x : OpenP) : (turnO more i x).2.1 = x.2.1 ∧ (turnO more i x).2.2.1 = x.2.2.1 := by unfold turnO; split <;> exact ⟨rfl, rfl⟩
theorem one_eq {x y : OpenP} {ns ms : List Bs} (h1 : x.2.1 = y.2.1) (h2 : x.2.2.1 = y.2.2.1) (hm : ∀ s, s ∈ ns ↔ s ∈ ms) : oneP x ns = oneP y ms := by
  unfold oneP inNames
  rw [h1, h2, Bool.eq_iff_iff]
  simp [hm]
theorem bounds_eq {x y : OpenP} (h1 : x.2.1 = y.2.1) (h2 : x.2.2.1 = y.2.2.1) (sc : Int) : boundsP x sc = boundsP y sc := by
  unfold boundsP
  rw [one_eq h1 h2 fun _ => Iff.rfl, h1, h2]
theorem turn_scan {R : Type} {f g : Nat → OpenP → Option R} {d : R} (l : List OpenP) (more : List Int) (h : ∀ i x y, x.2.1 = y.2.1 → x.2.2.1 = y.2.2.1 → f i x = g i y) : scan f d l = scan g d (turnTo l more l.length) := by
  unfold scan
  rw [turnTo_len]
  refine scanTo_congr fun i hi => ?_
  rw [turnTo_get l more _ _ hi]
  obtain ⟨h1, h2⟩ := turnO_same more i (l.getD i (0, 0, [], 0))
  exact h i _ _ h1.symm h2.symm

theorem lawOrder_calls (m : ML h) (hA : ∀ k, A k → k < h.size) (r : Row elOpen A h b n c l) (hl : ∀ x ∈ l, x.2.2.1.length ≤ 9000000000000000000) (rn : Row elStr B h b2 n2 c2 ns) (rm : Row (elInt .i64) C h b3 n3 c3 more) {K : Value → H → Prop} (hk : ∀ h', KB h h' → K (.bool true) h') :
    HCalls Try.prog 7 ⟨[.slice b n c, .int .u8 sc, .slice b2 n2 c2, .slice b3 n3 c3]⟩ h K := by
  have hln := r.len
  have hln2 := rn.len
  have hln3 := rm.len
  have kn : ∀ h1, KB h h1 → HCalls Try.prog 9 ⟨[]⟩ h1 (fun v h => vBool v fun b => cond b (K (.bool true) h) (K (.bool false) h)) := fun h1 k1 => known_calls (m.kb k1) fun h2 k2 => vBool_mk (hk h2 (k1.trans k2))
  refine Sx.l11_OpenOrder.ok _ _ _ _ _ _ _ _ _ _ _ _ (much_calls r rn fun w hw => condB (fun _ => kn h (KB.refl h)) fun e => spl (fun _ => kn h (KB.refl h)) fun h3000 => known_calls m fun h1 k1 => vBool_mk (condT ?_))
  obtain ⟨hn1, hn2⟩ := hw e
  -- the questions, asked of both
  have mem : ∀ s, s ∈ ns ↔ s ∈ ns.reverse := fun s => by simp
  have eIn : inP l sc ns = inP (turnTo l more n) sc ns.reverse := by
    rw [← hln]
    exact turn_scan l more fun i x y h1 h2 => by unfold inF; rw [one_eq h1 h2 mem, bounds_eq h1 h2]
  have eUn : untilP l ns = untilP (turnTo l more n) ns.reverse := by
    rw [← hln]
    exact turn_scan l more fun i x y h1 h2 => by unfold untilF; rw [one_eq h1 h2 mem]
  have eCl : clearO l ns = clearO (turnTo l more n) ns.reverse := by
    rw [← hln]
    exact turn_scan l more fun i x y h1 h2 => by unfold clearF; rw [one_eq h1 h2 mem, one_eq h1 h2 fun _ => Iff.rfl]
  have eIt : itemP l ns = itemP (turnTo l more n) ns.reverse := by
    rw [← hln]
    exact turn_scan l more fun i x y h1 h2 => by unfold itemF; rw [one_eq h1 h2 mem, one_eq (ns := wStop) h1 h2 fun _ => Iff.rfl, h1, h2]
  have eIm : impliedP l [112] = impliedP (turnTo l more n) [112] := by
    rw [← hln]
    exact turn_scan l more fun i x y h1 h2 => by unfold impliedF; rw [h1, h2]
  have ask : ∀ h2 h5 b9 n9 c9 b11 n11 c11, KB h h2 → KB h2 h5 → Row elStr (Bel h2.size) h2 b9 n9 c9 ns.reverse → OwnF elOpen h5 h2.size 37 b11 n11 c11 (turnTo l more n) →
      Sx.l11_OpenOrder.n7 b n c sc b2 n2 c2 b9 n9 c9 b11 n11 c11 (fun y8 h => K (.bool y8) h) (fun y8 h => K (.bool y8) h) h5 := by
    intro h2 h5 b9 n9 c9 b11 n11 c11 k2 k25 r9 o11
    have k5 := k2.trans k25
    have hl11 : ∀ x ∈ turnTo l more n, x.2.2.1.length ≤ 9000000000000000000 := fun x hx => by
      obtain ⟨i, hi, e⟩ := List.mem_iff_getElem.1 hx
      rw [turnTo_len] at hi
      have := turnTo_get l more n i hi
      rw [getD_get (by rw [turnTo_len]; exact hi), e] at this
      rw [this, (turnO_same _ _ _).2, getD_get (by omega)]
      exact hl _ (List.getElem_mem _)
    have at1 : ∀ h6, KB h5 h6 → (∀ k, A k → k < h6.size) ∧ (∀ k, (Bel h5.size) k → k < h6.size) := fun h6 k6 => ⟨fun k hk => Nat.lt_of_lt_of_le (hA k hk) (k5.trans k6).1, fun k hk => Nat.lt_of_lt_of_le hk k6.1⟩
    have eight : ∀ h6, KB h5 h6 → Sx.l11_OpenOrder.n8 b n c b2 n2 c2 b9 n9 c9 b11 n11 c11 true (fun y8 h => K (.bool y8) h) (fun y8 h => K (.bool y8) h) h6 := fun h6 k6 => by
      refine condT (openClear_calls (A := A) (at1 h6 k6).1 (r.kb (k5.trans k6)) (rn.kb (k5.trans k6)) fun h7 k7 => vIntMk (openClear_calls (A := Bel h5.size) (at1 h7 (k6.trans k7)).2 (o11.row.kb (k6.trans k7)) (r9.kb (k25.trans (k6.trans k7))) fun h8 k8 => vIntMk (splT eCl ?_)))
      have k58 := (k6.trans k7).trans k8
      refine openItem_calls (m.kb (k5.trans k58)) (A := A) (at1 h8 k58).1 (r.kb (k5.trans k58)) hl (rn.kb (k5.trans k58)) fun h9 k9 => vIntMk (openItem_calls (m.kb (k5.trans (k58.trans k9))) (A := Bel h5.size) (at1 h9 (k58.trans k9)).2 (o11.row.kb (k58.trans k9)) hl11 (r9.kb (k25.trans (k58.trans k9))) fun h10 k10 => vIntMk (splT eIt ?_))
      have k510 := (k58.trans k9).trans k10
      refine openImplied_calls (m.kb (k5.trans k510)) (A := A) (at1 h10 k510).1 (r.kb (k5.trans k510)) hl fun h11 k11 => vIntMk (openImplied_calls (m.kb (k5.trans (k510.trans k11))) (A := Bel h5.size) (at1 h11 (k510.trans k11)).2 (o11.row.kb (k510.trans k11)) hl11 fun h12 k12 => vIntMk (splT eIm ?_))
      exact hk h12 (k5.trans ((k510.trans k11).trans k12))
    refine openIn_calls (m.kb k5) (A := A) (at1 h5 (KB.refl _)).1 (r.kb k5) hl (rn.kb k5) fun h6 k6 => vBool_mk ?_
    have un : ∀ h7, KB h5 h7 → HCalls Try.prog 18 ⟨[(.slice b n c), (.slice b2 n2 c2)]⟩ h7 fun v129 h130 => vInt .i64 v129 fun i131 => HCalls Try.prog 18 ⟨[(.slice b11 n11 c11), (.slice b9 n9 c9)]⟩ h130 fun v132 h133 => vInt .i64 v132 fun i134 => Spl (i131 = i134) (Sx.l11_OpenOrder.n8 b n c b2 n2 c2 b9 n9 c9 b11 n11 c11 true (fun y8 h => K (.bool y8) h) (fun y8 h => K (.bool y8) h) h133) (Sx.l11_OpenOrder.n8 b n c b2 n2 c2 b9 n9 c9 b11 n11 c11 false (fun y8 h => K (.bool y8) h) (fun y8 h => K (.bool y8) h) h133) := fun h7 k7 =>
      openUntil_calls (A := A) (at1 h7 k7).1 (r.kb (k5.trans k7)) (rn.kb (k5.trans k7)) fun h8 k8 => vIntMk (openUntil_calls (A := Bel h5.size) (at1 h8 (k7.trans k8)).2 (o11.row.kb (k7.trans k8)) (r9.kb (k25.trans (k7.trans k8))) fun h9 k9 => vIntMk (splT eUn (eight h9 ((k7.trans k8).trans k9))))
    cases hx : inP l sc ns
    · refine condF (openIn_calls (m.kb (k5.trans k6)) (A := Bel h5.size) (at1 h6 k6).2 (o11.row.kb k6) hl11 (r9.kb (k25.trans k6)) fun h7 k7 => vBool_mk ?_)
      rw [← eIn, hx]
      exact condF (un h7 (k6.trans k7))
    · refine condT (openIn_calls (m.kb (k5.trans k6)) (A := Bel h5.size) (at1 h6 k6).2 (o11.row.kb k6) hl11 (r9.kb (k25.trans k6)) fun h7 k7 => vBool_mk ?_)
      rw [← eIn, hx]
      exact condT (un h7 (k6.trans k7))
  -- the second loop
  have turn : ∀ h2 b9 n9 c9, KB h h2 → Row elStr (Bel h2.size) h2 b9 n9 c9 ns.reverse → ∀ k i h5 b11 n11 c11, i + k = n → KB h2 h5 → OwnF elOpen h5 h2.size 37 b11 n11 c11 (turnTo l more i) →
      Sx.l11_OpenOrder.n11_L (fun z0b z0n z0c z1 z2b z2n z2c z9b z9n z9c z11b z11n z11c h => Sx.l11_OpenOrder.n7 z0b z0n z0c z1 z2b z2n z2c z9b z9n z9c z11b z11n z11c (fun y8 h => K (.bool y8) h) (fun y8 h => K (.bool y8) h) h)
        (fun z0b z0n z0c z1 z2b z2n z2c z9b z9n z9c z11b z11n z11c h => Sx.l11_OpenOrder.n7 z0b z0n z0c z1 z2b z2n z2c z9b z9n z9c z11b z11n z11c (fun y8 h => K (.bool y8) h) (fun y8 h => K (.bool y8) h) h) (fun y8 h => K (.bool y8) h)
        (k + 1) b n c sc b2 n2 c2 b3 n3 c3 b9 n9 c9 b11 n11 c11 (i : Int) h5 := by
    intro h2 b9 n9 c9 k02 r9 k
    induction k with
    | zero =>
      intro i h5 b11 n11 c11 hi k5 o11
      have e : i = n := by omega
      subst e
      exact splF (by omega) (ask h2 h5 b9 n9 c9 b11 n11 c11 k02 k5 r9 o11)
    | succ k ih =>
      intro i h5 b11 n11 c11 hi k5 o11
      have hil : i < l.length := by omega
      have hol := o11.own.len
      rw [turnTo_len] at hol
      have k05 := k02.trans k5
      have k5s := k5.1
      -- behind the turns: one more
      have next : ∀ h8 a6 (x : OpenP), KB h5 h8 → Var h8 a6 37 (cellsO x) → OpenW x → x = turnO more i l[i] → ∀ (Kn Ke3 : Sx.l11_OpenOrder.T6) (Ke2 : Sx.l11_OpenOrder.T4) (Kr : Sx.l11_OpenOrder.T0),
          (∀ b12 n12 c12 h12, KB h2 h12 → OwnF elOpen h12 h2.size 37 b12 n12 c12 (turnTo l more (i + 1)) → Kn b n c sc b2 n2 c2 b3 n3 c3 b9 n9 c9 b12 n12 c12 i h12) →
          Sx.l11_OpenOrder.n18 b n c sc b2 n2 c2 b3 n3 c3 b9 n9 c9 b11 n11 c11 (i : Int) a6 Kn Ke3 Ke2 Kr h8 := by
        intro h8 a6 x k8 v8 hx ex Kn Ke3 Ke2 Kr hK
        refine ldVar v8 (newx_var fun a9 h9 v9 k9 e9 _ => ?_)
        have k59 := k8.trans k9
        have k59s := k59.1
        have k9s := k9.1
        have k8s := k8.1
        refine OwnF.append apdOpen (o11.kb k59) (v9.row1 (x := x) (OpenW.r hx) ⟨v9.lt, fun y hy => by have := o11.hi y hy; omega⟩) (by simp only [maxLen]; omega) (by omega) (by omega) fun b12 c12 h12 o12 g12 => vSliceMk (hK b12 _ c12 h12 (Grow.kb0 (k5.trans k59) g12 o11.lo) ?_)
        unfold turnTo
        rw [getD_get hil, ← ex]; exact o12
      refine splT (by omega) ((r.kb k05).idxN hil rfl fun a hA => ldOpen hA fun hw => newx_var fun a6 h6 v6 k6 e6 _ => stL_var0 v6 (Nat.le_refl _) fun h7 v7 k7 s7 => ?_)
      have k57 : KB h5 h7 := KB.step k6 k7 (by omega)
      refine spl (fun hm => condT ?_) fun hm => condF (next h7 a6 l[i] k57 v7 hw (by unfold turnO; rw [if_neg (by omega)]) _ _ _ _ fun b12 n12 c12 h12 k12 o12 => ⟨rng64 (by omega) (by omega), ih (i + 1) h12 b12 n12 c12 (by omega) k12 o12⟩)
      have him : i < more.length := by omega
      have k07 := k05.trans k57
      refine (rm.kb k07).idxN him rfl fun a hA => ldI hA fun hr => stL_var (m := 0) (i := 0) v7 (Nat.le_of_ble_eq_true rfl) fun h8 v8 k8 s8 => ?_
      have k58 : KB h5 h8 := KB.step k57 k8 (by omega)
      refine (rm.kb (k05.trans k58)).idxN him rfl fun a hA => ldI hA fun hr => stL_var (m := 3) (i := 0) v8 (Nat.le_of_ble_eq_true rfl) fun h9 v9 k9 s9 => ?_
      have k59 : KB h5 h9 := KB.step k58 k9 (by omega)
      refine next h9 a6 (more[i], l[i].2.1, l[i].2.2.1, IntKind.wrap .u8 more[i]) k59 v9 ⟨hr, hw.2.1, hw.2.2.1, wrap_rng _⟩ (by unfold turnO; rw [if_pos him, getD_get him]) _ _ _ _ fun b12 n12 c12 h12 k12 o12 => ⟨rng64 (by omega) (by omega), ih (i + 1) h12 b12 n12 c12 (by omega) k12 o12⟩
  -- the first loop
  refine ⟨rng64 (by omega) (by omega), n2 + 1, ?_⟩
  have first : ∀ k h5 b9 n9 c9, k ≤ n2 → KB h1 h5 → OwnF elStr h5 h1.size 9 b9 n9 c9 (ns.drop k).reverse →
      Sx.l11_OpenOrder.n23_L (fun z0b z0n z0c z1 z2b z2n z2c z3b z3n z3c z9b z9n z9c h => Sx.l11_OpenOrder.n5 z0b z0n z0c z1 z2b z2n z2c z3b z3n z3c z9b z9n z9c (fun y8 h => K (.bool y8) h) (fun y8 h => K (.bool y8) h) h)
        (fun z0b z0n z0c z1 z2b z2n z2c z3b z3n z3c z9b z9n z9c h => Sx.l11_OpenOrder.n5 z0b z0n z0c z1 z2b z2n z2c z3b z3n z3c z9b z9n z9c (fun y8 h => K (.bool y8) h) (fun y8 h => K (.bool y8) h) h) (fun y8 h => K (.bool y8) h)
        (k + 1) b n c sc b2 n2 c2 b3 n3 c3 b9 n9 c9 ((k : Int) - 1) h5 := by
    intro k
    induction k with
    | zero =>
      intro h5 b9 n9 c9 hk2 k5 o9
      rw [List.drop_zero] at o9
      exact splF (by omega) ⟨n + 1, turn h5 b9 n9 c9 (k1.trans k5) o9.row n 0 h5 none 0 0 (by omega) (KB.refl _) (OwnF.none _ _ _)⟩
    | succ k ih =>
      intro h5 b9 n9 c9 hk2 k5 o9
      have hx : ((k + 1 : Nat) : Int) - 1 = (k : Int) := by omega
      rw [hx]
      have hkl : k < ns.length := by omega
      have hol := o9.own.len
      simp only [List.length_reverse, List.length_drop] at hol
      refine splT (by omega) ((rn.kb (k1.trans k5)).idxN hkl rfl fun a hA => ldS hA fun hs => newx_var fun a6 h6 v6 k6 e6 _ => ?_)
      have k6s := k6.1
      have k5s := k5.1
      refine OwnF.append apdStr (o9.kb k6) (v6.row1 (x := ns[k]) ⟨rfl, hs⟩ ⟨v6.lt, fun x hx => by have := o9.hi x hx; omega⟩) (by simp only [maxLen]; omega) (by omega) (by omega) fun b7 c7 h7 o7 g7 => vSliceMk ⟨rng64 (by omega) (by omega), ih h7 b7 _ c7 (by omega) (Grow.kb0 (k5.trans k6) g7 o9.lo) ?_⟩
      rw [List.drop_eq_getElem_cons hkl, List.reverse_cons]; exact o7
  exact first n2 h1 none 0 0 (Nat.le_refl _) (KB.refl _) (by rw [List.drop_of_length_le (by omega)]; exact OwnF.none _ _ _)
end
end Go.Proofs
