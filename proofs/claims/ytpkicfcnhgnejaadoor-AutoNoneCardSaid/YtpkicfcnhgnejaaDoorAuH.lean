/- auto: cut of the chapter. No condition. auto: domain of the chapter. No condition. auto: what a domain is made of; mail. Plain, no program. No condition. auto: where an address stops; pages. Plain, no program. No condition. auto: mail of both. No condition. -/
import Derived.Test.YtpkicfcnhgnejaaDoorAuA
import Derived.Test.YtpkicfcnhgnejaaDoorWalkClassDS
namespace Go.Proofs
open Go Go.Sh
set_option linter.unusedVariables false
set_option maxRecDepth 100000
section
variable {h : H} {K : Value → H → Prop} {s : Bs} {c : UInt8}
theorem back_loop {t : Bs} {least n x6 : Int} {Kx : Sx.r28_cut.T5} {K1 : Sx.r28_cut.T1} {K0 : Sx.r28_cut.T2} {Kr : Sx.r28_cut.T0} (hk : ∀ m : Nat, Kx t least n x6 (m : Int) h → True) :
    ∀ N k, k ≤ N → k ≤ t.length → k ≤ 1000000 → Kx t least n x6 (backP t k : Int) h → Sx.r28_cut.n22_L Kx Kx K1 K0 Kr (N + 1) t least n x6 (k : Int) h := by
  intro N
  induction N with
  | zero =>
    intro k hN hl hm hx
    have : k = 0 := by omega
    subst this
    unfold Sx.r28_cut.n22_L
    exact splF (by omega) hx
  | succ N ih =>
    intro k hN hl hm hx
    unfold Sx.r28_cut.n22_L
    refine spl (fun hp => ?_) fun hz => ?_
    · obtain ⟨j, rfl⟩ : ∃ j, k = j + 1 := ⟨k - 1, by omega⟩
      rw [show (((j + 1 : Nat) : Int) - 1) = (j : Int) by omega, Int.toNat_natCast]
      refine ⟨rng64 (by omega) (by omega), ⟨by omega, by omega⟩, alnum_calls (vBool_mk (condB (fun e => ⟨rng64 (by omega) (by omega), ih j (by omega) (by omega) (by omega) ?_⟩) fun e => ?_))⟩
      · unfold backP at hx; rw [if_pos e] at hx; exact hx
      · unfold backP at hx; rw [if_neg (by rw [e]; decide)] at hx; exact hx
    · have : k = 0 := by omega
      subst this
      exact hx
theorem cutR_calls {least : Nat} (hs : s.length ≤ 1000000) (hk : K (S (trimP s least)) h) : HCalls Tryd.prog 26 ⟨[S s, .int .i64 (least : Int)]⟩ h K := by
  refine Sx.r28_cut.ok _ _ _ _ ⟨s.length + 1, ?_⟩
  have key : ∀ N t, t.length ≤ N → t.length ≤ 1000000 → trimGo N t least = trimP s least →
      Sx.r28_cut.n5_L (fun z0 h => Sx.r28_cut.n3 z0 (fun y4 h => K (S y4) h) (fun y4 h => K (S y4) h) h) (fun z0 h => Sx.r28_cut.n3 z0 (fun y4 h => K (S y4) h) (fun y4 h => K (S y4) h) h) (fun y4 h => K (S y4) h) (N + 1) t (least : Int) h := by
    intro N
    induction N with
    | zero =>
      intro t hN hl e
      unfold Sx.r28_cut.n5_L
      refine splF (by omega) ?_
      show K (S t) h
      rw [show t = trimP s least from e]
      exact hk
    | succ N ih =>
      intro t hN hl e
      unfold Sx.r28_cut.n5_L
      have same : trimP s least = t → K (S t) h := fun e2 => by rw [← e2]; exact hk
      refine spl (fun hgt => ⟨rng64 (by omega) (by omega), ⟨by omega, by omega⟩, rng64 (by omega) (by omega), ⟨t.length, ?_⟩⟩) fun hle => ?_
      · have e' := e
        unfold trimGo at e'
        rw [if_pos (show t.length > least by omega)] at e'
        obtain ⟨m, hm⟩ : ∃ m, t.length = m + 1 := ⟨t.length - 1, by omega⟩
        have hcast : ((t.length : Int) - 1) = (m : Int) := by omega
        have hm1 : t.length - 1 = m := by omega
        rw [hm1] at e'
        rw [hcast, Int.toNat_natCast]
        rw [show t.length = m + 1 from hm]
        refine back_loop (fun _ _ => trivial) m m (Nat.le_refl m) (by omega) (by omega) ?_
        have hbl := back_le t m
        rw [show ((m + 1 : Nat) : Int) = (t.length : Int) by omega]
        have drop1 : (signB (t.getD m 0) = true ∨ (t.getD m 0 = 41 ∧ moreP t = true)) → Sx.r28_cut.n15 t (least : Int) (t.length : Int) (fun z0 z1 h => Sx.r28_cut.n5_L (fun z0 h => Sx.r28_cut.n3 z0 (fun y4 h => K (S y4) h) (fun y4 h => K (S y4) h) h) (fun z0 h => Sx.r28_cut.n3 z0 (fun y4 h => K (S y4) h) (fun y4 h => K (S y4) h) h) (fun y4 h => K (S y4) h) (N + 1) z0 z1 h) (fun _ _ _ => True) (fun _ _ _ => True) (fun _ _ => True) (fun _ _ => True) h := fun hc => by
          show Rng .i64 ((t.length : Int) - 1) ∧ (0 ≤ (0 : Int) ∧ (0 : Int) ≤ ((t.length : Int) - 1) ∧ ((t.length : Int) - 1) ≤ (t.length : Int)) ∧ _
          rw [hcast, sub_zero]
          rw [if_pos hc] at e'
          exact ⟨rng64 (by omega) (by omega), ⟨by omega, by omega, by omega⟩, ih (t.take m) (by rw [List.length_take]; omega) (by rw [List.length_take]; omega) e'⟩
        refine in_calls (by show 10 ≤ 1000000; omega) (vBool_mk (condB (fun e1 => condT (drop1 (.inl e1))) fun e1 => condF ?_))
        have rest : ¬ (signB (t.getD m 0) = true ∨ (t.getD m 0 = 41 ∧ moreP t = true)) → Sx.r28_cut.n19 t (least : Int) (t.length : Int) ((t.getD m 0).toNat : Int) (backP t m : Int) (fun z0 z1 h => Sx.r28_cut.n5_L (fun z0 h => Sx.r28_cut.n3 z0 (fun y4 h => K (S y4) h) (fun y4 h => K (S y4) h) h) (fun z0 h => Sx.r28_cut.n3 z0 (fun y4 h => K (S y4) h) (fun y4 h => K (S y4) h) h) (fun y4 h => K (S y4) h) (N + 1) z0 z1 h) (fun _ _ _ => True) (fun _ _ _ => True) (fun _ _ => True) (fun y4 h => K (S y4) h) h := fun hc => by
          rw [if_neg hc] at e'
          have hno : ¬ (t.getD m 0 = 59 ∧ namedP t m least = true) → K (S t) h := fun hn => same (by rw [if_neg hn] at e'; exact e'.symm)
          have hnn : ¬ (backP t m < m ∧ 0 < backP t m ∧ t.getD (backP t m - 1) 0 = 38 ∧ least ≤ backP t m - 1) → K (S t) h := fun hn => hno fun hh => hn (of_decide_eq_true hh.2)
          unfold Sx.r28_cut.n19
          rw [hcast]
          refine spl (fun e59 => ⟨rng64 (by omega) (by omega), spl (fun e2 => spl (fun e3 => ?_) fun e3 => condF (hnn fun hh => e3 (by omega))) fun e2 => condF (hnn fun hh => e2 (by omega))⟩) fun e59 => condF (hno fun hh => not_b (d := 59) e59 rfl hh.1)
          have hb1 : ((backP t m : Int) - 1) = ((backP t m - 1 : Nat) : Int) := by omega
          rw [hb1, Int.toNat_natCast]
          refine ⟨rng64 (by omega) (by omega), ⟨by omega, by omega⟩, spl (fun e4 => ⟨rng64 (by omega) (by omega), spl (fun e5 => condT ?_) fun e5 => condF (hnn fun hh => e5 (by omega))⟩) fun e4 => condF (hnn fun hh => not_b (d := 38) e4 rfl hh.2.2.1)⟩
          rw [if_pos ⟨b_of e59 rfl, decide_eq_true ⟨by omega, by omega, b_of e4 rfl, by omega⟩⟩] at e'
          rw [hb1, sub_zero]
          exact ⟨rng64 (by omega) (by omega), ⟨by omega, by omega, by omega⟩, ih (t.take (backP t m - 1)) (by rw [List.length_take]; omega) (by rw [List.length_take]; omega) e'⟩
        have e1' : signB (t.getD m 0) = false := e1
        refine spl (fun e2 => count_calls (c := 41) hl (vIntMk (count_calls (c := 40) hl (vIntMk (spl (fun e3 => ?_) fun e3 => condF (rest ?_)))))) fun e2 => condF (rest ?_)
        · exact condT (drop1 (.inr ⟨b_of e2 rfl, decide_eq_true (by omega)⟩))
        · rintro (hh | hh)
          · rw [e1'] at hh; cases hh
          · have := of_decide_eq_true hh.2; omega
        · rintro (hh | hh)
          · rw [e1'] at hh; cases hh
          · exact not_b (d := 41) e2 rfl hh.1
      · refine same ?_
        unfold trimGo at e
        rw [if_neg (by omega)] at e
        exact e.symm
  exact key s.length s (Nat.le_refl _) hs rfl
end
end Go.Proofs
namespace Go.Proofs
open Go Go.Sh
set_option linter.unusedVariables false
set_option maxRecDepth 100000
theorem apdBo : Apd Tryd.prog elBool 58 4 1 := apd_of (sz := 1) (by kernel_rfl) rfl
theorem lineB_snoc {t : Bs} {n : Nat} (hn : n < t.length) : lineB (t.take (n + 1)) = (lineB (t.take n) || decide (t.getD n 0 = 95)) := by
  unfold lineB
  rw [List.take_add_one, List.getElem?_eq_getElem hn, getD_get hn, Bool.eq_iff_iff]
  simp only [Option.toList_some, List.mem_append, List.mem_singleton, Bool.or_eq_true, decide_eq_true_eq]
  exact ⟨fun h => h.elim .inl fun e => .inr e.symm, fun h => h.elim .inl fun e => .inr e.symm⟩
theorem getD_drop (s : Bs) (k n : Nat) : (s.drop k).getD n 0 = s.getD (k + n) 0 := by
  rw [List.getD_eq_getElem?_getD, List.getD_eq_getElem?_getD, List.getElem?_drop]
/-- where the domain ends, or 0 -/
def domE (t : Bs) (i : Nat) : Nat := if domOk (domP t).1 = true then i + (domP t).2 else 0
section
variable {h : H} {K : Value → H → Prop} {s : Bs} {c : UInt8}
theorem inner {k : Nat} {b : Option Addr} {nn cc : Nat} {any : Bool} {Kx : Sx.r28_domain.T7} {K1 : Sx.r28_domain.T4} {K0 : Sx.r28_domain.T5} {Kr : Sx.r28_domain.T0} (hs : s.length ≤ 1000000) (hkl : k ≤ s.length)
    (hx : Kx s b nn cc any (k : Int) (spanP hostB (s.drop k) : Int) (lineB ((s.drop k).take (spanP hostB (s.drop k)))) h) :
    ∀ N n, s.length ≤ k + n + N → n ≤ spanP hostB (s.drop k) → Sx.r28_domain.n15_L Kx Kx K1 K0 Kr (N + 1) s b nn cc any (k : Int) (n : Int) (lineB ((s.drop k).take n)) h := by
  have hq := span_le hostB (s.drop k)
  rw [List.length_drop] at hq
  intro N
  induction N with
  | zero =>
    intro n hN hn
    have : n = spanP hostB (s.drop k) := by omega
    unfold Sx.r28_domain.n15_L
    refine ⟨rng64 (by omega) (by omega), splF (by omega) ?_⟩
    rw [this]; exact hx
  | succ N ih =>
    intro n hN hn
    unfold Sx.r28_domain.n15_L
    rw [show ((k : Int) + (n : Int)) = ((k + n : Nat) : Int) by omega, Int.toNat_natCast]
    refine ⟨rng64 (by omega) (by omega), spl (fun hlt => ?_) fun hge => ?_⟩
    · have hlt' : k + n < s.length := by omega
      have hc : (s.drop k).getD n 0 = s.getD (k + n) 0 := getD_drop s k n
      by_cases hnq : n < spanP hostB (s.drop k)
      · have hh := span_all hostB (s.drop k) n hnq
        rw [hc] at hh
        have e1 := lineB_snoc (t := s.drop k) (n := n) (by rw [List.length_drop]; omega)
        rw [hc] at e1
        have G := ih (n + 1) (by omega) (by omega)
        rw [e1] at G
        have G1 : cond (lineB ((s.drop k).take n)) (Rng .i64 ((n : Int) + (1 : Int)) ∧ (Sx.r28_domain.n15_L Kx Kx K1 K0 Kr (N + 1) s b nn cc any (k : Int) ((n : Int) + (1 : Int)) true h)) (Rng .i64 ((k + n : Nat) : Int) ∧ ((0 ≤ ((k + n : Nat) : Int) ∧ ((k + n : Nat) : Int) < (s.length : Int)) ∧ (Spl (((List.getD s (k + n) 0).toNat : Int) = (95 : Int)) (Rng .i64 ((n : Int) + (1 : Int)) ∧ (Sx.r28_domain.n15_L Kx Kx K1 K0 Kr (N + 1) s b nn cc any (k : Int) ((n : Int) + (1 : Int)) true h)) (Rng .i64 ((n : Int) + (1 : Int)) ∧ (Sx.r28_domain.n15_L Kx Kx K1 K0 Kr (N + 1) s b nn cc any (k : Int) ((n : Int) + (1 : Int)) false h))))) := by
          cases hlb : lineB ((s.drop k).take n) with
          | true =>
            rw [hlb, Bool.true_or] at G
            exact ⟨rng64 (by omega) (by omega), G⟩
          | false =>
            rw [hlb, Bool.false_or] at G
            refine ⟨rng64 (by omega) (by omega), ⟨by omega, by omega⟩, spl (fun e => ⟨rng64 (by omega) (by omega), ?_⟩) fun e => ⟨rng64 (by omega) (by omega), ?_⟩⟩
            · rw [decide_eq_true (b_of (d := 95) e rfl)] at G; exact G
            · rw [decide_eq_false (not_b (d := 95) e rfl)] at G; exact G
        refine ⟨rng64 (by omega) (by omega), ⟨by omega, by omega⟩, alnum_calls (vBool_mk (condB (fun e => G1) fun e => ⟨rng64 (by omega) (by omega), ⟨by omega, by omega⟩, spl (fun e2 => G1) fun e2 => ⟨rng64 (by omega) (by omega), ⟨by omega, by omega⟩, spl (fun e3 => G1) fun e3 => ?_⟩⟩))⟩
        exfalso
        unfold hostB at hh
        rw [e, decide_eq_false (not_b (d := 45) e2 rfl), decide_eq_false (not_b (d := 95) e3 rfl)] at hh
        cases hh
      · have hn2 : n = spanP hostB (s.drop k) := by omega
        have hh := span_stop hostB (s.drop k) (by rw [List.length_drop]; omega)
        rw [← hn2, hc] at hh
        unfold hostB at hh
        rw [Bool.or_eq_false_iff, Bool.or_eq_false_iff] at hh
        refine ⟨rng64 (by omega) (by omega), ⟨by omega, by omega⟩, alnum_calls (vBool_mk (condB (fun e => ?_) fun e => ⟨rng64 (by omega) (by omega), ⟨by omega, by omega⟩, splF (fun e2 => ?_) ⟨rng64 (by omega) (by omega), ⟨by omega, by omega⟩, splF (fun e3 => ?_) ?_⟩⟩))⟩
        · rw [hh.1] at e; cases e
        · exact of_decide_eq_false hh.2.1 (b_of e2 rfl)
        · exact of_decide_eq_false hh.2.2 (b_of e3 rfl)
        · rw [hn2]; exact hx
    · have : n = spanP hostB (s.drop k) := by omega
      rw [this]; exact hx
theorem inner0 {k : Nat} {b : Option Addr} {nn cc : Nat} {any : Bool} {Kx : Sx.r28_domain.T7} {K1 : Sx.r28_domain.T4} {K0 : Sx.r28_domain.T5} {Kr : Sx.r28_domain.T0} (hs : s.length ≤ 1000000) (hkl : k ≤ s.length)
    (hx : Kx s b nn cc any (k : Int) (spanP hostB (s.drop k) : Int) (lineB ((s.drop k).take (spanP hostB (s.drop k)))) h) : Sx.r28_domain.n15_L Kx Kx K1 K0 Kr (s.length + 1) s b nn cc any (k : Int) (0 : Int) false h := by
  have := inner (K1 := K1) (K0 := K0) (Kr := Kr) hs hkl hx s.length 0 (by omega) (by omega)
  rw [show lineB ((s.drop k).take 0) = false by simp [lineB]] at this
  exact this
theorem domainR_calls {i : Nat} (hs : s.length ≤ 1000000) (hi : i ≤ s.length) (hk : ∀ h', KB h h' → K (.tuple ⟨[.int .i64 (domE (s.drop i) i : Int), .bool (anyP (s.drop i))]⟩) h') : HCalls Tryd.prog 24 ⟨[S s, .int .i64 (i : Int)]⟩ h K := by
  refine Sx.r28_domain.ok _ _ _ _ ⟨s.length + 2, ?_⟩
  have fin : ∀ (e : Nat) h1 ob on oc (out : List Bs), i + e ≤ 2000000 → KB h h1 → OwnF elBool h1 h.size 4 ob on oc (out.map lineB) → domP (s.drop i) = (out, e) → Sx.r28_domain.n6 ob on oc (out.any lineB) ((i + e : Nat) : Int) (fun y4 y5 h => K (.tuple ⟨[(.int .i64 y4), (.bool y5)]⟩) h) (fun y4 y5 h => K (.tuple ⟨[(.int .i64 y4), (.bool y5)]⟩) h) h1 := by
    intro e h1 ob on oc out hle k1 o1 he
    have hk1 := hk h1 k1
    unfold domE anyP at hk1
    rw [he] at hk1
    have r := o1.row
    have hol := r.len
    have hcap := r.cap
    have hmx := r.max
    simp only [maxLen] at hmx
    rw [List.length_map] at hol
    by_cases h2 : on < 2
    · have : domOk out = false := by unfold domOk; rw [decide_eq_false (by omega)]; rfl
      rw [this] at hk1
      exact splT (by omega) hk1
    · obtain ⟨m, rfl⟩ : ∃ m, on = m + 2 := ⟨on - 2, by omega⟩
      have hd : domOk out = (!lineB (out.getD (m + 1) []) && !lineB (out.getD m [])) := by
        unfold domOk
        rw [hol, show m + 2 - 1 = m + 1 by omega, show m + 2 - 2 = m by omega, decide_eq_true (show 2 ≤ m + 2 by omega), Bool.true_and]
      rw [getD_get (show m + 1 < out.length by omega), getD_get (show m < out.length by omega)] at hd
      rw [hd] at hk1
      refine splF (by omega) ⟨rng64 (by omega) (by omega), ?_⟩
      rw [show (((m + 2 : Nat) : Int) - 1) = ((m + 1 : Nat) : Int) by omega, show (((m + 2 : Nat) : Int) - 2) = (m : Int) by omega, Int.toNat_natCast, Int.toNat_natCast]
      refine r.idxN (i := m + 1) (by rw [List.length_map]; omega) rfl fun a hA => ldB hA ?_
      rw [List.getElem_map]
      refine condB (fun e1 => by rw [e1] at hk1; exact hk1) fun e1 => ⟨rng64 (by omega) (by omega), r.idxN (i := m) (by rw [List.length_map]; omega) rfl fun a hA => ldB hA ?_⟩
      rw [List.getElem_map]
      refine condB (fun e2 => by rw [e1, e2] at hk1; exact hk1) fun e2 => ?_
      rw [e1, e2] at hk1
      exact condB (fun e3 => by rw [e3] at hk1; exact hk1) fun e3 => by rw [e3] at hk1; exact hk1
  have key : ∀ N k h1 ob on oc (out : List Bs), s.length + 1 ≤ k + N → i ≤ k → k ≤ s.length → KB h h1 → OwnF elBool h1 h.size 4 ob on oc (out.map lineB) → out.length ≤ k →
      (out ≠ [] → spanP hostB (s.drop k) = 0 → i < k ∧ domP (s.drop i) = (out, k - 1 - i)) →
      ((out = [] ∨ spanP hostB (s.drop k) ≠ 0) → domP (s.drop i) = (out ++ (domP (s.drop k)).1, (k - i) + (domP (s.drop k)).2)) →
      Sx.r28_domain.n8_L (fun z6b z6n z6c z7 z8 h => Sx.r28_domain.n6 z6b z6n z6c z7 z8 (fun y4 y5 h => K (.tuple ⟨[(.int .i64 y4), (.bool y5)]⟩) h) (fun y4 y5 h => K (.tuple ⟨[(.int .i64 y4), (.bool y5)]⟩) h) h) (fun z6b z6n z6c z7 z8 h => Sx.r28_domain.n6 z6b z6n z6c z7 z8 (fun y4 y5 h => K (.tuple ⟨[(.int .i64 y4), (.bool y5)]⟩) h) (fun y4 y5 h => K (.tuple ⟨[(.int .i64 y4), (.bool y5)]⟩) h) h) (fun y4 y5 h => K (.tuple ⟨[(.int .i64 y4), (.bool y5)]⟩) h) (N + 1) s ob on oc (out.any lineB) (k : Int) h1 := by
    intro N
    induction N with
    | zero => intro k h1 ob on oc out hN hik hks; omega
    | succ N ih =>
      intro k h1 ob on oc out hN hik hks k1 o1 hol hB hA
      have hq := span_le hostB (s.drop k)
      rw [List.length_drop] at hq
      unfold Sx.r28_domain.n8_L
      refine ⟨s.length + 1, ?_⟩
      refine inner0 hs hks ?_
      have hon := o1.own.len
      rw [List.length_map] at hon
      refine spl (fun hz => ?_) fun hz => ?_
      · refine spl (fun hp => ?_) fun hp => ?_
        · have hne : out ≠ [] := fun e => by rw [e] at hon; simp at hon; omega
          obtain ⟨hlt, he⟩ := hB hne (by omega)
          refine ⟨rng64 (by omega) (by omega), ?_⟩
          rw [show ((k : Int) - 1) = ((i + (k - 1 - i) : Nat) : Int) by omega]
          exact fin _ h1 ob on oc out (by omega) k1 o1 he
        · have hne : out = [] := List.eq_nil_of_length_eq_zero (by omega)
          have he := hA (.inl hne)
          rw [domP_zero (t := s.drop k) (by omega)] at he
          rw [show (k : Int) = ((i + (k - i) : Nat) : Int) by omega]
          exact fin _ h1 ob on oc out (by omega) k1 o1 (he.trans (by simp))
      · have he := hA (.inr (by omega))
        generalize hqe : spanP hostB (s.drop k) = q at *
        have hdd : (s.drop k).drop q = s.drop (k + q) := List.drop_drop
        have hdd1 : (s.drop k).drop (q + 1) = s.drop (k + q + 1) := by rw [List.drop_drop]; rfl
        generalize hpt : (s.drop k).take q = part at *
        have tail : ∀ b2 c2 h2, SK (Bel h.size) h1 h2 → OwnF elBool h2 h.size 4 b2 (on + 1) c2 (out.map lineB ++ [lineB part]) → ∀ any : Bool, any = (out.any lineB || lineB part) →
            Rng .i64 ((k : Int) + (q : Int)) ∧ (Spl (((k : Int) + (q : Int)) ≥ (s.length : Int)) (Sx.r28_domain.n6 b2 (on + 1) c2 any ((k : Int) + (q : Int)) (fun y4 y5 h => K (.tuple ⟨[(.int .i64 y4), (.bool y5)]⟩) h) (fun y4 y5 h => K (.tuple ⟨[(.int .i64 y4), (.bool y5)]⟩) h) h2) ((0 ≤ ((k : Int) + (q : Int)) ∧ ((k : Int) + (q : Int)) < (s.length : Int)) ∧ (Spl (((List.getD s (Int.toNat ((k : Int) + (q : Int))) 0).toNat : Int) = (46 : Int)) (Rng .i64 (((k : Int) + (q : Int)) + (1 : Int)) ∧ (Sx.r28_domain.n8_L (fun z6b z6n z6c z7 z8 h => Sx.r28_domain.n6 z6b z6n z6c z7 z8 (fun y4 y5 h => K (.tuple ⟨[(.int .i64 y4), (.bool y5)]⟩) h) (fun y4 y5 h => K (.tuple ⟨[(.int .i64 y4), (.bool y5)]⟩) h) h) (fun z6b z6n z6c z7 z8 h => Sx.r28_domain.n6 z6b z6n z6c z7 z8 (fun y4 y5 h => K (.tuple ⟨[(.int .i64 y4), (.bool y5)]⟩) h) (fun y4 y5 h => K (.tuple ⟨[(.int .i64 y4), (.bool y5)]⟩) h) h) (fun y4 y5 h => K (.tuple ⟨[(.int .i64 y4), (.bool y5)]⟩) h) (N + 1) s b2 (on + 1) c2 any (((k : Int) + (q : Int)) + (1 : Int)) h2)) (Sx.r28_domain.n6 b2 (on + 1) c2 any ((k : Int) + (q : Int)) (fun y4 y5 h => K (.tuple ⟨[(.int .i64 y4), (.bool y5)]⟩) h) (fun y4 y5 h => K (.tuple ⟨[(.int .i64 y4), (.bool y5)]⟩) h) h2)))) := by
          intro b2 c2 h2 k2 o2 any hany
          have hm : out.map lineB ++ [lineB part] = (out ++ [part]).map lineB := by simp
          have hy : any = (out ++ [part]).any lineB := by rw [hany]; simp
          subst hy
          rw [hm] at o2
          have k12 : KB h h2 := SK.trans k1 k2
          have stop : ¬ ((s.drop (k + q)).head? = some 46 ∧ spanP hostB (s.drop (k + q + 1)) ≠ 0) → domP (s.drop i) = (out ++ [part], k + q - i) := fun hd => by
            rw [domP_end (t := s.drop k) (by omega) (by rw [hqe, hdd, hdd1]; exact hd), hqe, hpt] at he
            exact he.trans (Prod.ext rfl (by show (k - i) + q = _; omega))
          have fin2 : ¬ ((s.drop (k + q)).head? = some 46 ∧ spanP hostB (s.drop (k + q + 1)) ≠ 0) → Sx.r28_domain.n6 b2 (on + 1) c2 ((out ++ [part]).any lineB) ((k : Int) + (q : Int)) (fun y4 y5 h => K (.tuple ⟨[(.int .i64 y4), (.bool y5)]⟩) h) (fun y4 y5 h => K (.tuple ⟨[(.int .i64 y4), (.bool y5)]⟩) h) h2 := fun hd => by
            rw [show ((k : Int) + (q : Int)) = ((i + (k + q - i) : Nat) : Int) by omega]
            exact fin _ h2 b2 (on + 1) c2 _ (by omega) k12 o2 (stop hd)
          refine ⟨rng64 (by omega) (by omega), spl (fun hge => fin2 fun hd => ?_) fun hlt => ⟨⟨by omega, by omega⟩, ?_⟩⟩
          · rw [List.drop_of_length_le (by omega)] at hd; cases hd.1
          · rw [show ((k : Int) + (q : Int)) = ((k + q : Nat) : Int) by omega, Int.toNat_natCast]
            have hhd : (s.drop (k + q)).head? = some (s.getD (k + q) 0) := by
              rw [List.drop_eq_getElem_cons (by omega), getD_get (by omega)]; rfl
            refine spl (fun e46 => ⟨rng64 (by omega) (by omega), ?_⟩) fun e46 => ?_
            · have h46 := b_of (d := 46) e46 rfl
              rw [h46] at hhd
              rw [show (((k + q : Nat) : Int) + 1) = ((k + q + 1 : Nat) : Int) by omega]
              refine ih (k + q + 1) h2 b2 (on + 1) c2 (out ++ [part]) (by omega) (by omega) (by omega) k12 o2 (by rw [List.length_append, List.length_singleton]; omega) (fun _ hz2 => ⟨by omega, ?_⟩) (fun hor => ?_)
              · rw [stop fun hd => hd.2 hz2, show k + q + 1 - 1 - i = k + q - i by omega]
              · have hnz : spanP hostB (s.drop (k + q + 1)) ≠ 0 := hor.resolve_left (by simp)
                rw [domP_dot (t := s.drop k) (by omega) (by rw [hqe, hdd]; exact hhd) (by rw [hqe, hdd1]; exact hnz), hqe, hdd1, hpt] at he
                rw [he, List.append_assoc]
                exact Prod.ext rfl (by show (k - i) + (q + 1 + _) = k + q + 1 - i + _; omega)
            · have := fin2 fun hd => not_b (d := 46) e46 rfl (by have := hd.1; rw [hhd] at this; exact Option.some.inj this)
              rw [show ((k : Int) + (q : Int)) = ((k + q : Nat) : Int) by omega] at this
              exact this
        cases hlb : lineB part <;> cases hab : out.any lineB
        all_goals rw [hlb, hab] at tail
        · exact condF (one_app (cs := [.bool false]) apdBo (fun _ _ => rfl) o1 k1.1 (by simp only [maxLen]; omega) (by omega) fun b2 c2 h2 o2 k2 => vSliceMk (condF (condF (tail b2 c2 h2 k2 o2 _ rfl))))
        · exact condF (one_app (cs := [.bool false]) apdBo (fun _ _ => rfl) o1 k1.1 (by simp only [maxLen]; omega) (by omega) fun b2 c2 h2 o2 k2 => vSliceMk (condT (tail b2 c2 h2 k2 o2 _ rfl)))
        · exact condT (one_app (cs := [.bool true]) apdBo (fun _ _ => rfl) o1 k1.1 (by simp only [maxLen]; omega) (by omega) fun b2 c2 h2 o2 k2 => vSliceMk (condF (condT (tail b2 c2 h2 k2 o2 _ rfl))))
        · exact condT (one_app (cs := [.bool true]) apdBo (fun _ _ => rfl) o1 k1.1 (by simp only [maxLen]; omega) (by omega) fun b2 c2 h2 o2 k2 => vSliceMk (condT (tail b2 c2 h2 k2 o2 _ rfl)))
  exact key (s.length + 1) i h none 0 0 [] (by omega) (Nat.le_refl _) hi (KB.refl h) (OwnF.none _ _ _) (by simp) (fun h => absurd rfl h) (fun _ => by simp)
end
end Go.Proofs
namespace Go.Proofs
open Go
set_option linter.unusedVariables false
theorem getDA (l : Bs) (i : Nat) (h : i < l.length) : l.getD i 0 = l[i] := by
  rw [List.getD_eq_getElem?_getD, List.getElem?_eq_getElem h]; rfl
theorem getDdr (s : Bs) (k n : Nat) : (s.drop k).getD n 0 = s.getD (k + n) 0 := by
  rw [List.getD_eq_getElem?_getD, List.getD_eq_getElem?_getD, List.getElem?_drop]
theorem head_drop {t : Bs} {q : Nat} {x : UInt8} (h : (t.drop q).head? = some x) : q < t.length ∧ t.drop q = x :: t.drop (q + 1) ∧ t.getD q 0 = x := by
  have hlt : q < t.length := by
    rcases Nat.lt_or_ge q t.length with h2 | h2
    · exact h2
    · rw [List.drop_of_length_le h2] at h; cases h
  rw [List.drop_eq_getElem_cons hlt] at h ⊢
  have e := Option.some.inj h
  exact ⟨hlt, by rw [e], by rw [getDA t q hlt, e]⟩
theorem dom_ind : ∀ (n : Nat) (t : Bs), t.length ≤ n → (domP t).2 ≤ t.length ∧ (0 < (domP t).2 → hostB (t.getD ((domP t).2 - 1) 0) = true) ∧ (domP t).1.any lineB = decide ((95 : UInt8) ∈ t.take (domP t).2) ∧ (spanP hostB t ≠ 0 → 0 < (domP t).2) ∧ ((domP t).1 ≠ [] → 0 < (domP t).2) := by
  intro n
  induction n with
  | zero =>
    intro t ht
    have hz : spanP hostB t = 0 := by have := span_le hostB t; omega
    rw [domP_zero hz]
    exact ⟨Nat.zero_le _, fun h => absurd h (by decide), rfl, fun h => absurd hz h, fun h => absurd rfl h⟩
  | succ n ih =>
    intro t ht
    have hq := span_le hostB t
    by_cases hz : spanP hostB t = 0
    · rw [domP_zero hz]
      exact ⟨Nat.zero_le _, fun h => absurd h (by decide), rfl, fun h => absurd hz h, fun h => absurd rfl h⟩
    have hall := span_all hostB t
    by_cases hd : (t.drop (spanP hostB t)).head? = some 46 ∧ spanP hostB (t.drop (spanP hostB t + 1)) ≠ 0
    · have hh := head_drop hd.1
      have := ih (t.drop (spanP hostB t + 1)) (by rw [List.length_drop]; omega)
      rw [domP_dot hz hd.1 hd.2]
      generalize spanP hostB t = q at *
      generalize hdp : domP (t.drop (q + 1)) = d at *
      obtain ⟨i1, i2, i3, i4, i5⟩ := this
      rw [List.length_drop] at i1
      have hpos := i4 hd.2
      refine ⟨by show q + 1 + d.2 ≤ _; omega, fun _ => ?_, ?_, fun _ => by show 0 < q + 1 + d.2; omega, fun _ => by show 0 < q + 1 + d.2; omega⟩
      · have := i2 hpos
        rw [getDdr] at this
        rw [show q + 1 + d.2 - 1 = q + 1 + (d.2 - 1) by omega]
        exact this
      · show (lineB (t.take q) || d.1.any lineB) = _
        rw [i3]
        unfold lineB
        have e : t.take (q + 1 + d.2) = t.take q ++ 46 :: (t.drop (q + 1)).take d.2 := by
          rw [show q + 1 + d.2 = q + (d.2 + 1) by omega, List.take_add, hh.2.1, List.take_succ_cons]
        rw [e, Bool.eq_iff_iff]
        simp
    · rw [domP_end hz hd]
      refine ⟨hq, fun _ => hall _ (by show spanP hostB t - 1 < _; omega), ?_, fun _ => by show 0 < spanP hostB t; omega, fun _ => by show 0 < spanP hostB t; omega⟩
      simp [lineB]
theorem dom_le (t : Bs) : (domP t).2 ≤ t.length := (dom_ind _ t (Nat.le_refl _)).1
theorem dom_ok_pos {t : Bs} (h : domOk (domP t).1 = true) : 0 < (domP t).2 := (dom_ind _ t (Nat.le_refl _)).2.2.2.2 (fun e => by rw [e] at h; cases h)
theorem domain_le (t : Bs) : domainP t ≤ t.length := by unfold domainP; split; exact dom_le t; exact Nat.zero_le _
theorem domain_host {t : Bs} (h : domainP t ≠ 0) : hostB (t.getD (domainP t - 1) 0) = true := by
  unfold domainP at h ⊢
  split
  · rename_i e; exact (dom_ind _ t (Nat.le_refl _)).2.1 (dom_ok_pos e)
  · rename_i e; rw [if_neg e] at h; exact absurd rfl h
theorem any_line {t : Bs} (h : domainP t ≠ 0) : anyP t = decide ((95 : UInt8) ∈ t.take (domainP t)) := by
  unfold domainP at h ⊢
  unfold anyP
  split
  · exact (dom_ind _ t (Nat.le_refl _)).2.2.1
  · rename_i e; rw [if_neg e] at h; exact absurd rfl h
/-- the chapter's end of a domain -/
theorem domE_eq (t : Bs) (i : Nat) (hi : 0 < i ∨ True) : (if domOk (domP t).1 = true then i + (domP t).2 else 0) = if domainP t = 0 then 0 else i + domainP t := by
  unfold domainP
  by_cases h : domOk (domP t).1 = true
  · have := dom_ok_pos h
    rw [if_pos h, if_pos h, if_neg (by omega)]
  · rw [if_neg h, if_neg h, if_pos rfl]
/-! ### mail -/
def mailN (t : Bs) : Nat :=
  if spanP userB t = 0 ∨ (t.drop (spanP userB t)).head? ≠ some 64 then 0
  else if domainP (t.drop (spanP userB t + 1)) = 0 then 0
  else if anyP (t.drop (spanP userB t + 1)) = true then 0
  else if t.getD (spanP userB t + domainP (t.drop (spanP userB t + 1))) 0 = 45 then 0
  else if spanP userB t + 1 + domainP (t.drop (spanP userB t + 1)) < t.length ∧ t.getD (spanP userB t + 1 + domainP (t.drop (spanP userB t + 1))) 0 ∈ ([45, 95, 64] : Bs) then 0
  else spanP userB t + 1 + domainP (t.drop (spanP userB t + 1))
theorem mail_le (t : Bs) : mailN t ≤ t.length := by
  unfold mailN
  split
  · exact Nat.zero_le _
  · rename_i h
    have h2 : (t.drop (spanP userB t)).head? = some 64 := by
      by_cases e : (t.drop (spanP userB t)).head? = some 64
      · exact e
      · exact absurd (.inr e) h
    have := (head_drop h2).1
    have hd := domain_le (t.drop (spanP userB t + 1))
    rw [List.length_drop] at hd
    repeat' split
    all_goals omega
end Go.Proofs
namespace Go.Proofs
open Go
set_option linter.unusedVariables false
def stopR (r : Nat) : Bool := decide (r = 60) || Tryd.blankI (r : Int)
def stopGo : Nat → Bs → Nat
  | 0, _ => 0
  | k + 1, u => if u = [] then 0 else if stopR (dec u).1 = true then 0 else (dec u).2 + stopGo k (u.drop (dec u).2)
def stopP (u : Bs) : Nat := stopGo u.length u
theorem stopGo_more : ∀ (k : Nat) (b : Bs), b.length ≤ k → stopGo k b = stopGo b.length b
  | 0, b, h => by rw [show b.length = 0 by omega]
  | k + 1, b, h => by
    cases b with
    | nil => rfl
    | cons x t =>
      have hb := dec_bd x t
      have ih : ∀ r : Bs, r.length ≤ t.length → stopGo k r = stopGo t.length r := fun r hr => by
        rw [stopGo_more k r (by simp at h; omega), stopGo_more t.length r hr]
      show stopGo (k + 1) (x :: t) = stopGo (t.length + 1) (x :: t)
      unfold stopGo
      rw [ih _ (by rw [List.length_drop, List.length_cons]; omega)]
  termination_by k => k
theorem stop_nil : stopP [] = 0 := rfl
theorem stop_yes {u : Bs} (h : u ≠ []) (hr : stopR (dec u).1 = true) : stopP u = 0 := by
  unfold stopP
  cases u with
  | nil => exact absurd rfl h
  | cons x t => rw [List.length_cons]; unfold stopGo; rw [if_neg h, if_pos hr]
theorem stop_no {u : Bs} (h : u ≠ []) (hr : stopR (dec u).1 = false) : stopP u = (dec u).2 + stopP (u.drop (dec u).2) := by
  unfold stopP
  cases u with
  | nil => exact absurd rfl h
  | cons x t =>
    have hb := dec_bd x t
    conv => lhs; rw [List.length_cons]; unfold stopGo
    rw [if_neg h, if_neg (by rw [hr]; decide), stopGo_more t.length _ (by rw [List.length_drop, List.length_cons]; omega)]
theorem stop_le : ∀ (n : Nat) (u : Bs), u.length ≤ n → stopP u ≤ u.length := by
  intro n
  induction n with
  | zero => intro u h; rw [List.eq_nil_of_length_eq_zero (by omega : u.length = 0)]; exact Nat.le_refl _
  | succ n ih =>
    intro u h
    by_cases hu : u = []
    · subst hu; exact Nat.le_refl _
    cases hr : stopR (dec u).1 with
    | true => rw [stop_yes hu hr]; exact Nat.zero_le _
    | false =>
      rw [stop_no hu hr]
      cases u with
      | nil => exact absurd rfl hu
      | cons x t =>
        have hb := dec_bd x t
        have := ih ((x :: t).drop (dec (x :: t)).2) (by rw [List.length_drop]; omega)
        rw [List.length_drop] at this
        omega
/-! ### pages -/
abbrev wHttp : Bs := [104, 116, 116, 112, 58, 47, 47]
abbrev wHttps : Bs := [104, 116, 116, 112, 115, 58, 47, 47]
abbrev wFtp : Bs := [102, 116, 112, 58, 47, 47]
abbrev wWww : Bs := [119, 119, 119, 46]
def schemeP (t : Bs) : Bs := if wFtp.isPrefixOf t = true then wFtp else if wHttps.isPrefixOf t = true then wHttps else if wHttp.isPrefixOf t = true then wHttp else []
def wwwP (t : Bs) : Bool := wWww.isPrefixOf t
theorem scheme_www {t : Bs} (h : wwwP t = true) : schemeP t = [] := by
  unfold wwwP at h
  cases t with
  | nil => cases h
  | cons x t =>
    simp only [List.isPrefixOf, Bool.and_eq_true, beq_iff_eq] at h
    obtain ⟨rfl, _⟩ := h
    unfold schemeP
    simp [List.isPrefixOf]
theorem scheme_le (t : Bs) : (schemeP t).length ≤ t.length := by
  unfold schemeP
  split
  · rename_i h; exact (List.isPrefixOf_iff_prefix.1 h).length_le
  · split
    · rename_i h; exact (List.isPrefixOf_iff_prefix.1 h).length_le
    · split
      · rename_i h; exact (List.isPrefixOf_iff_prefix.1 h).length_le
      · exact Nat.zero_le _
theorem trim_pre (least : Nat) : ∀ (k : Nat) (s : Bs), least ≤ s.length → ∃ n, trimGo k s least = s.take n ∧ least ≤ n ∧ n ≤ s.length := by
  intro k
  induction k with
  | zero => intro s h; exact ⟨s.length, by rw [List.take_length]; rfl, h, Nat.le_refl _⟩
  | succ k ih =>
    intro s h
    have self : ∃ n, s = s.take n ∧ least ≤ n ∧ n ≤ s.length := ⟨s.length, by rw [List.take_length], h, Nat.le_refl _⟩
    have cut : ∀ m, least ≤ m → m ≤ s.length → ∃ n, trimGo k (s.take m) least = s.take n ∧ least ≤ n ∧ n ≤ s.length := fun m h1 h2 => by
      obtain ⟨n, e, h3, h4⟩ := ih (s.take m) (by rw [List.length_take]; omega)
      rw [List.length_take] at h4
      exact ⟨n, by rw [e, List.take_take, Nat.min_eq_left (by omega)], h3, by omega⟩
    unfold trimGo
    split
    · split
      · exact cut _ (by omega) (by omega)
      · split
        · rename_i hn
          have := of_decide_eq_true hn.2
          have hb := back_le s (s.length - 1)
          exact cut _ (by omega) (by omega)
        · exact self
    · exact self
def pageN (t : Bs) : Nat :=
  if schemeP t = [] ∧ wwwP t = false then 0
  else if domainP (t.drop (schemeP t).length) = 0 then 0
  else (trimP (t.take ((schemeP t).length + domainP (t.drop (schemeP t).length) + stopP (t.drop ((schemeP t).length + domainP (t.drop (schemeP t).length))))) ((schemeP t).length + domainP (t.drop (schemeP t).length))).length
def pageD (t : Bs) : Bs := if pageN t = 0 then [] else (if wwwP t = true then wHttp else []) ++ t.take (pageN t)
/-- what is trimmed of a text's front is a front of the text -/
theorem page_trim {t : Bs} {e m : Nat} (h1 : e ≤ t.length) (h2 : e + m ≤ t.length) : trimP (t.take (e + m)) e = t.take (trimP (t.take (e + m)) e).length ∧ e ≤ (trimP (t.take (e + m)) e).length ∧ (trimP (t.take (e + m)) e).length ≤ t.length := by
  have hl : (t.take (e + m)).length = e + m := by rw [List.length_take]; omega
  obtain ⟨n, e1, h3, h4⟩ := trim_pre e _ (t.take (e + m)) (by omega)
  have e2 : trimP (t.take (e + m)) e = t.take n := by
    unfold trimP
    rw [e1, List.take_take, Nat.min_eq_left (by omega)]
  rw [e2]
  have : (t.take n).length = n := by rw [List.length_take]; omega
  rw [this]
  exact ⟨rfl, h3, by omega⟩
end Go.Proofs
namespace Go.Proofs
open Go Go.Sh
set_option linter.unusedVariables false
set_option maxRecDepth 100000
abbrev mailto : Bs := [109, 97, 105, 108, 116, 111, 58]
theorem pre_one (c : UInt8) (t : Bs) : ([c] : Bs).isPrefixOf t = decide (t.head? = some c) := by
  cases t with
  | nil => rfl
  | cons x t =>
    rw [Bool.eq_iff_iff]
    simp [List.isPrefixOf]
    exact eq_comm
section
variable {h : H} {K : Value → H → Prop} {s : Bs} {c : UInt8}
theorem mail_calls (hs : s.length ≤ 1000000) (hk : ∀ h', KB h h' → K (.tuple ⟨[S (s.take (mailN s)), S (if mailN s = 0 then [] else mailto ++ s.take (mailN s))]⟩) h') : HCalls Tryd.prog 21 ⟨[S s]⟩ h K := by
  have none' : mailN s = 0 → ∀ h', KB h h' → K (.tuple ⟨[S [], S []]⟩) h' := fun e h' k => by have := hk h' k; rw [e] at this; exact this
  have some' : ∀ M, mailN s = M → M ≠ 0 → ∀ h', KB h h' → K (.tuple ⟨[S (s.take M), S (mailto ++ s.take M)]⟩) h' := fun M e hM h' k => by have := hk h' k; rw [e, if_neg hM] at this; exact this
  have hkl := span_le userB s
  unfold mailN at none' some'
  refine Sx.auto_mail.ok _ _ _ (run_calls tells_user (by omega) (vIntMk (spl (fun hz => none' (by rw [if_pos (.inl (by omega))]) h (KB.refl h)) fun hz => ⟨⟨by omega, by omega, by omega⟩, ?_⟩)))
  generalize spanP userB s = k at *
  rw [sub_full s k hkl]
  refine pre_calls (vBool_mk ?_)
  rw [pre_one]
  refine condB (fun e1 => ?_) fun e1 => none' (by rw [if_pos (.inr (of_decide_eq_false e1))]) h (KB.refl h)
  have h64 := of_decide_eq_true e1
  have hh := head_drop h64
  have hc1 : ¬ (k = 0 ∨ (s.drop k).head? ≠ some 64) := fun hor => hor.elim (fun e => hz (by omega)) fun e => e h64
  rw [if_neg hc1] at none' some'
  refine ⟨rng64 (by omega) (by omega), ⟨by omega, by omega, by omega⟩, ?_⟩
  rw [show ((k : Int) + 1) = ((k + 1 : Nat) : Int) by omega, sub_full s (k + 1) (by omega)]
  refine domain_calls (by rw [List.length_drop]; omega) fun h2 k2 => vIntMk ?_
  have hdl := domain_le (s.drop (k + 1))
  rw [List.length_drop] at hdl
  have hline := any_line (t := s.drop (k + 1))
  generalize domainP (s.drop (k + 1)) = n at *
  rw [show (((k + 1 : Nat) : Int) + (n : Int)) = ((k + 1 + n : Nat) : Int) by omega, sub_zero]
  have hl : (s.take (k + 1 + n)).length = k + 1 + n := by rw [List.length_take]; omega
  rw [hl, sub_full s (k + 1 + n) (by omega)]
  refine ⟨rng64 (by omega) (by omega), rng64 (by omega) (by omega), ⟨by omega, by omega, by omega⟩, ⟨by omega, by omega, by omega⟩, spl (fun hn => none' (by rw [if_pos (by omega)]) h2 k2) fun hn => ?_⟩
  have hn0 : n ≠ 0 := by omega
  rw [if_neg hn0] at none' some'
  refine ⟨⟨by omega, by omega, by omega⟩, ?_⟩
  have et : sub (s.take (k + 1 + n)) (k : Int) ((k + 1 + n : Nat) : Int) = 64 :: (s.drop (k + 1)).take n := by
    rw [sub_nat, List.take_take, Nat.min_self, List.drop_take, show k + 1 + n - k = n + 1 by omega, hh.2.1, List.take_succ_cons]
  rw [et]
  have hmem : decide ((95 : UInt8) ∈ (64 : UInt8) :: (s.drop (k + 1)).take n) = anyP (s.drop (k + 1)) := by
    rw [hline hn0, Bool.eq_iff_iff]; simp
  refine contains_calls (vBool_mk ?_)
  rw [hmem]
  refine condB (fun e2 => none' (by rw [if_pos e2]) h2 k2) fun e2 => ?_
  rw [if_neg (show ¬ anyP (s.drop (k + 1)) = true by rw [e2]; decide)] at none' some'
  refine suf_calls (by omega) (vBool_mk ?_)
  have h45 : (decide (0 < (s.take (k + 1 + n)).length ∧ (s.take (k + 1 + n)).getD ((s.take (k + 1 + n)).length - 1) 0 = 45)) = decide (s.getD (k + n) 0 = 45) := by
    rw [hl, show k + 1 + n - 1 = k + n by omega]
    rw [show (s.take (k + 1 + n)).getD (k + n) 0 = s.getD (k + n) 0 by rw [List.getD_eq_getElem?_getD, List.getD_eq_getElem?_getD, List.getElem?_take, if_pos (by omega)]]
    rw [Bool.eq_iff_iff]; simp; omega
  rw [suf_one, h45]
  refine condB (fun e3 => none' (by rw [if_pos (of_decide_eq_true e3)]) h2 k2) fun e3 => ?_
  rw [if_neg (of_decide_eq_false e3)] at none' some'
  have hsum : ((([109, 97, 105, 108, 116, 111, 58] : Bs).length + (k + 1 + n) : Nat) : Int) ≤ 9223372036854775807 := by
    show (((7 + (k + 1 + n) : Nat)) : Int) ≤ _; omega
  have hld : (s.drop (k + 1 + n)).length = s.length - (k + 1 + n) := List.length_drop
  refine spl (fun e4 => ⟨hsum, some' _ (by rw [if_neg (fun hh2 => by rw [e4] at hld; simp at hld; omega)]) (by omega) h2 k2⟩) fun e4 => ?_
  have hlt : k + 1 + n < s.length := by
    rcases Nat.lt_or_ge (k + 1 + n) s.length with h | h
    · exact h
    · exact absurd (List.drop_of_length_le h) e4
  refine ⟨⟨by omega, by omega⟩, ?_⟩
  rw [show (s.drop (k + 1 + n)).getD (Int.toNat 0) 0 = s.getD (k + 1 + n) 0 from getDdr s (k + 1 + n) 0]
  exact ixb_calls fun i hi => vIntMk (spl (fun e5 => none' (by rw [if_pos ⟨hlt, hi.1 e5⟩]) h2 k2) fun e5 => ⟨hsum, some' _ (by rw [if_neg (fun hh2 => e5 (hi.2 hh2.2))]) (by omega) h2 k2⟩)
theorem user_loop {i : Nat} {Kx : Sx.r28_mail.T2} {Kr : Sx.r28_mail.T0} (hs : s.length ≤ 1000000) (hi : i ≤ s.length) (hx : Kx s (i : Int) ((i + spanP userB (s.drop i) : Nat) : Int) h) :
    ∀ N n, s.length ≤ i + n + N → n ≤ spanP userB (s.drop i) → Sx.r28_mail.n8_L Kx Kx Kr (N + 1) s (i : Int) ((i + n : Nat) : Int) h := by
  have hq := span_le userB (s.drop i)
  rw [List.length_drop] at hq
  intro N
  induction N with
  | zero =>
    intro n hN hn
    have : n = spanP userB (s.drop i) := by omega
    unfold Sx.r28_mail.n8_L
    refine splF (by omega) ?_
    rw [this]; exact hx
  | succ N ih =>
    intro n hN hn
    unfold Sx.r28_mail.n8_L
    rw [Int.toNat_natCast]
    have next := fun h => ih (n + 1) (by omega) h
    rw [show ((i + (n + 1) : Nat) : Int) = ((i + n : Nat) : Int) + 1 by omega] at next
    have hc : (s.drop i).getD n 0 = s.getD (i + n) 0 := getDdr s i n
    refine spl (fun hlt => ⟨⟨by omega, by omega⟩, alnum_calls (vBool_mk (condB (fun e => ⟨rng64 (by omega) (by omega), next ?_⟩) fun e => ⟨⟨by omega, by omega⟩, in_calls (by show 4 ≤ 1000000; omega) (vBool_mk (condB (fun e2 => ⟨rng64 (by omega) (by omega), next ?_⟩) fun e2 => ?_))⟩))⟩) fun hge => ?_
    · by_cases hnq : n < spanP userB (s.drop i)
      · exact hnq
      · have hn2 : n = spanP userB (s.drop i) := by omega
        have hh := span_stop userB (s.drop i) (by rw [List.length_drop]; omega)
        rw [← hn2, hc] at hh
        unfold userB at hh
        rw [e] at hh; cases hh
    · by_cases hnq : n < spanP userB (s.drop i)
      · exact hnq
      · have hn2 : n = spanP userB (s.drop i) := by omega
        have hh := span_stop userB (s.drop i) (by rw [List.length_drop]; omega)
        rw [← hn2, hc] at hh
        unfold userB at hh
        rw [e2, Bool.or_true] at hh; cases hh
    · have hn2 : n = spanP userB (s.drop i) := by
        by_cases hnq : n < spanP userB (s.drop i)
        · have hh := span_all userB (s.drop i) n hnq
          rw [hc] at hh
          unfold userB at hh
          rw [e, e2] at hh; cases hh
        · omega
      rw [hn2]; exact hx
    · have : n = spanP userB (s.drop i) := by omega
      rw [this]; exact hx
theorem mailR_calls {i : Nat} (hs : s.length ≤ 1000000) (hi : i ≤ s.length) (hk : ∀ h', KB h h' → K (.tuple ⟨[S (if mailN (s.drop i) = 0 then [] else mailto ++ (s.drop i).take (mailN (s.drop i))), .int .i64 ((if mailN (s.drop i) = 0 then 0 else i + mailN (s.drop i) : Nat) : Int)]⟩) h') :
    HCalls Tryd.prog 14 ⟨[S s, .int .i64 (i : Int)]⟩ h K := by
  have none' : mailN (s.drop i) = 0 → ∀ h', KB h h' → K (.tuple ⟨[S [], .int .i64 0]⟩) h' := fun e h' k => by have := hk h' k; rw [e] at this; exact this
  have some' : ∀ M, mailN (s.drop i) = M → M ≠ 0 → ∀ h', KB h h' → K (.tuple ⟨[S (mailto ++ (s.drop i).take M), .int .i64 ((i + M : Nat) : Int)]⟩) h' := fun M e hM h' k => by have := hk h' k; rw [e, if_neg hM, if_neg hM] at this; exact this
  have hkl := span_le userB (s.drop i)
  rw [List.length_drop] at hkl
  unfold mailN at none' some'
  refine Sx.r28_mail.ok _ _ _ _ ⟨s.length + 1, ?_⟩
  refine user_loop (s := s) (i := i) hs hi ?_ s.length 0 (by omega) (Nat.zero_le _)
  generalize spanP userB (s.drop i) = k at *
  refine spl (fun hz => none' (by rw [if_pos (.inl (by omega))]) h (KB.refl h)) fun hz => spl (fun hge => none' (by rw [if_pos (.inr (fun e => by have := (head_drop e).1; rw [List.length_drop] at this; omega))]) h (KB.refl h)) fun hlt => ⟨⟨by omega, by omega⟩, ?_⟩
  rw [Int.toNat_natCast]
  have hhd : ((s.drop i).drop k).head? = some (s.getD (i + k) 0) := by
    rw [List.drop_drop, List.drop_eq_getElem_cons (by omega), getDA s (i + k) (by omega)]; rfl
  refine spl (fun e1 => ⟨rng64 (by omega) (by omega), ?_⟩) fun e1 => none' (by rw [if_pos (.inr (fun e => by rw [hhd] at e; exact not_b (d := 64) e1 rfl (Option.some.inj e)))]) h (KB.refl h)
  rw [b_of (d := 64) e1 rfl] at hhd
  have hc1 : ¬ (k = 0 ∨ ((s.drop i).drop k).head? ≠ some 64) := fun hor => hor.elim (fun e => hz (by omega)) fun e => e hhd
  rw [if_neg hc1] at none' some'
  have hdd : (s.drop i).drop (k + 1) = s.drop (i + k + 1) := by rw [List.drop_drop]; rfl
  rw [hdd] at none' some'
  rw [show (((i + k : Nat) : Int) + 1) = ((i + k + 1 : Nat) : Int) by omega]
  refine domainR_calls hs (by omega) fun h2 k2 => ?_
  have hdl := domain_le (s.drop (i + k + 1))
  rw [List.length_drop] at hdl
  unfold domE
  rw [domE_eq _ _ (.inr trivial)]
  generalize domainP (s.drop (i + k + 1)) = n at *
  rw [getDdr, getDdr, List.length_drop] at none' some'
  refine tupIB ?_
  by_cases hn : n = 0
  · rw [if_pos hn]
    rw [if_pos hn] at none'
    exact condB (fun e2 => splT rfl (none' rfl h2 k2)) fun e2 => splT rfl (none' rfl h2 k2)
  · rw [if_neg hn]
    rw [if_neg hn] at none' some'
    refine condB (fun e2 => splF (by omega) (condT (none' (by rw [if_pos e2]) h2 k2))) fun e2 => splF (by omega) (condF ⟨rng64 (by omega) (by omega), ⟨by omega, by omega⟩, ?_⟩)
    rw [if_neg (show ¬ anyP (s.drop (i + k + 1)) = true by rw [e2]; decide)] at none' some'
    rw [show (((i + k + 1 + n : Nat) : Int) - 1) = ((i + (k + n) : Nat) : Int) by omega, Int.toNat_natCast, Int.toNat_natCast]
    refine spl (fun e3 => none' (by rw [if_pos (b_of (d := 45) e3 rfl)]) h2 k2) fun e3 => ?_
    rw [if_neg (not_b (d := 45) e3 rfl)] at none' some'
    have es : sub s (i : Int) ((i + k + 1 + n : Nat) : Int) = (s.drop i).take (k + 1 + n) := by rw [sub_nat, List.drop_take, show i + k + 1 + n - i = k + 1 + n by omega]
    have hsum : ((([109, 97, 105, 108, 116, 111, 58] : Bs).length + ((s.drop i).take (k + 1 + n)).length : Nat) : Int) ≤ 9223372036854775807 := by
      rw [List.length_take, List.length_drop]
      show (((7 + _ : Nat)) : Int) ≤ _; omega
    rw [es]
    rw [show i + (k + 1 + n) = i + k + 1 + n by omega] at none' some'
    refine spl (fun hlt2 => ⟨⟨by omega, by omega⟩, in_calls (by show 3 ≤ 1000000; omega) (vBool_mk (condB (fun e4 => none' (by rw [if_pos ⟨by omega, of_decide_eq_true e4⟩]) h2 k2) fun e4 => ⟨⟨by omega, by omega, by omega⟩, hsum, ?_⟩))⟩) fun hge2 => ⟨⟨by omega, by omega, by omega⟩, hsum, ?_⟩
    · have := some' (k + 1 + n) (by rw [if_neg (fun hh => of_decide_eq_false e4 hh.2)]) (by omega) h2 k2
      rw [show i + (k + 1 + n) = i + k + 1 + n by omega] at this
      exact this
    · have := some' (k + 1 + n) (by rw [if_neg (fun hh => by omega)]) (by omega) h2 k2
      rw [show i + (k + 1 + n) = i + k + 1 + n by omega] at this
      exact this
end
end Go.Proofs
