/- marks: how much is looked at; the chapter's marks. No condition. -/
import Derived.Test.YtoojoogbkbfpcaaMkK
namespace Go.Proofs
open Go Go.Sh
set_option linter.unusedVariables false
set_option maxRecDepth 100000

theorem tdiv16 (n : Nat) : Int.tdiv (n : Int) (16 : Int) = ((n / 16 : Nat) : Int) := rfl

section
variable {A B : Nat → Prop} {h : H} {b b2 : Option Addr} {n c n2 c2 : Nat} {l : List MarkP} {m : MarkP}

theorem much_calls (r : Row elMark A h b n c l) (hn : n ≤ 1000000000000000) (ha : ∀ m ∈ l, m.2.2.length ≤ 1000000000000000) {K : Value → H → Prop}
    (hk : ∀ w : Bool, (w = false → n ≤ 1500 ∧ ∀ m ∈ l, m.2.2.length ≤ 1500) → K (.bool w) h) : HCalls Try.prog 7 ⟨[.slice b n c]⟩ h K := by
  refine Sx.l12_much.ok _ _ _ _ _ ⟨n + 1, ?_⟩
  have hl := r.len
  -- the inner loop
  have inner : ∀ (i : Nat) (hi : i < l.length) (Kn Ke2 Ke1 : Sx.l12_much.T4) (Ke0 : Sx.l12_much.T3) (Kr : Sx.l12_much.T0) (k j : Nat) (w : Nat), j + k = l[i].2.2.length → w ≤ 3000000000000000000 →
      (∀ w' : Nat, w ≤ w' → w' ≤ 3000000000000000000 → Ke2 b n c w' i h) → Sx.l12_much.n15_L Kn Ke2 Ke1 Ke0 Kr (k + 1) b n c (w : Int) (i : Int) (j : Int) h := by
    intro i hi Kn Ke2 Ke1 Ke0 Kr k
    induction k with
    | zero =>
      intro j w hj hw hK
      refine r.idxN hi rfl fun a hA => ldSl (hA.snd.sndAt (k := 2) rfl) fun b3 n3 c3 r3 _ => splF (by have := r3.len; omega) (hK w (Nat.le_refl _) hw)
    | succ k ih =>
      intro j w hj hw hK
      have hjl : j < l[i].2.2.length := by omega
      have hai := ha l[i] (List.getElem_mem _)
      refine r.idxN hi rfl fun a hA => ldSl (hA.snd.sndAt (k := 2) rfl) fun b3 n3 c3 r3 _ => splT (by have := r3.len; omega) (spl (fun hle => ?_) fun hle => hK w (Nat.le_refl _) hw)
      refine r.idxN hi rfl fun a hA => ldSl (hA.snd.sndAt (k := 2) rfl) fun b3 n3 c3 r3 _ => r3.idxN hjl rfl fun a1 hA1 => ldS hA1.fst fun hs1 => ⟨by decide, ?_⟩
      simp only [tdiv16]
      simp only [maxLen] at hs1
      have d1 : l[i].2.2[j].1.length / 16 ≤ 576460752303423488 := by omega
      refine ⟨rng64 (by omega) (by omega), r.idxN hi rfl fun a hA => ldSl (hA.snd.sndAt (k := 2) rfl) fun b3 n3 c3 r3 _ => r3.idxN hjl rfl fun a1 hA1 => ldS hA1.snd fun hs2 => ⟨by decide, ?_⟩⟩
      simp only [maxLen] at hs2
      have d2 : l[i].2.2[j].2.length / 16 ≤ 576460752303423488 := by omega
      refine ⟨rng64 (by omega) (by omega), rng64 (by omega) (by omega), rng64 (by omega) (by omega), rng64 (by omega) (by omega), ?_⟩
      exact ih (j + 1) (w + (l[i].2.2[j].1.length / 16 + l[i].2.2[j].2.length / 16)) (by omega) (by omega) fun w' h1 h2 => hK w' (by omega) h2
  have fin : ∀ w : Nat, n ≤ w → (w ≤ 1500 → ∀ m ∈ l, m.2.2.length ≤ w) → Sx.l12_much.n4 (w : Int) (fun y2 h => K (.bool y2) h) (fun y2 h => K (.bool y2) h) h := fun w hw hall =>
    spl (fun h => hk true fun e => by cases e) fun h => hk false fun _ => ⟨by omega, fun m hm => by have := hall (by omega) m hm; omega⟩
  have key : ∀ k i w : Nat, i + k = n → n ≤ w → w ≤ 3000000000000000000 → (w ≤ 1500 → ∀ j (hj : j < l.length), j < i → l[j].2.2.length ≤ w) →
      Sx.l12_much.n7_L (fun z3 h => Sx.l12_much.n4 z3 (fun y2 h => K (.bool y2) h) (fun y2 h => K (.bool y2) h) h) (fun z3 h => Sx.l12_much.n4 z3 (fun y2 h => K (.bool y2) h) (fun y2 h => K (.bool y2) h) h) (fun y2 h => K (.bool y2) h) (k + 1) b n c (w : Int) (i : Int) h := by
    intro k
    induction k with
    | zero =>
      intro i w hi hw hw2 hall
      refine splF (by omega) (fin w hw fun hle m hm => ?_)
      obtain ⟨j, hj, e⟩ := List.mem_iff_getElem.1 hm
      rw [← e]; exact hall hle j hj (by omega)
    | succ k ih =>
      intro i w hi hw hw2 hall
      have hil : i < l.length := by omega
      have hai := ha l[i] (List.getElem_mem _)
      refine splT (by omega) (spl (fun hle => ?_) fun hle => fin w hw fun h => by omega)
      refine r.idxN hil rfl fun a hA => ldS hA.snd.fst fun hs1 => ⟨by decide, ?_⟩
      simp only [tdiv16]
      simp only [maxLen] at hs1
      have d1 : l[i].2.1.length / 16 ≤ 576460752303423488 := by omega
      refine ⟨rng64 (by omega) (by omega), r.idxN hil rfl fun a hA => ldSl (hA.snd.sndAt (k := 2) rfl) fun b3 n3 c3 r3 _ => ?_⟩
      have hn3 := r3.len
      refine ⟨rng64 (by omega) (by omega), rng64 (by omega) (by omega), l[i].2.2.length + 1, ?_⟩
      refine inner i hil _ _ _ _ _ l[i].2.2.length 0 (w + (l[i].2.1.length / 16 + n3)) (by omega) (by omega) fun w' h1 h2 => ⟨rng64 (by omega) (by omega), ih (i + 1) w' (by omega) (by omega) h2 fun hle2 j hj hji => ?_⟩
      by_cases e : j < i
      · have := hall (by omega) j hj e; omega
      · have : j = i := by omega
        subst this
        omega
  exact key n 0 n (by omega) (Nat.le_refl _) (by omega) fun _ j _ hj => absurd hj (Nat.not_lt_zero _)

/-- a mark of the chapter's -/
def bP (i : Int) : MarkP := (i, [98], [])
theorem b_calls {i : Int} (hi : Rng .i64 i) {K : Value → H → Prop} (hk : ∀ h', KB h h' → K (.agg ⟨[.int .i64 i, S [98], .slice none 0 0]⟩) h') : HCalls Try.prog 28 ⟨[.int .i64 i]⟩ h K :=
  Sx.l12_b.ok _ _ _ (newx_var fun a1 h1 v1 k1 e1 _ => stL_var0 v1 (Nat.le_refl _) fun h2 v2 k2 _ => ⟨_, v2.cell 0 rfl, _, v2.cell 1 rfl, _, _, _, v2.cell 2 rfl, hk h2 (KB.step (KB.refl h |>.trans k1) k2 (by omega))⟩)
theorem bR {A : Nat → Prop} {h : H} {i : Int} (hi : Rng .i64 i) : MarkR A h (bP i) none 0 0 := markR (Row.nil _ _) (fun _ => rfl) hi (show 1 ≤ maxLen by decide)
end
end Go.Proofs
