/- stars: the chapter's Match: the loops. No condition. -/
import Derived.Test.YtgpfanbjchieiaaDoorSrF
namespace Go.Proofs
open Go Go.Sh
set_option linter.unusedVariables false
set_option maxRecDepth 100000
theorem stSet0 {x : StP} {v : Int} (hv : Rng .i64 v) : ∀ (A : Nat → Prop) (h : H) cs, elSt.R A h x cs → elSt.R A h (v, x.2.1, x.2.2) (cs.set 0 (.int .i64 v)) := fun A h cs hR => by
  obtain ⟨rfl, h1, h2⟩ := stInv hR
  exact stR (s := (v, x.2.1, x.2.2)) hv h2
theorem stSet1 {x : StP} {v : Int} (hv : Rng .i64 v) : ∀ (A : Nat → Prop) (h : H) cs, elSt.R A h x cs → elSt.R A h (x.1, v, x.2.2) (cs.set 1 (.int .i64 v)) := fun A h cs hR => by
  obtain ⟨rfl, h1, h2⟩ := stInv hR
  exact stR (s := (x.1, v, x.2.2)) h1 hv
theorem stSet2 {x : StP} {v : Bool} : ∀ (A : Nat → Prop) (h : H) cs, elSt.R A h x cs → elSt.R A h (x.1, x.2.1, v) (cs.set 2 (.bool v)) := fun A h cs hR => by
  obtain ⟨rfl, h1, h2⟩ := stInv hR
  exact stR (s := (x.1, x.2.1, v)) h1 h2
section
variable {h0 : H} {B : Nat} {A : Nat → Prop} {b sb : Option Addr} {n c sn sc : Nat} {l : List RunP}
/-- where the loops stand, but for what is told -/
structure SI (h0 h : H) (B : Nat) (sb : Option Addr) (sn sc : Nat) (l : List RunP) (st : List StP) : Prop where
  kb : KB h0 h
  own : OwnF elSt h h0.size 48 sb sn sc st
  lo : ∀ a, sb = some a → a.block < B
  sz : B ≤ h.size
  len : st.length = l.length
/-- a store into the states -/
theorem SI.set {h : H} {st : List StP} (I : SI h0 h B sb sn sc l st) {ob : Option Addr} {on oc : Nat} {out : List PairP} (oo : OwnF elPr h B 35 ob on oc out) {i f : Nat} {x' : StP} {v : Value} {K : H → Prop} (hi : i < st.length) (hf : f < 3) (hv : oneC v = true) (hR : ∀ A h cs, elSt.R A h (g st i) cs → elSt.R A h x' (cs.set f v))
    (hk : ∀ h' st', SI h0 h' B sb sn sc l st' → OwnF elPr h' B 35 ob on oc out → (∀ j, g st' j = if j = i then x' else g st j) → K h') : (0 ≤ (i : Int) ∧ (i : Int) < (sn : Int)) ∧ vSome sb fun a => stL ((a.add (Int.toNat (i : Int) * 3)).add f) [v] 0 h K := by
  refine ownF_setF (x := g st i) flatSt I.own (by rw [List.getElem?_eq_getElem hi, g_get hi]) rfl hf hv hR fun a h' ea o' k' z' hb => hk h' (st.set i x') ⟨I.kb.step k' hb, o', I.lo, by rw [z']; exact I.sz, by rw [List.length_set]; exact I.len⟩ (oo.flatK k' flatPr fun g hg => by have := I.lo a ea; omega) (g_set hi)
theorem SI.app {h h' : H} {st : List StP} (I : SI h0 h B sb sn sc l st) (k : SK (Bel B) h h') (hB : h0.size ≤ B) : SI h0 h' B sb sn sc l st :=
  ⟨SK.trans I.kb (k.less fun j hj => Nat.lt_of_lt_of_le (show j < h0.size from hj) hB), ⟨I.own.own.flatK k.w flatSt fun g eg _ _ => I.lo _ eg, I.own.lo, fun a ea => Nat.lt_of_lt_of_le (I.own.hi a ea) k.1, I.own.nil⟩, I.lo, Nat.le_trans I.sz k.1, I.len⟩
theorem SI.kb' {h h' : H} {st : List StP} (I : SI h0 h B sb sn sc l st) (k : KB h h') : SI h0 h' B sb sn sc l st :=
  ⟨I.kb.trans k, I.own.kb k, I.lo, Nat.le_trans I.sz k.1, I.len⟩
/-- the numbers of the states -/
structure SN (l : List RunP) (st : List StP) (c : Nat) : Prop where
  live : ∀ i, i < l.length → (g st i).2.2 = false → 1 ≤ (gl l i).mn ∧ (gl l i).mn ≤ 10000 ∧ 0 ≤ (g st i).1 ∧ 1 ≤ (g st i).2.1 ∧ (g st i).1 + (g st i).2.1 ≤ 10000
  late : ∀ i, c < i → i < l.length → g st i = (0, (gl l i).mn, decide ((gl l i).mn ≤ 0))
def ndOf (l : List RunP) (st : List StP) (i : Nat) : Nd := ⟨gl l i, (g st i).1, (g st i).2.1⟩
def innerRes (l : List RunP) (st : List StP) (c : Nat) (out : List PairP) : List Nd × List PairP :=
  if (g st c).2.2 = true then (leftOf l st c, out) else if (gl l c).cl = true then closeGo (g st c).2.1.toNat (leftOf l st c) (ndOf l st c) out else (ndOf l st c :: leftOf l st c, out)
/-- the chapter's step, in the states -/
theorem inner_found {st st' : List StP} {c o : Nat} {out : List PairP} (hcl : (gl l c).cl = true) (hc : (g st c).2.2 = false) (N : SN l st c) (hcn : c < l.length) (hoc : o < c) (ho : (g st o).2.2 = false) (hs : splitO (gl l c) (leftOf l st c) = some (ndOf l st o, leftOf l st o))
    (h1 : ∀ j, g st' j = if j = c then ((g st c).1 + nOf (ndOf l st o) (ndOf l st c), (g st c).2.1 - nOf (ndOf l st o) (ndOf l st c), decide ((g st c).2.1 - nOf (ndOf l st o) (ndOf l st c) ≤ 0)) else if j = o then ((g st o).1, (g st o).2.1 - nOf (ndOf l st o) (ndOf l st c), decide ((g st o).2.1 - nOf (ndOf l st o) (ndOf l st c) ≤ 0)) else if o < j ∧ j < c then ((g st j).1, (g st j).2.1, true) else g st j) :
    innerRes l st c out = innerRes l st' c (out ++ [pairOf (ndOf l st o) (ndOf l st c)]) ∧ SN l st' c := by
  obtain ⟨c1, c2, c3, c4, c5⟩ := N.live c hcn hc
  obtain ⟨o1, o2, o3, o4, o5⟩ := N.live o (by omega) ho
  have hn := nOf_bd (o := ndOf l st o) (c := ndOf l st c) o4 c4
  have hgc := h1 c
  rw [if_pos rfl] at hgc
  have hgo := h1 o
  rw [if_neg (by omega), if_pos rfl] at hgo
  have hov : (ndOf l st o).ov = (g st o).2.1 := rfl
  have hcv : (ndOf l st c).ov = (g st c).2.1 := rfl
  rw [hov, hcv] at hn
  have hleft : leftOf l st' c = leftO (ndOf l st o) (ndOf l st c) (leftOf l st o) := by
    rw [leftOf_skip (j := o + 1) (by omega) fun i hi1 hi2 => by rw [h1 i, if_neg (by omega), if_neg (by omega), if_pos ⟨by omega, hi2⟩]]
    have hlo : leftOf l st' o = leftOf l st o := leftOf_congr fun i hi => by rw [h1 i, if_neg (by omega), if_neg (by omega), if_neg (by omega)]
    unfold leftO
    rw [hov]
    by_cases e : (g st o).2.1 - nOf (ndOf l st o) (ndOf l st c) = 0
    · rw [if_pos e, leftOf_out (by rw [hgo]; exact decide_eq_true (by omega)), hlo]
    · rw [if_neg e, leftOf_in (by rw [hgo]; exact decide_eq_false (by omega)), hlo, hgo]; rfl
  refine ⟨?_, ⟨fun i hi hl => ?_, fun i hi1 hi2 => ?_⟩⟩
  · unfold innerRes
    rw [if_neg (by rw [hc]; decide), if_pos hcl, hleft, hgc]
    obtain ⟨k, hk⟩ : ∃ k, (g st c).2.1.toNat = k + 1 := ⟨(g st c).2.1.toNat - 1, by omega⟩
    rw [hk, closeGo]
    rw [show (ndOf l st c).r = gl l c from rfl, hs]
    simp only
    rw [hcv]
    by_cases e : (g st c).2.1 - nOf (ndOf l st o) (ndOf l st c) = 0
    · rw [if_pos e, if_pos (decide_eq_true (by omega))]
    · rw [if_neg e, if_neg (by rw [decide_eq_false (by omega)]; decide), if_pos hcl]
      have e3 : ndOf l st' c = nextC (ndOf l st o) (ndOf l st c) := by unfold ndOf nextC; rw [hgc]; rfl
      rw [e3]
      refine closeGo_more _ _ _ _ (leftO_ov (fun x hx => ?_) o4 c4) (show 1 ≤ (g st c).2.1 - nOf (ndOf l st o) (ndOf l st c) by omega) (show (g st c).2.1 - nOf (ndOf l st o) (ndOf l st c) ≤ _ by omega) k (by omega)
      have : ∀ k, k ≤ l.length → ∀ x ∈ leftOf l st k, 1 ≤ x.ov := by
        intro k
        induction k with
        | zero => intro _ x hx; cases hx
        | succ k ih =>
          intro hk x hx
          cases hk2 : (g st k).2.2 with
          | true => rw [leftOf_out hk2] at hx; exact ih (by omega) x hx
          | false =>
            rw [leftOf_in hk2] at hx
            rcases List.mem_cons.1 hx with rfl | hx
            · exact (N.live k (by omega) hk2).2.2.2.1
            · exact ih (by omega) x hx
      exact this o (by omega) x hx
  · rw [h1 i] at hl ⊢
    split at hl
    · rename_i e; subst e
      rw [if_pos rfl]
      have : ¬ (g st i).2.1 - nOf (ndOf l st o) (ndOf l st i) ≤ 0 := of_decide_eq_false hl
      exact ⟨c1, c2, by show 0 ≤ (g st i).1 + _; omega, by show 1 ≤ (g st i).2.1 - _; omega, by show (g st i).1 + _ + ((g st i).2.1 - _) ≤ _; omega⟩
    · rename_i e
      rw [if_neg e]
      split at hl
      · rename_i e2; subst e2
        rw [if_pos rfl]
        have : ¬ (g st i).2.1 - nOf (ndOf l st i) (ndOf l st c) ≤ 0 := of_decide_eq_false hl
        exact ⟨o1, o2, o3, by show 1 ≤ (g st i).2.1 - _; omega, by show (g st i).1 + ((g st i).2.1 - _) ≤ _; omega⟩
      · rename_i e2
        rw [if_neg e2]
        split at hl
        · have hl : true = false := hl
          cases hl
        · rename_i e3
          rw [if_neg e3]
          exact N.live i hi hl
  · rw [h1 i, if_neg (by omega), if_neg (by omega), if_neg (by omega)]
    exact N.late i hi1 hi2
end
end Go.Proofs
