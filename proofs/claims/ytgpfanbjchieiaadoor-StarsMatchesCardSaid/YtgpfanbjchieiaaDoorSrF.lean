/- stars: the chapter's Match: states, clashes, the search. No condition. -/
import Derived.Test.YtgpfanbjchieiaaDoorSrE
namespace Go.Proofs
open Go Go.Sh
set_option linter.unusedVariables false
set_option maxRecDepth 100000
abbrev StP := Int × Int × Bool
def elSt : El StP := elPair (elInt .i64) (elPair (elInt .i64) elBool)
theorem flatSt : Flat elSt := flatPair (flatI _) (flatPair (flatI _) flatBo)
def stCells (s : StP) : List Value := [.int .i64 s.1, .int .i64 s.2.1, .bool s.2.2]
theorem stR {A : Nat → Prop} {h : H} {s : StP} (h1 : Rng .i64 s.1) (h2 : Rng .i64 s.2.1) : elSt.R A h s (stCells s) := ⟨[_], _, rfl, ⟨rfl, h1⟩, [_], [_], rfl, ⟨rfl, h2⟩, rfl⟩
theorem stInv {A : Nat → Prop} {h : H} {s : StP} {cs : List Value} (hR : elSt.R A h s cs) : cs = stCells s ∧ Rng .i64 s.1 ∧ Rng .i64 s.2.1 := by
  obtain ⟨c1, c2, rfl, ⟨rfl, h1⟩, c3, c4, rfl, ⟨rfl, h2⟩, e⟩ := hR
  have e : c4 = [.bool s.2.2] := e
  subst e
  exact ⟨rfl, h1, h2⟩
theorem apdSt : Apd Tryd.prog elSt 46 48 24 := apd_of (sz := 3) (by kernel_rfl) rfl
def clashP (o c : RunP) : Bool := (c.op || o.cl) && (!decide (c.mn.tmod 3 = 0) && decide ((o.mn + c.mn).tmod 3 = 0))
theorem suits_clash (o c : RunP) : suitsP o c = (decide (o.ch = c.ch) && (o.op && !clashP o c)) := by
  unfold suitsP clashP
  cases decide (o.ch = c.ch) <;> cases o.op <;> cases (c.op || o.cl) <;> cases decide (c.mn.tmod 3 = 0) <;> cases decide ((o.mn + c.mn).tmod 3 = 0) <;> rfl
def dS : StP := (0, 0, true)
abbrev g (st : List StP) (i : Nat) : StP := st.getD i dS
abbrev gl (l : List RunP) (i : Nat) : RunP := l.getD i r0
theorem g_set {st : List StP} {i : Nat} {x : StP} (hi : i < st.length) (j : Nat) : g (st.set i x) j = if j = i then x else g st j := by
  unfold g
  rw [List.getD_eq_getElem?_getD, List.getElem?_set, List.getD_eq_getElem?_getD]
  by_cases h : i = j
  · subst h; rw [if_pos rfl, if_pos hi, if_pos rfl]; rfl
  · rw [if_neg h, if_neg (Ne.symm h)]
/-- the live runs ahead of a place, the nearest first -/
def leftOf (l : List RunP) (st : List StP) : Nat → List Nd
  | 0 => []
  | i + 1 => if (g st i).2.2 = true then leftOf l st i else ⟨gl l i, (g st i).1, (g st i).2.1⟩ :: leftOf l st i
theorem leftOf_out {l : List RunP} {st : List StP} {k : Nat} (h : (g st k).2.2 = true) : leftOf l st (k + 1) = leftOf l st k := if_pos h
theorem leftOf_in {l : List RunP} {st : List StP} {k : Nat} (h : (g st k).2.2 = false) : leftOf l st (k + 1) = ⟨gl l k, (g st k).1, (g st k).2.1⟩ :: leftOf l st k := if_neg (by rw [h]; decide)
theorem leftOf_congr {l : List RunP} {st st' : List StP} : ∀ {k : Nat}, (∀ i, i < k → g st' i = g st i) → leftOf l st' k = leftOf l st k
  | 0, _ => rfl
  | k + 1, h => by
    have ih := leftOf_congr (l := l) fun i hi => h i (Nat.lt_succ_of_lt hi)
    have hk := h k (by omega)
    cases ho : (g st k).2.2 with
    | true => rw [leftOf_out ho, leftOf_out (by rw [hk]; exact ho), ih]
    | false => rw [leftOf_in ho, leftOf_in (by rw [hk]; exact ho), ih, hk]
theorem leftOf_skip {l : List RunP} {st : List StP} : ∀ {k j : Nat}, j ≤ k → (∀ i, j ≤ i → i < k → (g st i).2.2 = true) → leftOf l st k = leftOf l st j
  | 0, j, hj, _ => by rw [show j = 0 by omega]
  | k + 1, j, hj, h => by
    by_cases e : j = k + 1
    · rw [e]
    · rw [leftOf_out (h k (by omega) (by omega))]
      exact leftOf_skip (by omega) fun i h1 h2 => h i h1 (by omega)
/-- the search's place -/
def findI (l : List RunP) (st : List StP) (c : RunP) : Nat → Int
  | 0 => -1
  | k + 1 => if (g st k).2.2 = false ∧ suitsP (gl l k) c = true then (k : Int) else findI l st c k
theorem splitO_yes {c : RunP} {o : Nd} {l : List Nd} (h : suitsP o.r c = true) : splitO c (o :: l) = some (o, l) := if_pos h
theorem splitO_no {c : RunP} {o : Nd} {l : List Nd} (h : ¬ suitsP o.r c = true) : splitO c (o :: l) = splitO c l := if_neg h
theorem findI_spec {l : List RunP} {st : List StP} {c : RunP} : ∀ {k : Nat}, (findI l st c k = -1 ∧ splitO c (leftOf l st k) = none) ∨
    ∃ o : Nat, findI l st c k = (o : Int) ∧ o < k ∧ (g st o).2.2 = false ∧ splitO c (leftOf l st k) = some (⟨gl l o, (g st o).1, (g st o).2.1⟩, leftOf l st o)
  | 0 => .inl ⟨rfl, rfl⟩
  | k + 1 => by
    have ih := findI_spec (l := l) (st := st) (c := c) (k := k)
    have weak : findI l st c (k + 1) = findI l st c k → splitO c (leftOf l st (k + 1)) = splitO c (leftOf l st k) → (findI l st c (k + 1) = -1 ∧ splitO c (leftOf l st (k + 1)) = none) ∨
        ∃ o : Nat, findI l st c (k + 1) = (o : Int) ∧ o < k + 1 ∧ (g st o).2.2 = false ∧ splitO c (leftOf l st (k + 1)) = some (⟨gl l o, (g st o).1, (g st o).2.1⟩, leftOf l st o) := fun e1 e2 => by
      rw [e1, e2]
      rcases ih with h | ⟨o, h1, h2, h3⟩
      · exact .inl h
      · exact .inr ⟨o, h1, by omega, h3⟩
    cases ho : (g st k).2.2 with
    | true => exact weak (if_neg (by rw [ho]; simp)) (by rw [leftOf_out ho])
    | false =>
      by_cases hs : suitsP (gl l k) c = true
      · exact .inr ⟨k, if_pos ⟨ho, hs⟩, by omega, ho, by rw [leftOf_in ho]; exact splitO_yes hs⟩
      · exact weak (if_neg fun h => hs h.2) (by rw [leftOf_in ho]; exact splitO_no hs)
section
variable {h : H} {K : Value → H → Prop} {A A2 : Nat → Prop} {b sb : Option Addr} {n c sn sc : Nat} {l : List RunP} {st : List StP}
theorem clash_calls {o c : RunP} (ho : -100000 ≤ o.mn ∧ o.mn ≤ 100000) (hc : -100000 ≤ c.mn ∧ c.mn ≤ 100000) (hk : ∀ h', KB h h' → K (.bool (clashP o c)) h') : HCalls Tryd.prog 27 ⟨[.agg ⟨runCells o⟩, .agg ⟨runCells c⟩]⟩ h K := by
  refine Sx.r27_clash.ok _ _ _ _ _ _ _ _ _ _ _ _ (newx_var (cs := runCells o) fun a1 h1 v1 k1 e1 z1 => newx_var (cs := runCells c) fun a2 h2 v2 k2 e2 z2 => ?_)
  have v12 := v1.kb k2
  have hk := hk h2 (k1.trans k2)
  have tail : (c.op || o.cl) = true → ∃ i100, cell h2 (a2.add 2) = some (.int .i64 i100) ∧ ((3 : Int) ≠ 0 ∧ (Spl ((Int.tmod i100 (3 : Int)) = (0 : Int)) (K (.bool false) h2) (∃ i101, cell h2 (a1.add 2) = some (.int .i64 i101) ∧ (∃ i102, cell h2 (a2.add 2) = some (.int .i64 i102) ∧ (Rng .i64 (i101 + i102) ∧ ((3 : Int) ≠ 0 ∧ (Spl ((Int.tmod (i101 + i102) (3 : Int)) = (0 : Int)) (K (.bool true) h2) (K (.bool false) h2)))))))) := fun e => by
    unfold clashP at hk
    rw [e] at hk
    refine ⟨_, v2.cell 2 rfl, by decide, spl (fun e1 => ?_) fun e1 => ⟨_, v12.cell 2 rfl, _, v2.cell 2 rfl, rng64 (by omega) (by omega), by decide, spl (fun e2 => ?_) fun e2 => ?_⟩⟩
    · rw [decide_eq_true e1] at hk; exact hk
    · rw [decide_eq_false e1, decide_eq_true e2] at hk; exact hk
    · rw [decide_eq_false e1, decide_eq_false e2] at hk; exact hk
  refine ⟨_, v2.cell 3 rfl, condB (fun e => tail (by rw [show c.op = true from e]; rfl)) fun e => ⟨_, v12.cell 4 rfl, condB (fun e2 => tail (by rw [show o.cl = true from e2]; simp)) fun e2 => ?_⟩⟩
  unfold clashP at hk
  rw [show c.op = false from e, show o.cl = false from e2] at hk
  exact hk
/-! ### reads -/
theorem rnAt (r : Row elRun A h b n c l) {i : Nat} (hi : i < l.length) {K : Addr → Prop} (hk : ∀ a, (∀ (j : Nat) v, (runCells l[i])[j]? = some v → cell h ((a.add (Int.toNat (i : Int) * 5)).add j) = some v) → RunR l[i] → K a) : (0 ≤ (i : Int) ∧ (i : Int) < (n : Int)) ∧ vSome b K := by
  have hn := r.len
  refine ⟨⟨by omega, by omega⟩, ?_⟩
  obtain ⟨a, rfl, hA⟩ := r.at' i _ (List.getElem?_eq_getElem hi)
  rw [Int.toNat_natCast] at hk
  obtain ⟨h1, h2⟩ := runAt hA
  exact hk a h1 h2
theorem stAt (r : Row elSt A2 h sb sn sc st) {i : Nat} (hi : i < st.length) {K : Addr → Prop} (hk : ∀ a, (∀ (j : Nat) v, (stCells st[i])[j]? = some v → cell h ((a.add (Int.toNat (i : Int) * 3)).add j) = some v) → Rng .i64 st[i].1 → Rng .i64 st[i].2.1 → K a) : (0 ≤ (i : Int) ∧ (i : Int) < (sn : Int)) ∧ vSome sb K := by
  have hn := r.len
  refine ⟨⟨by omega, by omega⟩, ?_⟩
  obtain ⟨a, rfl, hA⟩ := r.at' i _ (List.getElem?_eq_getElem hi)
  rw [Int.toNat_natCast] at hk
  obtain ⟨_, cs, hR, h4⟩ := hA
  obtain ⟨rfl, h1, h2⟩ := stInv hR
  exact hk a h4 h1 h2
theorem g_get {st : List StP} {i : Nat} (hi : i < st.length) : st[i] = g st i := (getD_get hi).symm
theorem gl_get {l : List RunP} {i : Nat} (hi : i < l.length) : l[i] = gl l i := (getD_get hi).symm
/-! ### the search -/
theorem refSearch {Kn Ke6 : Option Addr → Nat → Nat → Option Addr → Nat → Nat → Option Addr → Nat → Nat → Int → Int → H → Prop} {Ke5 Ke4 Ke3 : Option Addr → Nat → Nat → Option Addr → Nat → Nat → Option Addr → Nat → Nat → Int → H → Prop} {Ke2 Kr : Option Addr → Nat → Nat → H → Prop} {ob : Option Addr} {on oc ci : Nat} {h0 : H}
    (hci : ci < l.length) (hsl : st.length = l.length) (hll : l.length ≤ 1000) (hmn : ∀ i, i < l.length → (g st i).2.2 = false → -100000 ≤ (gl l i).mn ∧ (gl l i).mn ≤ 100000) (hc : (g st ci).2.2 = false)
    (hk : ∀ h', KB h0 h' → Ke6 b n c sb sn sc ob on oc (ci : Int) (findI l st (gl l ci) ci) h') :
    ∀ k h, (∀ i, i < ci → k ≤ i → ¬ ((g st i).2.2 = false ∧ suitsP (gl l i) (gl l ci) = true)) → findI l st (gl l ci) ci = findI l st (gl l ci) k → k ≤ ci → KB h0 h → Row elRun A h b n c l → Row elSt A2 h sb sn sc st →
      Sx.r27_Match.n34_L Kn Ke6 Ke5 Ke4 Ke3 Ke2 Kr (k + 1) b n c sb sn sc ob on oc (ci : Int) ((k : Int) - 1) h := by
  intro k
  induction k with
  | zero =>
    intro h hno hfe hkc k0 r rs
    unfold Sx.r27_Match.n34_L
    have := hk h k0
    rw [hfe] at this
    exact splF (by omega) this
  | succ k ih =>
    intro h hno hfe hkc k0 r rs
    have hkl : k < l.length := by omega
    have hks : k < st.length := by omega
    have e1 : (((k + 1 : Nat) : Int) - 1) = (k : Int) := by omega
    rw [e1]
    have next : ∀ h', KB h h' → ¬ ((g st k).2.2 = false ∧ suitsP (gl l k) (gl l ci) = true) → Sx.r27_Match.n34_L Kn Ke6 Ke5 Ke4 Ke3 Ke2 Kr (k + 1) b n c sb sn sc ob on oc (ci : Int) (IntKind.wrap .i64 ((k : Int) - (1 : Int))) h' := fun h' k' hn => by
      rw [show IntKind.wrap .i64 ((k : Int) - (1 : Int)) = (k : Int) - 1 from W_id (by omega) (by omega)]
      refine ih h' (fun i h1 h2 => ?_) ?_ (by omega) (k0.trans k') (r.kb k') (rs.kb k')
      · by_cases e : i = k
        · subst e; exact hn
        · exact hno i h1 (by omega)
      · rw [hfe, findI, if_neg hn]
    unfold Sx.r27_Match.n34_L
    refine splT (by omega) (stAt rs hks fun a ca _ _ => ⟨_, ca 2 _ rfl, condB (fun ho => ?_) fun ho => ?_⟩)
    · rw [g_get hks] at ho
      exact next h (KB.refl h) (fun hh => by rw [hh.1] at ho; cases ho)
    · rw [g_get hks] at ho
      have hsu := suits_clash (gl l k) (gl l ci)
      refine rnAt r hkl fun a1 c1 _ => ⟨_, c1 0 _ rfl, rnAt r hci fun a2 c2 _ => ⟨_, c2 0 _ rfl, spl (fun hch => ?_) fun hch => next h (KB.refl h) fun hh => ?_⟩⟩
      · rw [gl_get hkl, gl_get hci] at hch
        refine rnAt r hkl fun a1 c1 _ => ⟨_, c1 3 _ rfl, condB (fun hop => ?_) fun hop => next h (KB.refl h) fun hh => ?_⟩
        · rw [gl_get hkl] at hop
          refine rnAt r hkl fun a1 c1 _ => ⟨_, c1 0 _ rfl, _, c1 1 _ rfl, _, c1 2 _ rfl, _, c1 3 _ rfl, _, c1 4 _ rfl, rnAt r hci fun a2 c2 _ => ⟨_, c2 0 _ rfl, _, c2 1 _ rfl, _, c2 2 _ rfl, _, c2 3 _ rfl, _, c2 4 _ rfl, ?_⟩⟩
          refine clash_calls (o := l[k]) (c := l[ci]) ?_ ?_ fun h' k' => vBool_mk (condB (fun hcl => next h' k' fun hh => ?_) fun hcl => ?_)
          · rw [gl_get hkl]; exact hmn k hkl ho
          · rw [gl_get hci]; exact hmn ci hci hc
          · rw [gl_get hkl, gl_get hci] at hcl
            rw [hsu, hcl] at hh
            simp at hh
          · rw [gl_get hkl, gl_get hci] at hcl
            rw [decide_eq_true (show (gl l k).ch = (gl l ci).ch from hch), show (gl l k).op = true from hop, hcl] at hsu
            have := hk h' (k0.trans k')
            rw [hfe, findI, if_pos ⟨ho, hsu⟩] at this
            exact this
        · rw [gl_get hkl] at hop
          rw [hsu, show (gl l k).op = false from hop] at hh
          simp at hh
      · rw [gl_get hkl, gl_get hci] at hch
        rw [hsu, decide_eq_false (show ¬ (gl l k).ch = (gl l ci).ch from hch)] at hh
        simp at hh
end
end Go.Proofs
