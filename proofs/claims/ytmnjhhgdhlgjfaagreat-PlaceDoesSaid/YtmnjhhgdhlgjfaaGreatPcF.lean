/- place: calls in memory; heavy; the chapter's example. No condition but that the library's variable holds a number. -/
import Derived.Test.YtmnjhhgdhlgjfaaGreatPcD
import Derived.Test.YtmnjhhgdhlgjfaaGreatPcE
import Derived.Test.YtmnjhhgdhlgjfaaGreatDoL
namespace Go.Proofs
open Go Go.Sh
set_option linter.unusedVariables false
set_option maxRecDepth 100000
abbrev OpQ := Int × Int × TokP × Int × Bool
abbrev elOpQ : El OpQ := elPair (elInt .u8) (elPair (elInt .u8) (elPair elTok (elPair (elInt .i64) elBool)))
section
variable {A : Nat → Prop} {h : H} {a : Addr} {x : OpQ}
theorem opKind (hA : At elOpQ A h a x) : cell h (a.add 0) = some (.int .u8 x.1) ∧ Rng .u8 x.1 := hA.fst.int
theorem opSpace (hA : At elOpQ A h a x) : cell h (a.add 1) = some (.int .u8 x.2.1) ∧ Rng .u8 x.2.1 := hA.snd.fst.int
theorem opTok (hA : At elOpQ A h a x) : ∃ b n c, TokC A h (a.add 2) x.2.2.1 b n c := tokAt (hA.snd.sndAt (k := 2) rfl).fst
theorem opN (hA : At elOpQ A h a x) : cell h (a.add 7) = some (.int .i64 x.2.2.2.1) ∧ Rng .i64 x.2.2.2.1 := ((hA.snd.sndAt (k := 2) rfl).sndAt (k := 7) rfl).fst.int
theorem opYes (hA : At elOpQ A h a x) : cell h (a.add 8) = some (.bool x.2.2.2.2) := (((hA.snd.sndAt (k := 2) rfl).sndAt (k := 7) rfl).sndAt (k := 8) rfl).bool
end
/-- calls that are few, of little -/
def LightQ (l : List OpQ) : Prop := l.length ≤ 100 ∧ ∀ o ∈ l, tokW o.2.2.1 ≤ 400
section
variable {A : Nat → Prop} {h : H} {K : Value → H → Prop} {b : Option Addr} {n c : Nat} {l : List OpQ}
theorem heavy_calls (R : Row elOpQ A h b n c l) (hk : ∀ h' v, KB h h' → (v = false → LightQ l) → K (.bool v) h') : HCalls Tryz.prog 4 ⟨[.slice b n c]⟩ h K := by
  have hl := R.len
  have hm : n ≤ maxLen := Nat.le_trans R.cap R.max
  simp only [maxLen] at hm
  refine Sx.l13_heavy.ok _ _ _ _ _ ⟨n + 1, ?_⟩
  have fin : ∀ h1 (w : Int), KB h h1 → (w ≤ 400 → ∀ o ∈ l, tokW o.2.2.1 ≤ 400) → Sx.l13_heavy.n4 b n c w (fun y2 h => K (.bool y2) h) (fun y2 h => K (.bool y2) h) h1 := fun h1 w k1 hw =>
    spl (fun _ => hk h1 true k1 fun e => by cases e) fun e => spl (fun _ => hk h1 true k1 fun e => by cases e) fun e2 => hk h1 false k1 fun _ => ⟨by omega, hw (by omega)⟩
  have key : ∀ N i (w : Int) h1, i + N = n → KB h h1 → (n : Int) ≤ w → (w ≤ 400 → ∀ o ∈ l.take i, tokW o.2.2.1 ≤ 400) →
      Sx.l13_heavy.n7_L (fun z0b z0n z0c z3 h => Sx.l13_heavy.n4 z0b z0n z0c z3 (fun y2 h => K (.bool y2) h) (fun y2 h => K (.bool y2) h) h) (fun z0b z0n z0c z3 h => Sx.l13_heavy.n4 z0b z0n z0c z3 (fun y2 h => K (.bool y2) h) (fun y2 h => K (.bool y2) h) h) (fun y2 h => K (.bool y2) h) (N + 1) b n c w (i : Int) h1 := by
    intro N
    induction N with
    | zero =>
      intro i w h1 hi k1 w0 hw
      unfold Sx.l13_heavy.n7_L
      refine splF (by omega) (fin h1 w k1 fun hle => ?_)
      have := hw hle
      rwa [List.take_of_length_le (by omega)] at this
    | succ N ih =>
      intro i w h1 hi k1 w0 hw
      unfold Sx.l13_heavy.n7_L
      refine splT (by omega) (spl (fun hle => ?_) fun hgt => fin h1 w k1 fun hle => absurd hle hgt)
      have hil : i < l.length := by omega
      have hw := hw hle
      refine (R.kb k1).idxN hil rfl fun a hA => ?_
      obtain ⟨ab, an, ac, C⟩ := opTok hA
      refine ⟨_, C.c0, _, C.c1, _, _, _, C.c2, _, C.c3, _, C.c4, newx_var fun a3 h3 v3 k3 e3 s3 => ?_⟩
      have r3 : Row elTok (fun _ => True) h3 (some a3) 1 1 [l[i].2.2.1] := v3.row1 (tokR (A := fun _ => True) ((C.row.kb k3).any) C.nil C.rk C.rn C.rt) trivial
      refine tokens_calls (lim := 400) r3 (by decide) fun v v0 v1 v2 v3 => vIntMk ?_
      have v2 := v2 (by decide)
      refine ⟨rngW (by omega) (by omega), rngW (by omega) (by omega), rngW (by omega) (by omega), ih (i + 1) _ h3 (by omega) (k1.trans k3) (by omega) fun hle2 o ho => ?_⟩
      rw [List.take_add_one, List.getElem?_eq_getElem hil] at ho
      rcases List.mem_append.1 ho with ho | ho
      · exact hw o ho
      · have eo : o = l[i] := by simpa using ho
        subst eo
        have e3 := v3 (by show v ≤ 400; omega)
        have e4 : toksW [l[i].2.2.1] = tokW l[i].2.2.1 := by unfold toksW; simp
        rw [e4] at e3
        omega
  exact key n 0 (n : Int) h (by omega) (KB.refl h) (by omega) fun _ o ho => by simp at ho
end
/-! ### Put, where the way up is known -/
def endB (ns : List NodeM) : Nat → Int → Bool
  | 0, i => decide (i < 0)
  | f + 1, i => decide (i < 0) || endB ns f (parI ns i)
theorem endB_ok {ns : List NodeM} : ∀ {f : Nat} {i : Int}, endB ns f i = true → endP ns f i
  | 0, i, h => (show i < 0 from of_decide_eq_true (p := i < 0) h)
  | f + 1, i, h => by
    unfold endB at h
    rw [Bool.or_eq_true] at h
    exact h.imp (of_decide_eq_true (p := i < 0)) endB_ok
theorem within_dec {ns : List NodeM} {i x : Int} (N : Nat) (h : endB ns N i = true) : withinP ns i x = decide (x ∈ chainP ns N i) := by
  have hi := inC_iff (x := x) (endB_ok h)
  unfold withinP
  by_cases hx : x ∈ chainP ns N i
  · rw [decide_eq_true hx]; exact @decide_eq_true (InC ns i x) (Classical.propDecidable _) (hi.2 hx)
  · rw [decide_eq_false hx]; exact @decide_eq_false (InC ns i x) (Classical.propDecidable _) (fun h => hx (hi.1 h))
def putC (N : Nat) (ns : List NodeM) (parent before id : Int) : List NodeM × Bool :=
  if holdB ns parent = true ∧ (0 ≤ id ∧ id < ns.length) ∧ id ≠ 0 ∧ before ≠ id ∧ 0 ≤ plcP (((ns[parent.toNat]?).map (·.kids)).getD []) before ∧ decide (id ∈ chainP ns N parent) = false then
    (putAt (cutM ns id).1 parent.toNat before id.toNat, true)
  else (ns, false)
theorem putM_C {ns : List NodeM} {p b i : Int} (N : Nat) (h : endB ns N p = true) : putM ns p b i = putC N ns p b i := by
  unfold putM putC; rw [within_dec N h]
/-! ### the chapter's example -/
abbrev nd (k : Int) (nm tx : Bs) (p : Int) (ks : List Int) : NodeM := ⟨k, 0, nm, [], tx, p, ks⟩
def bTab : Bs := [116, 97, 98, 108, 101]
def bTr : Bs := [116, 114]
def q1 : WM := ⟨[nd 0 [] [] (-1) [1], nd 1 bTab [] 0 []], [(0, 0, wHtml, 0), (1, 0, bTab, 0)], [], false, 2⟩
def q2 : WM := ⟨[nd 0 [] [] (-1) [1], nd 1 bTab [] 0 [2], nd 1 bTr [] 1 []], [(0, 0, wHtml, 0), (1, 0, bTab, 0), (2, 0, bTr, 0)], [], false, 3⟩
def q3 : WM := ⟨[nd 0 [] [] (-1) [3, 1], nd 1 bTab [] 0 [2], nd 1 bTr [] 1 [], nd 2 [] [120] 0 []], [(0, 0, wHtml, 0), (1, 0, bTab, 0), (2, 0, bTr, 0)], [], true, 3⟩
def q4 : WM := ⟨[nd 0 [] [] (-1) [3, 1], nd 1 bTab [] 0 [2], nd 1 bTr [] 1 [4], nd 2 [] [120] 0 [], nd 1 [98] [] 2 []], [(0, 0, wHtml, 0), (1, 0, bTab, 0), (2, 0, bTr, 0), (4, 0, [98], 0)], [], false, 4⟩
def q5 : WM := ⟨[nd 0 [] [] (-1) [3, 1], nd 1 bTab [] 0 [2], nd 1 bTr [] 1 [4], nd 2 [] [120] 0 [], nd 1 [98] [] 2 [5], nd 2 [] [121] 4 []], [(0, 0, wHtml, 0), (1, 0, bTab, 0), (2, 0, bTr, 0), (4, 0, [98], 0)], [], false, 4⟩
theorem kq1 : insertM wm0 0 bTab [] = q1 := by
  unfold insertM
  rw [putM_C 3 (by decide +kernel)]
  rfl
theorem kq2 : insertM q1 0 bTr [] = q2 := by
  unfold insertM
  rw [putM_C 4 (by decide +kernel)]
  rfl
theorem kq3 : writeW { q2 with fo := true } [120] = q3 := by
  unfold writeW
  have e : putM (addM q2.ns (bareM 2 0 [] [] [120])).1 0 1 (addM q2.ns (bareM 2 0 [] [] [120])).2 = (q3.ns, true) := by
    rw [putM_C 4 (by decide +kernel)]; rfl
  have hw : whereC { q2 with fo := true } = (0, 1) := by decide +kernel
  rw [hw]
  unfold writeM
  rw [if_neg (fun h => h ⟨by decide +kernel, by decide +kernel⟩), if_neg (by decide)]
  have : (putM (addM q2.ns (bareM 2 0 [] [] [120])).1 0 1 (addM q2.ns (bareM 2 0 [] [] [120])).2).1 = q3.ns := by rw [e]
  show (⟨_, _, _, _, _⟩ : WM) = _
  unfold q3
  congr 1
theorem kq4 : insertM { q3 with fo := false } 0 [98] [] = q4 := by
  unfold insertM
  rw [putM_C 5 (by decide +kernel)]
  rfl
theorem kq5 : writeW q4 [121] = q5 := by
  unfold writeW
  have e : putM (addM q4.ns (bareM 2 0 [] [] [121])).1 4 (-1) (addM q4.ns (bareM 2 0 [] [] [121])).2 = (q5.ns, true) := by
    rw [putM_C 6 (by decide +kernel)]; rfl
  have hw : whereC q4 = (4, -1) := by decide +kernel
  rw [hw]
  unfold writeM
  rw [if_neg (fun h => h ⟨by decide +kernel, by decide +kernel⟩), if_neg (by decide)]
  have : (putM (addM q4.ns (bareM 2 0 [] [] [121])).1 4 (-1) (addM q4.ns (bareM 2 0 [] [] [121])).2).1 = q5.ns := by rw [e]
  show (⟨_, _, _, _, _⟩ : WM) = _
  unfold q5
  congr 1
theorem kq_whole : wholeL 5 q5.ns 0 = [.mk 2 0 [] [] [120] [], .mk 1 0 bTab [] [] [.mk 1 0 bTr [] [] [.mk 1 0 [98] [] [] [.mk 2 0 [] [] [121] []]]]] := rfl
end Go.Proofs
