/- marks: the document's answer's functions that only look. No condition. -/
import Derived.Test.YtoojoogbkbfpcaaTxA
import Derived.Test.YtoojoogbkbfpcaaTxB
import Derived.Test.YtoojoogbkbfpcaaHmC
namespace Go.Proofs
open Go Go.Sh
set_option linter.unusedVariables false
set_option maxRecDepth 100000

abbrev Bs := List UInt8
abbrev AttrP := Bs × Bs
abbrev elAttr : El AttrP := elPair elStr elStr
abbrev MarkP := Int × Bs × List AttrP
abbrev elMark : El MarkP := elPair (elInt .i64) (elPair elStr (elSl elAttr))

section
variable {A : Nat → Prop} {h : H} {a : Addr}
/-- a mark's cells -/
abbrev MarkR (A : Nat → Prop) (h : H) (m : MarkP) (b : Option Addr) (n c : Nat) : Prop := elMark.R A h m [.int .i64 m.1, S m.2.1, .slice b n c]
theorem markR {m : MarkP} {b : Option Addr} {n c : Nat} (r : Row elAttr A h b n c m.2.2) (hz : b = none → c = 0) (hr : Rng .i64 m.1) (hs : m.2.1.length ≤ maxLen) : MarkR A h m b n c :=
  ⟨[.int .i64 m.1], [S m.2.1, .slice b n c], rfl, ⟨rfl, hr⟩, [S m.2.1], [.slice b n c], rfl, ⟨rfl, hs⟩, b, n, c, rfl, r, hz⟩
theorem MarkR.inv {m : MarkP} {b : Option Addr} {n c : Nat} (r : MarkR A h m b n c) : Row elAttr A h b n c m.2.2 ∧ (b = none → c = 0) ∧ Rng .i64 m.1 ∧ m.2.1.length ≤ maxLen := by
  obtain ⟨c1, c2, e, ⟨e1, hr⟩, c3, c4, e2, ⟨e3, hs⟩, b', n', c', e4, r', hz⟩ := r
  subst e4; subst e3; subst e1; subst e2
  simp at e
  obtain ⟨rfl, rfl, rfl⟩ := e
  exact ⟨r', hz, hr, hs⟩
theorem MarkR.kb {h' : H} {m : MarkP} {b : Option Addr} {n c : Nat} (r : MarkR A h m b n c) (k : KB h h') : MarkR A h' m b n c := elMark.keep _ _ _ _ _ _ r ((SK.w k).less fun _ h => h.2) fun _ h _ => h
theorem MarkR.kw {h' : H} {m : MarkP} {b : Option Addr} {n c : Nat} (r : MarkR A h m b n c) (k : KW h h') : MarkR A h' m b n c := elMark.keep _ _ _ _ _ _ r (k.less fun _ h => h.2) fun _ h _ => h
theorem MarkR.any {m : MarkP} {b : Option Addr} {n c : Nat} (r : MarkR A h m b n c) : MarkR (fun _ => True) h m b n c := elMark.keep _ _ _ _ _ _ r (Keep.refl _ _) fun _ _ _ => trivial
theorem ldMark {m : MarkP} {K : Int → Bs → Option Addr → Nat → Nat → Prop} (hA : At elMark A h a m) (hk : ∀ b n c, MarkR A h m b n c → K m.1 m.2.1 b n c) :
    ∃ i, cell h (a.add 0) = some (.int .i64 i) ∧ ∃ s, cell h (a.add 1) = some (S s) ∧ ∃ b n c, cell h (a.add 2) = some (.slice b n c) ∧ K i s b n c :=
  ⟨_, hA.fst.int.1, _, hA.snd.fst.str.1, ldSl (hA.snd.sndAt (k := 2) rfl) fun b n c r hz => hk b n c (markR r hz hA.fst.int.2 hA.snd.fst.str.2)⟩
abbrev AttrR (A : Nat → Prop) (h : H) (m : AttrP) : Prop := elAttr.R A h m [S m.1, S m.2]
theorem attrR {m : AttrP} (h1 : m.1.length ≤ maxLen) (h2 : m.2.length ≤ maxLen) : AttrR A h m := ⟨[S m.1], [S m.2], rfl, ⟨rfl, h1⟩, rfl, h2⟩
theorem AttrR.inv {m : AttrP} (r : AttrR A h m) : m.1.length ≤ maxLen ∧ m.2.length ≤ maxLen := by
  obtain ⟨c1, c2, e, ⟨e1, h1⟩, e2, h2⟩ := r
  exact ⟨h1, h2⟩
theorem ldAttr {m : AttrP} {K : Bs → Bs → Prop} (hA : At elAttr A h a m) (hk : AttrR A h m → K m.1 m.2) :
    ∃ s, cell h (a.add 0) = some (S s) ∧ ∃ t, cell h (a.add 1) = some (S t) ∧ K s t :=
  ⟨_, hA.fst.str.1, _, hA.snd.str.1, hk (attrR hA.fst.str.2 hA.snd.str.2)⟩
end

/-! ### behind -/
def behindTo (l : List MarkP) : Nat → Nat
  | 0 => 0
  | i + 1 => if (l.getD i (0, [], [])).1 < 0 then i + 1 else behindTo l i
def behind (l : List MarkP) : Nat := behindTo l l.length

theorem getD_get {α : Type} {l : List α} {i : Nat} {d : α} (hi : i < l.length) : l.getD i d = l[i] := by
  rw [List.getD_eq_getElem?_getD, List.getElem?_eq_getElem hi]; rfl
theorem rng64 {n : Int} (h1 : -9223372036854775808 ≤ n) (h2 : n ≤ 9223372036854775807) : Rng .i64 n := ⟨h1, h2⟩

theorem behind_asks {A : Nat → Prop} {h : H} {b : Option Addr} {n c : Nat} {l : List MarkP} (r : Row elMark A h b n c l) {K : Value → H → Prop} (hk : K (.int .i64 (behind l)) h) : Sx.r12_behind.asks b n c K h := by
  have hl := r.len
  have hm : n ≤ maxLen := Nat.le_trans r.cap r.max
  simp only [maxLen] at hm
  refine ⟨rng64 (by omega) (by omega), n + 1, ?_⟩
  have key : ∀ i, i ≤ n → behindTo l i = behind l → Sx.r12_behind.n6_L (fun h => K (.int .i64 0) h) (fun h => K (.int .i64 0) h) (fun y2 h => K (.int .i64 y2) h) (i + 1) b n c ((i : Int) - 1) h := by
    intro i
    induction i with
    | zero =>
      intro _ e
      refine splF (by omega) ?_
      rw [← e] at hk
      exact hk
    | succ i ih =>
      intro hi e
      refine splT (by omega) (r.idx (by omega) (by omega) rfl fun a hi2 hA => ldI (hA.fst) fun hr => ?_)
      have hx : ((i + 1 : Nat) : Int) - 1 = (i : Int) := by omega
      have hxt : (((i + 1 : Nat) : Int) - 1).toNat = i := by omega
      unfold behindTo at e
      rw [getD_get (by omega)] at e
      simp only [hxt]
      refine spl (fun hneg => ⟨rng64 (by omega) (by omega), ?_⟩) fun hneg => ⟨rng64 (by omega) (by omega), ?_⟩
      · rw [if_pos hneg] at e
        rw [← e] at hk
        rw [show ((i + 1 : Nat) : Int) - 1 + 1 = ((i + 1 : Nat) : Int) by omega]
        exact hk
      · rw [if_neg hneg] at e
        rw [hx]
        exact ih (by omega) e
  exact key n (Nat.le_refl _) (by rw [← hl]; rfl)
theorem behind_calls {A : Nat → Prop} {h : H} {b : Option Addr} {n c : Nat} {l : List MarkP} (r : Row elMark A h b n c l) {K : Value → H → Prop} (hk : K (.int .i64 (behind l)) h) :
    HCalls Try.prog 26 ⟨[.slice b n c]⟩ h K := Sx.r12_behind.ok _ _ _ _ _ (behind_asks r hk)
end Go.Proofs
