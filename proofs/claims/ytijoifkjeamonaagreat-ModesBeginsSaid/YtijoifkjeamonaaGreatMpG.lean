import Derived.Test.YtijoifkjeamonaaGreatAaD
import Derived.Test.YtijoifkjeamonaaGreatMpF
import Derived.Test.YtijoifkjeamonaaGreatMoE
import Derived.Test.YtijoifkjeamonaaGreatMpC
import Derived.Test.YtijoifkjeamonaaGreatPdD
import Derived.Test.YtijoifkjeamonaaGreatShQ
import Derived.Deep.Slices
import Derived.Deep.Fields
import Derived.ChangeSame
import Derived.SizedLaws
import Derived.Carry
import Derived.OpenShut
import Derived.ProofKit
namespace Go.Proofs
open Go Go.Sh
set_option linter.unusedVariables false
set_option maxRecDepth 100000
theorem insertM_C {m : WM} {sp : Int} {nm : Bs} {at' : List AttrP} (N : Nat) {ns : List NodeM} (h : endB (addM m.ns (bareM 1 sp nm at' [])).1 N (whereC m).1 = true)
    (e : (putC N (addM m.ns (bareM 1 sp nm at' [])).1 (whereC m).1 (whereC m).2 m.ns.length).1 = ns) :
    insertM m sp nm at' = { m with ns := ns, op := m.op ++ [((m.ns.length : Int), sp, nm, pointM sp nm at')], hi := if ((m.op.length + 1 : Nat) : Int) > m.hi then ((m.op.length + 1 : Nat) : Int) else m.hi } := by
  unfold insertM; rw [putM_C N h, e]
theorem writeW_C {m : WM} {tx : Bs} (N : Nat) {ns : List NodeM} (h1 : holdB m.ns (whereC m).1 = true /\ 0 <= plcP (((m.ns[(whereC m).1.toNat]?).map (·.kids)).getD []) (whereC m).2) (h2 : tx ≠ [])
    (h3 : ((((m.ns[(whereC m).1.toNat]?).map (·.kids)).getD [])[(plcP (((m.ns[(whereC m).1.toNat]?).map (·.kids)).getD []) (whereC m).2).toNat - 1]?).bind (fun k : Int => if 0 < plcP (((m.ns[(whereC m).1.toNat]?).map (·.kids)).getD []) (whereC m).2 then (m.ns[k.toNat]?).bind fun z => if z.kind = 2 then some (k.toNat, z) else none else none) = none)
    (h : endB (addM m.ns (bareM 2 0 [] [] tx)).1 N (whereC m).1 = true) (e : (putC N (addM m.ns (bareM 2 0 [] [] tx)).1 (whereC m).1 (whereC m).2 (addM m.ns (bareM 2 0 [] [] tx)).2).1 = ns) : writeW m tx = { m with ns := ns } := by
  unfold writeW writeM
  rw [if_neg (fun h => h h1), if_neg h2, h3]
  show { m with ns := (putM (addM m.ns (bareM 2 0 [] [] tx)).1 (whereC m).1 (whereC m).2 (addM m.ns (bareM 2 0 [] [] tx)).2).1 } = _
  rw [putM_C N h, e]
abbrev tkS (s : Bs) : TokP := (2, s, [], false, [])
abbrev tkT (s : Bs) : TokP := (1, [], [], false, s)
abbrev tkE (s : Bs) : TokP := (3, s, [], false, [])
abbrev mS (w : WM) : MM := ⟨w, 0, 0, -1, false, 0, []⟩
def r1 : WM := ⟨[nd 0 [] [] (-1) [1], nd 1 [112] [] 0 []], [oHt, (1, 0, [112], 0)], [], false, 2⟩
def r2 : WM := { r1 with ns := [nd 0 [] [] (-1) [1], nd 1 [112] [] 0 [2], nd 2 [] [49] 1 []] }
def r3 : WM := ⟨[nd 0 [] [] (-1) [1], nd 1 [112] [] 0 [2, 3], nd 2 [] [49] 1 [], nd 1 [98] [] 1 []], [oHt, (1, 0, [112], 0), (3, 0, [98], 0)], [(3, [98], [])], false, 3⟩
def r4 : WM := { r3 with ns := [nd 0 [] [] (-1) [1], nd 1 [112] [] 0 [2, 3], nd 2 [] [49] 1 [], nd 1 [98] [] 1 [4], nd 2 [] [50] 3 []] }
def r5 : WM := ⟨[nd 0 [] [] (-1) [1, 5], nd 1 [112] [] 0 [2, 3], nd 2 [] [49] 1 [], nd 1 [98] [] 1 [4], nd 2 [] [50] 3 [], nd 1 [112] [] 0 []], [oHt, (5, 0, [112], 0)], [(3, [98], [])], false, 3⟩
def r6 : WM := ⟨[nd 0 [] [] (-1) [1, 5], nd 1 [112] [] 0 [2, 3], nd 2 [] [49] 1 [], nd 1 [98] [] 1 [4], nd 2 [] [50] 3 [], nd 1 [112] [] 0 [6], nd 1 [98] [] 5 []], [oHt, (5, 0, [112], 0), (6, 0, [98], 0)], [(6, [98], [])], false, 3⟩
def r7 : WM := { r6 with ns := [nd 0 [] [] (-1) [1, 5], nd 1 [112] [] 0 [2, 3], nd 2 [] [49] 1 [], nd 1 [98] [] 1 [4], nd 2 [] [50] 3 [], nd 1 [112] [] 0 [6], nd 1 [98] [] 5 [7], nd 2 [] [51] 6 []] }
theorem kr1 : stepM mm0 (tkS [112]) = mS r1 := by
  have e : stepM mm0 (tkS [112]) = mS (insertM wm0 0 [112] []) := by kernel_rfl
  rw [e, insertM_C 3 (ns := r1.ns) (by decide +kernel) (by kernel_rfl)]; rfl
theorem kr2 : stepM (mS r1) (tkT [49]) = mS r2 := by
  have e : stepM (mS r1) (tkT [49]) = mS (writeW r1 [49]) := by kernel_rfl
  rw [e, writeW_C 4 (ns := r2.ns) (by decide +kernel) (by decide) (by decide +kernel) (by decide +kernel) (by kernel_rfl)]; rfl
theorem kr3 : stepM (mS r2) (tkS [98]) = mS r3 := by
  have e : stepM (mS r2) (tkS [98]) = mS { insertM r2 0 [98] [] with mks := [(3, [98], [])] } := by kernel_rfl
  rw [e, insertM_C 5 (ns := r3.ns) (by decide +kernel) (by kernel_rfl)]; rfl
theorem kr4 : stepM (mS r3) (tkT [50]) = mS r4 := by
  have e : stepM (mS r3) (tkT [50]) = mS (writeW r3 [50]) := by kernel_rfl
  rw [e, writeW_C 6 (ns := r4.ns) (by decide +kernel) (by decide) (by decide +kernel) (by decide +kernel) (by kernel_rfl)]; rfl
theorem kr5 : stepM (mS r4) (tkS [112]) = mS r5 := by
  have e : stepM (mS r4) (tkS [112]) = mS (insertM { r4 with op := [oHt] } 0 [112] []) := by kernel_rfl
  rw [e, insertM_C 7 (ns := r5.ns) (by decide +kernel) (by kernel_rfl)]; rfl
theorem kr6 : stepM (mS r5) (tkT [51]) = mS r7 := by
  have e : stepM (mS r5) (tkT [51]) = mS (writeW { insertM r5 0 [98] [] with mks := [(6, [98], [])] } [51]) := by kernel_rfl
  have e2 : { insertM r5 0 [98] [] with mks := [(6, [98], [])] } = r6 := by
    rw [insertM_C 8 (ns := r6.ns) (by decide +kernel) (by kernel_rfl)]; rfl
  rw [e, e2, writeW_C 9 (ns := r7.ns) (by decide +kernel) (by decide) (by decide +kernel) (by decide +kernel) (by kernel_rfl)]; rfl
theorem kr_1 : playM [tkS [112], tkT [49], tkS [98], tkT [50], tkS [112], tkT [51]] = mS r7 := by
  unfold playM; simp only [List.foldl_cons, List.foldl_nil]
  rw [kr1, kr2, kr3, kr4, kr5, kr6]
def a1 : WM := ⟨[nd 0 [] [] (-1) [1], nd 1 [97] [] 0 []], [oHt, (1, 0, [97], 0)], [(1, [97], [])], false, 2⟩
def a2 : WM := { a1 with ns := [nd 0 [] [] (-1) [1], nd 1 [97] [] 0 [2], nd 2 [] [49] 1 []] }
def a3 : WM := ⟨[nd 0 [] [] (-1) [1, 3], nd 1 [97] [] 0 [2], nd 2 [] [49] 1 [], nd 1 [97] [] 0 []], [oHt, (3, 0, [97], 0)], [(3, [97], [])], false, 2⟩
def a4 : WM := { a3 with ns := [nd 0 [] [] (-1) [1, 3], nd 1 [97] [] 0 [2], nd 2 [] [49] 1 [], nd 1 [97] [] 0 [4], nd 2 [] [50] 3 []] }
theorem ka1 : stepM mm0 (tkS [97]) = mS a1 := by
  have e : stepM mm0 (tkS [97]) = mS { insertM wm0 0 [97] [] with mks := [(1, [97], [])] } := by kernel_rfl
  rw [e, insertM_C 3 (ns := a1.ns) (by decide +kernel) (by kernel_rfl)]; rfl
theorem ka2 : stepM (mS a1) (tkT [49]) = mS a2 := by
  have e : stepM (mS a1) (tkT [49]) = mS (writeW a1 [49]) := by kernel_rfl
  rw [e, writeW_C 4 (ns := a2.ns) (by decide +kernel) (by decide) (by decide +kernel) (by decide +kernel) (by kernel_rfl)]; rfl
theorem ka3 : stepM (mS a2) (tkS [97]) = mS a3 := by
  have e : stepM (mS a2) (tkS [97]) = mS { insertM { a2 with op := [oHt], mks := [] } 0 [97] [] with mks := [(3, [97], [])] } := by kernel_rfl
  rw [e, insertM_C 5 (ns := a3.ns) (by decide +kernel) (by kernel_rfl)]; rfl
theorem ka4 : stepM (mS a3) (tkT [50]) = mS a4 := by
  have e : stepM (mS a3) (tkT [50]) = mS (writeW a3 [50]) := by kernel_rfl
  rw [e, writeW_C 6 (ns := a4.ns) (by decide +kernel) (by decide) (by decide +kernel) (by decide +kernel) (by kernel_rfl)]; rfl
theorem kr_2 : playM [tkS [97], tkT [49], tkS [97], tkT [50]] = mS a4 := by
  unfold playM; simp only [List.foldl_cons, List.foldl_nil]
  rw [ka1, ka2, ka3, ka4]
theorem kr_3 : playM [tkE [112]] = mS { r1 with op := [oHt] } := by
  unfold playM; simp only [List.foldl_cons, List.foldl_nil]
  have e : stepM mm0 (tkE [112]) = mS (pW (insertM wm0 0 [112] [])) := by kernel_rfl
  have e2 : insertM wm0 0 [112] [] = r1 := by
    rw [insertM_C 3 (ns := r1.ns) (by decide +kernel) (by kernel_rfl)]; rfl
  have e3 : pW r1 = { r1 with op := [oHt] } := by kernel_rfl
  rw [e, e2, e3]
theorem kr_w1 : wholeL 4 r7.ns 0 = [.mk 1 0 [112] [] [] [.mk 2 0 [] [] [49] [], .mk 1 0 [98] [] [] [.mk 2 0 [] [] [50] []]], .mk 1 0 [112] [] [] [.mk 1 0 [98] [] [] [.mk 2 0 [] [] [51] []]]] := rfl
theorem kr_w2 : wholeL 4 a4.ns 0 = [.mk 1 0 [97] [] [] [.mk 2 0 [] [] [49] []], .mk 1 0 [97] [] [] [.mk 2 0 [] [] [50] []]] := rfl
end Go.Proofs
namespace Go.Proofs
open Go Go.Sh
set_option linter.unusedVariables false
set_option maxRecDepth 100000
section
variable {Z : Nat -> Prop} {h h' : H} {K : Value -> H -> Prop} {col col' : Col} {w a x6 x7 x10 : Addr} {m : WM} {f id : Int} {bl y : OpenP} {u v x j b q : Nat}
structure LocM (h : H) (col : Col) (a : Addr) (y : MarkP) (b : Option Addr) (n c : Nat) : Prop where
  v : Var h a 79 [.int .i64 y.1, S y.2.1, .slice b n c]
  k : col a.block = some (5, 0)
  r : MarkR (Free col h) h y b n c
theorem markR_ext (E : ExtP Z h col h' col') {y : MarkP} {ab : Option Addr} {an ac : Nat} (hR : MarkR (Free col h) h y ab an ac) : MarkR (Free col' h') h' y ab an ac := by
  have hi := hR.inv
  exact Go.Proofs.markR (E.row hi.1) hi.2.1 hi.2.2.1 hi.2.2.2
theorem LocM.rs {y : MarkP} {b : Option Addr} {n c : Nat} (g : LocM h col a y b n c) (e : ExtP RS h col h' col') : LocM h' col' a y b n c :=
  ⟨g.v.keep e.sk.w ⟨g.v.lt, fun s p hs e2 => by rw [g.k] at e2; cases e2; exact (by unfold RS; omega : ¬ RS 5) hs⟩, by rw [e.cl _ g.v.lt]; exact g.k, markR_ext e g.r⟩
end
end Go.Proofs
namespace Go.Proofs
open Go Go.Sh
set_option linter.unusedVariables false
set_option maxRecDepth 100000
section
variable {Z : Nat -> Prop} {h h' : H} {K : Value -> H -> Prop} {col col' : Col} {w a x6 x7 x10 : Addr} {m : WM} {f id : Int} {bl y : OpenP} {u v x j b q : Nat}
end
end Go.Proofs
namespace Go.Proofs
open Go Go.Sh
set_option linter.unusedVariables false
set_option maxRecDepth 100000
section
variable {h h' : H} {K : Value -> H -> Prop} {col col' : Col} {w : Addr} {m : WM} {f : Int} {u v x j k n : Nat}
end
end Go.Proofs
namespace Go.Proofs
open Go Go.Sh
set_option linter.unusedVariables false
set_option maxRecDepth 100000
section
variable {h h' : H} {K : Value -> H -> Prop} {col col' : Col} {w : Addr} {m : WM} {nm : Bs} {f : Int} {u v x j k n : Nat}
end
end Go.Proofs
namespace Go.Proofs
open Go Go.Sh
set_option linter.unusedVariables false
set_option maxRecDepth 100000
section
variable {Z : Nat -> Prop} {h h' : H} {K : Value -> H -> Prop} {col col' : Col} {w : Addr} {m : WM}
end
end Go.Proofs
namespace Go.Proofs
open Go Go.Sh
set_option linter.unusedVariables false
set_option maxRecDepth 100000
section
variable {B : Nat -> Prop} {h : H} {K : Value -> H -> Prop} {col : Col} {a w : Addr} {mm : MM} {u v x : Nat} {t : TokP} {b : Option Addr} {n c : Nat} {ns : List Bs} {s : Bs}
end
end Go.Proofs
namespace Go.Proofs
open Go Go.Sh
set_option linter.unusedVariables false
set_option maxRecDepth 100000
section
variable {Bp : Nat -> Prop} {h : H} {K : Value -> H -> Prop} {col : Col} {a w : Addr} {mm : MM} {u v x : Nat} {t : TokP} {b : Option Addr} {n c : Nat} {ns : List Bs} {s : Bs}
end
end Go.Proofs
namespace Go.Proofs
open Go Go.Sh
set_option linter.unusedVariables false
set_option maxRecDepth 100000
section
variable {Bp : Nat -> Prop} {h : H} {K : Value -> H -> Prop} {col : Col} {a w : Addr} {mm : MM} {u v x : Nat} {t : TokP} {b : Option Addr} {n c : Nat} {ns : List Bs} {s : Bs}
end
end Go.Proofs
namespace Go.Proofs
open Go Go.Sh
set_option linter.unusedVariables false
set_option maxRecDepth 100000
section
variable {B : Nat -> Prop} {h : H} {K : Value -> H -> Prop} {col : Col} {a w : Addr} {mm : MM} {u v x : Nat} {t : TokP} {b : Option Addr} {n c : Nat} {ns : List Bs} {s : Bs} {l : List TokP}
end
end Go.Proofs
namespace Go.Proofs
open Go Go.Sh
set_option linter.unusedVariables false
set_option maxRecDepth 100000
def easyT (t : TokP) : Bool := decide (t.2.2.1 = []) && (decide (t.2.1.length <= 100) && (decide (t.2.2.2.2.length <= 100) && (decide (0 <= t.1) && decide (t.1 <= 9))))
theorem easyT_iff {t : TokP} (h : easyT t = true) : t.2.2.1 = [] /\ t.2.1.length <= 100 /\ t.2.2.2.2.length <= 100 /\ 0 <= t.1 /\ t.1 <= 9 := by
  unfold easyT at h
  simp only [Bool.and_eq_true, decide_eq_true_eq] at h
  exact h
abbrev easyC (l : List TokP) : List Value := l.flatMap fun t => tokCells t none 0 0
theorem easyEnc {A : Nat -> Prop} {h : H} : ∀ {l : List TokP}, l.all easyT = true -> Enc elTok A h l (easyC l)
  | [], _ => rfl
  | t :: l, he => by
    rw [List.all_cons, Bool.and_eq_true] at he
    obtain ⟨e1, e2, e3, e4, e5⟩ := easyT_iff he.1
    exact ⟨tokCells t none 0 0, easyC l, rfl, tokR (by rw [e1]; exact ⟨rfl, Nat.le_refl _, Nat.zero_le _, fun i x hx => by simp at hx⟩) (fun _ => rfl) ⟨by show (0 : Int) <= _; omega, by show _ <= (255 : Int); omega⟩ (by simp only [maxLen]; omega) (by simp only [maxLen]; omega), easyEnc he.2⟩
theorem easyS {l : List TokP} (he : l.all easyT = true) (hn : l.length <= 200) : ToksS l := ⟨hn, fun t ht => by
  obtain ⟨e1, e2, e3, e4, e5⟩ := easyT_iff (List.all_eq_true.1 he t ht)
  exact ⟨by omega, by rw [e1]; exact Nat.zero_le _, (fun a ha => by rw [e1] at ha; cases ha), by omega⟩⟩
section
variable {h : H} {K : Value -> H -> Prop}
theorem start_calls {s : Bs} (hk : ∀ h', KB h h' -> K (.agg ⟨tkC ⟨2, s, none, 0, 0, false, []⟩⟩) h') : HCalls Tryz.prog 30 ⟨[S s]⟩ h K := by
  refine Sx.l15_start.ok _ _ _ (newx_var fun a1 h1 v1 k1 e1 s1 => stL_var0 v1 (Nat.le_refl 5) fun h2 v2 k2 s2 => ?_)
  exact ⟨_, v2.cell 0 rfl, _, v2.cell 1 rfl, _, _, _, v2.cell 2 rfl, _, v2.cell 3 rfl, _, v2.cell 4 rfl, hk h2 (KB.step k1 k2 (by omega))⟩
theorem text15_calls {s : Bs} (hk : ∀ h', KB h h' -> K (.agg ⟨tkC ⟨1, [], none, 0, 0, false, s⟩⟩) h') : HCalls Tryz.prog 31 ⟨[S s]⟩ h K := by
  refine Sx.l15_text.ok _ _ _ (newx_var fun a1 h1 v1 k1 e1 s1 => stL_var0 v1 (Nat.le_refl 5) fun h2 v2 k2 s2 => ?_)
  exact ⟨_, v2.cell 0 rfl, _, v2.cell 1 rfl, _, _, _, v2.cell 2 rfl, _, v2.cell 3 rfl, _, v2.cell 4 rfl, hk h2 (KB.step k1 k2 (by omega))⟩
theorem lib00 (ml : ML h) : Lib0 h (fun _ => none) := ⟨ml, rfl⟩
theorem freshN (h : H) : Fresh h (fun _ => none) := fun _ _ => rfl
theorem _root_.Go.Sh.Row.freeN {α : Type} {E : El α} {A : Nat -> Prop} {b : Option Addr} {n c : Nat} {l : List α} (R : Row E A h b n c l) : Row E (Free (fun _ => none) h) h b n c l :=
  R.bel.keep (Keep.refl (fun _ => True) _ |>.less fun _ _ => trivial) fun k hk _ => ⟨rfl, hk⟩
theorem playEx {l : List TokP} {n : Nat} (hn : l.length = n) (h6 : n <= 200) (he : l.all easyT = true) {w : WM} (hp : playM l = mS w) (hd : deepB 4 w.ns 0 = true) (ml : ML h) {Q : Option Addr -> Nat -> Nat -> H -> Prop}
    (hk : ∀ h' b n' c A, KB h h' -> Row (elNode 4) A h' b n' c (wholeL 4 w.ns 0) -> Q b n' c h') :
    newx h ⟨easyC l⟩ 45 fun a30 h31 => HCalls Tryz.prog 8 ⟨[.slice (some a30) n n]⟩ h31 fun v32 h33 => vSlice v32 fun sb sn sc => Q sb sn sc h33 := by
  subst hn
  refine newx_var fun a h1 v1 k1 e1 s1 => ?_
  have R : Row elTok (fun _ => True) h1 (some a) l.length l.length l := Row.of (easyEnc he) (fun j x hx => ⟨a, rfl, v1.cell j hx⟩) rfl (Nat.le_refl _) (by simp only [maxLen]; omega) fun _ _ => trivial
  have e : (playM l).w = w := by rw [hp]
  refine pmPlay (lib00 (ml.kb k1)) (freshN h1) R.freeN (easyS he h6) 4 (by rw [e]; exact deepB_ok hd) fun h' base b n c hb k o => vSliceMk ?_
  rw [e] at o
  exact hk h' b n c _ (k1.trans k) o.row
theorem dT_mk {t : Tk} {Q : Tk -> Prop} (h : Q t) : dT (.agg ⟨tkC t⟩) Q := h
theorem known15_calls (ml : ML h) (hk : ∀ h', KB h h' -> K (.bool true) h') : HCalls Tryz.prog 11 ⟨[]⟩ h K := by
  refine Sx.l15_known.ok _ _ (start_calls fun h1 k1 => dT_mk (text15_calls fun h2 k2 => dT_mk (start_calls fun h3 k3 => dT_mk (text15_calls fun h4 k4 => dT_mk (start_calls fun h5 k5 => dT_mk (text15_calls fun h6 k6 => dT_mk ?_))))))
  have kA := ((((k1.trans k2).trans k3).trans k4).trans k5).trans k6
  refine playEx (l := [tkS [112], tkT [49], tkS [98], tkT [50], tkS [112], tkT [51]]) rfl (by decide) (by decide +kernel) kr_1 (by decide +kernel) (ml.kb kA) fun hA bA nA cA _ kA2 RA => ?_
  rw [kr_w1] at RA
  refine start_calls fun h1 k1 => dT_mk (text15_calls fun h2 k2 => dT_mk (start_calls fun h3 k3 => dT_mk (text15_calls fun h4 k4 => dT_mk ?_)))
  have kB := (((k1.trans k2).trans k3).trans k4)
  refine playEx (l := [tkS [97], tkT [49], tkS [97], tkT [50]]) rfl (by decide) (by decide +kernel) kr_2 (by decide +kernel) (ml.kb ((kA.trans kA2).trans kB)) fun hB bB nB cB _ kB2 RB => ?_
  rw [kr_w2] at RB
  have kAB := (kA.trans kA2).trans (kB.trans kB2)
  have RA := RA.kb (kB.trans kB2)
  have lA : 2 = nA := RA.len
  have lB : 2 = nB := RB.len
  refine splT (by omega) (RA.idxN (i := 0) (by decide) rfl fun q1 A1 => ?_)
  obtain ⟨kb1, kn1, kc1, _, s1, rk1⟩ := nodeParts A1
  have lk1 : 2 = kn1 := rk1.len
  refine ⟨_, _, _, s1, splT (by omega) (RA.idxN (i := 1) (by decide) rfl fun q2 A2 => ?_)⟩
  obtain ⟨kb2, kn2, kc2, _, s2, rk2⟩ := nodeParts A2
  have lk2 : 1 = kn2 := rk2.len
  refine ⟨_, _, _, s2, splT (by omega) (RA.idxN (i := 1) (by decide) rfl fun q3 A3 => ?_)⟩
  obtain ⟨kb3, kn3, kc3, _, s3, rk3⟩ := nodeParts A3
  refine ⟨_, _, _, s3, rk3.idxN (i := 0) (by decide) rfl fun q4 A4 => ?_⟩
  obtain ⟨kb4, kn4, kc4, t4, _, _⟩ := nodeParts A4
  refine ⟨_, t4, splT rfl ?_⟩
  refine playEx (l := [tkE [112]]) rfl (by decide) (by decide +kernel) kr_3 (by decide +kernel) (ml.kb kAB) fun hC bC nC cC _ kC RC => condT ?_
  have RC : Row (elNode 4) _ hC bC nC cC [.mk 1 0 [112] [] [] []] := RC
  have lC : 1 = nC := RC.len
  refine splT (by omega) ((RB.kb kC).idxN (i := 1) (by decide) rfl fun q5 A5 => ?_)
  obtain ⟨kb5, kn5, kc5, t5, _, _⟩ := nodeParts A5
  refine ⟨_, t5, splT rfl (splT (by omega) (RC.idxN (i := 0) (by decide) rfl fun q6 A6 => ?_))⟩
  obtain ⟨kb6, kn6, kc6, t6, _, _⟩ := nodeParts A6
  exact ⟨_, t6, splT rfl (hk hC (kAB.trans kC))⟩
theorem Soft.row {α : Type} {E : El α} {h h' : H} {b : Option Addr} {n c : Nat} {l : List α} {B : Nat -> Prop} {A : Nat -> Prop} (f : Soft A h h') (R : Row E B h b n c l) (hd : ∀ k, B k -> ¬ A k) : Row E B h' b n c l :=
  R.keep (SK.w (f.sk.less fun k hk => hd k hk.1)) fun k hk _ => hk
end
end Go.Proofs
namespace Go.Sh
open Go Go.ChangeShapes Go.WideShapes Go.Deep
set_option linter.unusedVariables false
variable {P : Program} {α β : Type}
def Reads (P : Program) (E : El α) (S : α -> Prop) (t : TypeId) : Prop :=
  ∀ {H : Type} {enc : TypeId × Value -> H} {w : World} {base fuel : Nat} {spare : Nat -> Bool} {held : Bool} {cs : List Value} {x : DataW H × List MemPlace},
    DataW.trod enc P w base spare held fuel t cs = some x -> (∀ n ∈ x.1.weights P t, n <= reachBytes) -> ∃ a, E.R (Bel w.heap.size) w.heap a cs /\ S a
def TrodL {H : Type} (enc : TypeId × Value -> H) (P : Program) (w : World) (base : Nat) (spare : Nat -> Bool) (held : Bool) : List TypeId -> List Value -> List (DataW H × List MemPlace) -> Prop
  | [], cs, ys => cs = [] /\ ys = []
  | t :: ts, cs, ys => ∃ c1 c2 y ys', cs = c1 ++ c2 /\ ys = y :: ys' /\ (∃ fuel, DataW.trod enc P w base spare held fuel t c1 = some y) /\ TrodL enc P w base spare held ts c2 ys'
def ReadsF (P : Program) (E : El α) (S : α -> Prop) (ts : List TypeId) : Prop :=
  ∀ {H : Type} {enc : TypeId × Value -> H} {w : World} {base : Nat} {spare : Nat -> Bool} {held : Bool} {vs : List Value} {ys : List (DataW H × List MemPlace)},
    TrodL enc P w base spare held ts vs ys -> (∀ n ∈ DataW.weightsEach P ts (ys.map (·.1)), n <= reachBytes) -> ∃ a, E.R (Bel w.heap.size) w.heap a vs /\ S a
theorem readsInt {k : IntKind} {t : TypeId} (ht : P.underlying t = some (.int k)) : Reads P (elInt k) (fun _ => True) t := by
  intro H enc w base fuel spare held cs x h _
  obtain ⟨n, e, _, hw⟩ := DataW.trod_int ht h
  cases e
  refine ⟨n, ⟨rfl, ?_⟩, trivial⟩
  simp [Lit.wf] at hw
  exact hw
theorem readsBool {t : TypeId} (ht : P.underlying t = some .bool) : Reads P elBool (fun _ => True) t := by
  intro H enc w base fuel spare held cs x h _
  obtain ⟨n, e, _⟩ := DataW.trod_bool ht h
  cases e
  exact ⟨n, rfl, trivial⟩
theorem readsStr {t : TypeId} (ht : P.underlying t = some .string) : Reads P elStr (fun s => s.length <= reachBytes) t := by
  intro H enc w base fuel spare held cs x h hz
  obtain ⟨s, e, hx, hw⟩ := DataW.trod_string ht h
  cases e
  subst hx
  exact ⟨s.data.toList, ⟨rfl, by simpa using hw⟩, hz _ (by simp [DataW.weights])⟩
theorem readsF_one {E : El α} {S : α -> Prop} {t : TypeId} (h : Reads P E S t) : ReadsF P E S [t] := by
  intro H enc w base spare held vs ys ht hw
  obtain ⟨c1, c2, y, ys', rfl, rfl, ⟨fuel, hf⟩, rfl, rfl⟩ := ht
  rw [List.append_nil]
  exact h hf fun n hn => hw n (by simp [DataW.weightsEach, hn])
theorem readsF_cons {E : El α} {F : El β} {S : α -> Prop} {T : β -> Prop} {t : TypeId} {ts : List TypeId} (h : Reads P E S t) (k : ReadsF P F T ts) : ReadsF P (elPair E F) (fun x => S x.1 /\ T x.2) (t :: ts) := by
  intro H enc w base spare held vs ys ht hw
  obtain ⟨c1, c2, y, ys', rfl, rfl, ⟨fuel, hf⟩, hr⟩ := ht
  obtain ⟨a, h1, h2⟩ := h hf fun n hn => hw n (by simp [DataW.weightsEach, hn])
  obtain ⟨b, h3, h4⟩ := k hr fun n hn => hw n (by simp only [List.map_cons, DataW.weightsEach, List.mem_append]; exact .inr hn)
  exact ⟨(a, b), ⟨c1, c2, rfl, h1, h3⟩, h2, h4⟩
def offsB (P : Program) : List Field -> Nat -> Bool
  | [], _ => true
  | f :: fs, i => Nat.beq f.offset i && offsB P fs (i + P.cellsOf f.type)
def structB (P : Program) (t n : Nat) (ts : List TypeId) : Bool :=
  match P.underlying t with
  | some (.struct fs) => offsB P fs.toList 0 && decide (fs.toList.map (·.type) = ts) && Nat.beq (P.cellsOf t) n && Nat.beq ((ts.map P.cellsOf).foldr (· + ·) 0) n
  | _ => false
theorem trodL_of {H : Type} {enc : TypeId × Value -> H} {w : World} {base : Nat} {spare : Nat -> Bool} {held : Bool} {n : Nat} : ∀ {fl : List Field} {i : Nat} {cs : List Value} {ys : List (DataW H × List MemPlace)},
    offsB P fl i = true -> cs.length = ((fl.map (·.type)).map P.cellsOf).foldr (· + ·) 0 -> ys.length = fl.length ->
    (∀ (j : Nat) (f : Field), fl[j]? = some f -> DataW.trod enc P w base spare held n f.type ((cs.drop (f.offset - i)).take (P.cellsOf f.type)) = ys[j]?) -> TrodL enc P w base spare held (fl.map (·.type)) cs ys
  | [], i, cs, ys, _, hc, hy, _ => ⟨List.eq_nil_of_length_eq_zero (by simpa using hc), List.eq_nil_of_length_eq_zero (by simpa using hy)⟩
  | f :: fl, i, cs, ys, ho, hc, hy, hall => by
    simp only [offsB, Bool.and_eq_true] at ho
    have e0 := Nat.eq_of_beq_eq_true ho.1
    cases ys with
    | nil => simp at hy
    | cons y ys =>
      have h0 := hall 0 f rfl
      rw [e0, Nat.sub_self, List.drop_zero] at h0
      refine ⟨cs.take (P.cellsOf f.type), cs.drop (P.cellsOf f.type), y, ys, (List.take_append_drop _ _).symm, rfl, ⟨n, h0⟩, trodL_of (i := i + P.cellsOf f.type) (n := n) ho.2 (by simp only [List.length_drop, hc, List.map_cons, List.foldr_cons]; omega) (by simpa using hy) fun j g hg => ?_⟩
      have := hall (j + 1) g (by simpa using hg)
      rw [List.drop_drop]
      have hoff : ∀ {l : List Field} {i j : Nat} {g : Field}, offsB P l i = true -> l[j]? = some g -> i <= g.offset := by
        intro l
        induction l with
        | nil => intro i j g _ hg; simp at hg
        | cons f l ih =>
          intro i j g ho hg
          simp only [offsB, Bool.and_eq_true] at ho
          cases j with
          | zero => simp at hg; subst hg; exact Nat.le_of_eq (Nat.eq_of_beq_eq_true ho.1).symm
          | succ j => have := ih ho.2 (by simpa using hg); omega
      have hge := hoff ho.2 hg
      rw [show P.cellsOf f.type + (g.offset - (i + P.cellsOf f.type)) = g.offset - i by omega]
      simpa using this
theorem readsStruct {E : El α} {S : α -> Prop} {t : TypeId} {ts : List TypeId} (hb : structB P t E.sz ts = true) (hr : ReadsF P E S ts) : Reads P E S t := by
  intro H enc w base fuel spare held cs x h hw
  unfold structB at hb
  split at hb
  · rename_i fs hs
    simp only [Bool.and_eq_true, decide_eq_true_eq] at hb
    obtain ⟨⟨⟨h1, h2⟩, h3⟩, h4⟩ := hb
    obtain ⟨ys, n, _, rfl, hlen, hyl, hf⟩ := DataW.trod_struct hs h
    refine hr (enc := enc) (base := base) (spare := spare) (held := held) (ys := ys) ?_ fun n hn => hw n ?_
    · rw [<- h2]
      exact trodL_of (i := 0) (n := n) h1 (by rw [h2, hlen, Nat.eq_of_beq_eq_true h3, Nat.eq_of_beq_eq_true h4]) (by simpa using hyl) fun j f hj => by
        rw [Nat.sub_zero]; exact hf j f (by simpa using hj)
    · simp only [DataW.weights, hs, h2]
      exact hn
  · cases hb
theorem weightsAll_mem {H : Type} {e : TypeId} {d : DataW H} : ∀ {l : List (DataW H)}, d ∈ l -> ∀ n ∈ d.weights P e, n ∈ DataW.weightsAll P e l
  | x :: l, hd, n, hn => by
    simp only [DataW.weightsAll, List.mem_append]
    rcases List.mem_cons.1 hd with rfl | h
    · exact .inl hn
    · exact .inr (weightsAll_mem h n hn)
def sliceB (P : Program) (t e n by' : Nat) : Bool :=
  match P.underlying t with
  | some (.slice e') => Nat.beq e' e && (Nat.beq (P.cellsOf e) n && Nat.beq (P.bytesOf e) by')
  | _ => false
theorem readsSl {E : El α} {S : α -> Prop} {t e : TypeId} {by' : Nat} (hb : sliceB P t e E.sz by' = true) (hr : Reads P E S e) :
    Reads P (elSl E) (fun l => l.length * by' <= reachBytes /\ ∀ x ∈ l, S x) t := by
  intro H enc w base fuel spare held cs x h hw
  unfold sliceB at hb
  split at hb
  · rename_i e' ht
    simp only [Bool.and_eq_true] at hb
    obtain ⟨h1, h2, h3⟩ := hb
    have h1 := Nat.eq_of_beq_eq_true h1
    have hC := Nat.eq_of_beq_eq_true h2
    have hby := Nat.eq_of_beq_eq_true h3
    subst h1
    rcases open_slice ht h with ⟨rfl, rfl⟩ | ⟨a, len, cap, m, n, D, Pl, rfl, hb, hl, hm, hmm, rfl, hi⟩
    · exact ⟨[], ⟨none, 0, 0, rfl, Row.nil _ _, fun _ => rfl⟩, by simp, fun x hx => by cases hx⟩
    · have hlm : len <= m := by rw [hmm]; split <;> omega
      simp only [DataW.weights, ht, List.mem_cons, List.mem_append] at hw
      have hlen : len * by' <= reachBytes := by
        have := hw _ (.inl rfl)
        simp only [List.length_map, List.length_range, hby] at this
        have h2 : len * by' <= (len + (m - len)) * by' := Nat.mul_le_mul_right _ (by omega)
        omega
      have each : ∀ i, i < len -> ∃ x : α, S x /\ ∃ vs, E.R (Bel w.heap.size) w.heap x vs /\ ∀ (j : Nat) u, vs[j]? = some u -> cell w.heap (a.add (i * E.sz + j)) = some u := by
        intro i hil
        obtain ⟨cs', hc, ht'⟩ := hi i (by omega)
        rw [hC] at hc
        obtain ⟨_, hcl, hat⟩ := World.cells?_some hc
        have hmem : D i ∈ (List.range len).map D := List.mem_map.2 ⟨i, List.mem_range.2 hil, rfl⟩
        obtain ⟨x, hx, hs⟩ := hr ht' fun n hn => hw n (.inr (.inl (weightsAll_mem hmem n hn)))
        refine ⟨x, hs, cs', hx, fun j u hu => ?_⟩
        have hj : j < cs'.length := (List.getElem?_eq_some_iff.1 hu).1
        have := hat j (by omega)
        rw [cell_eq, hu, Go.Sh.add_add] at this
        exact this
      have list : ∀ k, k <= len -> ∃ l : List α, l.length = k /\ (∀ x ∈ l, S x) /\ ∀ i x, l[i]? = some x -> ∃ vs, E.R (Bel w.heap.size) w.heap x vs /\ ∀ (j : Nat) u, vs[j]? = some u -> cell w.heap (a.add (i * E.sz + j)) = some u := by
        intro k
        induction k with
        | zero => exact fun _ => ⟨[], rfl, fun x hx => by (cases hx), fun i x hx => by simp at hx⟩
        | succ k ih =>
          intro hk
          obtain ⟨l, h1, h2, h3⟩ := ih (by omega)
          obtain ⟨x, hs, hx⟩ := each k (by omega)
          refine ⟨l ++ [x], by simp [h1], fun y hy => ?_, fun i y hy => ?_⟩
          · rcases List.mem_append.1 hy with hy | hy
            · exact h2 y hy
            · rw [List.mem_singleton] at hy; subst hy; exact hs
          · by_cases hi : i < l.length
            · rw [List.getElem?_append_left hi] at hy; exact h3 i y hy
            · rw [List.getElem?_append_right (by omega)] at hy
              cases hd : i - l.length with
              | zero =>
                rw [hd] at hy; simp at hy; subst hy
                have : i = k := by omega
                subst this; exact hx
              | succ d => rw [hd] at hy; simp at hy
      obtain ⟨l, h1, h2, h3⟩ := list len (Nat.le_refl _)
      refine ⟨l, ⟨some a, len, cap, rfl, ⟨h1, hl, hm, fun i x hx => ?_⟩, fun e => by cases e⟩, by rw [h1]; exact hlen, h2⟩
      obtain ⟨vs, h4, h5⟩ := h3 i x hx
      have hp := E.pos
      have hvl := E.len _ _ _ _ h4
      refine ⟨a, rfl, ?_, vs, h4, fun j u hu => by rw [Go.Sh.add_add]; exact h5 j u hu⟩
      have := cell_lt (h5 0 _ (List.getElem?_eq_getElem (by omega)))
      rw [add_block] at this ⊢
      exact this
  · cases hb
section
variable {H : Type} {enc : TypeId × Value -> H} {w : World} {base b0 : Nat} {spare : Nat -> Bool} {held : Bool} {r : Reach} {t : TypeId} {v : Value} {d : DataW H} {p : List MemPlace}
theorem argInt {k : IntKind} (ht : P.underlying t = some (.int k)) (hv : Value.okWide P w r b0 t v) (h : DataW.Trod enc P w base spare held t v d p) (hw : ∀ n ∈ d.weights P t, n <= reachBytes) : ∃ n : Int, v = .int k n /\ Rng k n := by
  obtain ⟨n, rfl⟩ := okWide_int ht hv
  obtain ⟨fuel, hf⟩ := h
  obtain ⟨a, ⟨e, hr⟩, _⟩ := readsInt ht hf hw
  simp [Value.cells] at e
  subst e
  exact ⟨_, rfl, hr⟩
theorem argSl {E : El α} {S : List α -> Prop} {e : TypeId} (ht : P.underlying t = some (.slice e)) (hr : Reads P (elSl E) S t) (hv : Value.okWide P w r b0 t v) (h : DataW.Trod enc P w base spare held t v d p) (hw : ∀ n ∈ d.weights P t, n <= reachBytes) :
    ∃ (l : List α) (b : Option Addr) (n c : Nat), v = .slice b n c /\ Row E (Bel w.heap.size) w.heap b n c l /\ (b = none -> c = 0) /\ S l := by
  obtain ⟨b, n, c, rfl⟩ := okWide_slice ht hv
  obtain ⟨fuel, hf⟩ := h
  obtain ⟨l, ⟨b', n', c', e, hR, hz⟩, hs⟩ := hr hf hw
  simp [Value.cells] at e
  obtain ⟨rfl, rfl, rfl⟩ := e
  exact ⟨l, b, n, c, rfl, hR, hz, hs⟩
theorem Outer.below {W W' : World} (o : Outer W W') (k : KB W.heap W'.heap) : RowKit.Below W.heap.size W W' := ⟨o.os, o.tape, o.output, k.1, fun b hb => k.2 b hb⟩
def readB (P : Program) (ts : List TypeId) : Bool := ts.all fun t => P.readableRec t && decide (t < P.types.size)
theorem trodAll_below (hl : laidOutB P = true) {W W' : World} (hb : RowKit.Below W.heap.size W W') : ∀ {ts : List TypeId} {vs : List Value} {ds : List (DataW H)} {p : List MemPlace}, readB P ts = true ->
    DataW.TrodAll enc P W 0 (fun _ => true) true ts vs ds p -> (∀ x ∈ p, x.block < W.heap.size) -> DataW.TrodAll enc P W' 0 (fun b => decide (b < W.heap.size)) true ts vs ds p
  | [], [], [], _, _, h, _ => h
  | [], _ :: _, _, _, _, h, _ => h.elim
  | [], [], _ :: _, _, _, h, _ => h.elim
  | _ :: _, [], _, _, _, h, _ => h.elim
  | _ :: _, _ :: _, [], _, _, h, _ => h.elim
  | t :: ts, v :: vs, d :: ds, _, hr, ⟨p, q, h1, h2, rfl⟩, hlt => by
    simp only [readB, List.all_cons, Bool.and_eq_true, decide_eq_true_eq] at hr
    exact ⟨p, q, Go.RowKit.Below.trod hl hr.1.1 hr.1.2 h1 hb fun x hx => hlt x (List.mem_append_left _ hx), trodAll_below hl hb (by simpa [readB] using hr.2) h2 fun x hx => hlt x (List.mem_append_right _ hx), rfl⟩
end
end Go.Sh
namespace Go.Proofs
open Go Go.Sh
set_option linter.unusedVariables false
set_option maxRecDepth 100000
theorem cellM {h h' : H} {a : Addr} {v : Value} (e : cell h a = some v) (k : KB h h') : cell h' a = some v := (KB.w k).cell (cell_lt e) e
theorem thawM {h h' : H} {g : Nat} (t : thawK h g) (k : KB h h') : thawK h' g := by
  obtain ⟨c, e, hg⟩ := t
  exact ⟨c, e, by rw [k.2 g (Array.getElem?_eq_some_iff.1 hg).1]; exact hg⟩
theorem shTok.kb {A : Nat -> Prop} {h h' : H} {q : Addr} (k : KB h h') : shTok A h q -> shTok A h' q
  | ⟨hA, ht, i, s, ab, an, ac, z, tx, c0, c1, c2, c3, c4, sa⟩ => ⟨hA, thawM ht k, i, s, ab, an, ac, z, tx, cellM c0 k, cellM c1 k, cellM c2 k, ⟨cellM c3.1 k, c3.2⟩, cellM c4 k, sa.1, fun i hi => by
    obtain ⟨a, e, hA, ht, ⟨s1, c1⟩, s2, c2⟩ := sa.2 i hi
    exact ⟨a, e, hA, thawM ht k, ⟨s1, cellM c1 k⟩, s2, cellM c2 k⟩⟩
theorem MQ.fold : ∀ {l : List TokP} {mm : MM} {u v x : Nat}, MQ mm u v x -> (∀ t ∈ l, TokS t) -> ∃ u v x, MQ (l.foldl stepM mm) u v x
  | [], mm, u, v, x, q, _ => ⟨u, v, x, q⟩
  | t :: l, mm, u, v, x, q, h => MQ.fold (l := l) (q.step (h t (List.mem_cons_self ..))) fun y hy => h y (List.mem_cons_of_mem _ hy)
theorem play_deep {l : List TokP} (hl : ToksS l) : ∃ D, Deep D (playM l).w.ns 0 := by
  obtain ⟨u, v, x, q⟩ := MQ.fold MQ.zero hl.2
  obtain ⟨D, hD⟩ := q.s.A.D.G.deep
  exact ⟨D, hD D (Nat.le_refl _) 0⟩
end Go.Proofs
namespace Go.Proofs
open Go Go.Sh
set_option linter.unusedVariables false
set_option maxRecDepth 100000
theorem sum_takeS {α : Type} (f : α -> Nat) (l : List α) {i : Nat} (hi : i < l.length) : ((l.take (i + 1)).map f).sum = ((l.take i).map f).sum + f l[i] := by
  rw [List.take_add_one, List.getElem?_eq_getElem hi, List.map_append, List.sum_append]
  show _ + (f l[i] + 0) = _
  omega
theorem sum_takeL {α : Type} (f : α -> Nat) (l : List α) (i : Nat) : ((l.take i).map f).sum <= (l.map f).sum := by
  have h : (l.map f).sum = ((l.take i).map f).sum + ((l.drop i).map f).sum := by rw [<- List.sum_append, <- List.map_append, List.take_append_drop]
  omega
theorem size_calls : ∀ (d : Nat) {A : Nat -> Prop} {h : H} {b : Option Addr} {n c : Nat} {K : Value -> H -> Prop} {l : List NodeV} (r : Row (elNode d) A h b n c l) (hb : szD d l <= 4611686018427387904)
    (hk : K (.int .i64 (szD d l)) h), HCalls Tryz.prog 27 ⟨[.slice b n c]⟩ h K := by
  intro d
  induction d with
  | zero =>
    intro A h b n c K l r hb hk
    have e1 := row_zero r
    have hl := r.len
    subst e1
    have hl : 0 = n := hl
    subst hl
    refine Sx.l15_size.ok _ _ _ _ _ ⟨1, ?_⟩
    exact splF (by omega) hk
  | succ d ihd =>
    intro A h b n c K l r hb hk
    have hl := r.len
    have hmx : n <= maxLen := Nat.le_trans r.cap r.max
    simp only [maxLen] at hmx
    have hs : szD (d + 1) l = (l.map fun y => szD d y.kids + wtV y).sum := rfl
    refine Sx.l15_size.ok _ _ _ _ _ ⟨n + 1, ?_⟩
    have key : ∀ N i (w : Int), i + N = n -> w = (((l.take i).map fun y => szD d y.kids + wtV y).sum : Nat) ->
        Sx.l15_size.n7_L (fun x3 h => Sx.l15_size.n4 x3 (fun y2 h => K (.int .i64 y2) h) (fun y2 h => K (.int .i64 y2) h) h) (fun x3 h => Sx.l15_size.n4 x3 (fun y2 h => K (.int .i64 y2) h) (fun y2 h => K (.int .i64 y2) h) h) (fun y2 h => K (.int .i64 y2) h) (N + 1) b n c w (i : Int) h := by
      intro N
      induction N with
      | zero =>
        intro i w hi hw
        unfold Sx.l15_size.n7_L LP Sx.l15_size.n7_B
        refine splF (by omega) ?_
        rw [List.take_of_length_le (by omega), <- hs] at hw
        subst hw
        exact hk
      | succ N ih =>
        intro i w hi hw
        unfold Sx.l15_size.n7_L LP Sx.l15_size.n7_B
        have hil : i < l.length := by omega
        have h1 := sum_takeS (fun y => szD d y.kids + wtV y) l hil
        have h2 := sum_takeL (fun y => szD d y.kids + wtV y) l (i + 1)
        have h3 : szD d l[i].kids + wtV l[i] <= szD (d + 1) l := by rw [hs]; omega
        refine splT (by omega) (r.idxN hil rfl fun a hA => ?_)
        obtain ⟨ab, an, ac, kb, kn, kc, hc, ra, rk, g3, g4⟩ := nodeF hA
        refine ⟨_, _, _, hc 5 _ rfl, ihd rk (by omega) (vIntMk ⟨rngI (by omega) (by omega), r.idxN hil rfl fun a2 hA2 => ?_⟩)⟩
        obtain ⟨ab, an, ac, kb, kn, kc, hc, ra, rk, g3, g4⟩ := nodeF hA2
        refine ⟨_, hc 0 _ rfl, spl (fun e => r.idxN hil rfl fun a3 hA3 => ?_) fun e => ?_⟩
        · obtain ⟨ab, an, ac, kb, kn, kc, hc, ra, rk, g3, g4⟩ := nodeF hA3
          have ew : wtV l[i] = l[i].text.length := by unfold wtV; rw [if_pos e]
          exact ⟨_, hc 4 _ rfl, rngI (by omega) (by omega), rngI (by omega) (by omega), ih (i + 1) _ (by omega) (by rw [h1, hw]; simp only [ew]; omega)⟩
        · have ew : wtV l[i] = 1 := by unfold wtV; rw [if_neg e]
          exact ⟨rngI (by omega) (by omega), rngI (by omega) (by omega), ih (i + 1) _ (by omega) (by rw [h1, hw]; simp only [ew]; omega)⟩
    exact key n 0 0 (by omega) rfl
theorem MQ.fold2 : ∀ {l : List TokP} {mm : MM} {i : Nat}, MQ mm (1 + i * 440) i (i * 4000) -> i + l.length <= 200 -> (∀ t ∈ l, TokS t) -> MQ (l.foldl stepM mm) (1 + (i + l.length) * 440) (i + l.length) ((i + l.length) * 4000)
  | [], mm, i, q, _, _ => q
  | t :: l, mm, i, q, hi, h => by
    rw [List.length_cons] at hi ⊢
    have := MQ.fold2 (l := l) (i := i + 1) ((q.step (h t (List.mem_cons_self ..))).mono (by omega) (by omega) (by omega)) (by omega) fun y hy => h y (List.mem_cons_of_mem _ hy)
    rw [show i + (l.length + 1) = i + 1 + l.length by omega]
    exact this
theorem play_max {l : List TokP} (hl : ToksS l) (d : Nat) : szD d (wholeL d (playM l).w.ns 0) <= 4611686018427387904 := by
  have q := MQ.fold2 (l := l) (i := 0) MQ.zero (by have := hl.1; omega) hl.2
  have h2 := hl.1
  have s : MS (playM l).w 100000 200 800000 := q.s.mono (by omega) (by omega) (by omega)
  exact Nat.le_trans (size_max s (by decide) d) (by decide)
theorem lawBegins_calls {A : Nat -> Prop} {h : H} {K : Value -> H -> Prop} {b : Option Addr} {n c : Nat} {l : List TokP} {upto : Int} (ml : ML h) (R : Row elTok A h b n c l) (hu : Rng .i64 upto) (hk : ∀ h', KB h h' -> K (.bool true) h') :
    HCalls Tryz.prog 5 ⟨[.slice b n c, .int .i64 upto]⟩ h K := by
  have kn : HCalls Tryz.prog 11 ⟨[]⟩ h fun v h17 => vBool v fun b18 => cond b18 (K (.bool true) h17) (K (.bool false) h17) := known15_calls ml fun h2 k2 => vBool_mk (condT (hk h2 k2))
  refine Sx.l15_ModesBegins.ok _ _ _ _ _ _ (heavy15_calls R fun v hv => vBool_mk (condB (fun _ => kn) fun ev => known15_calls ml fun h1 k1 => vBool_mk (condT ?_)))
  have hl := hv ev
  have hl2 := hl.1
  have hln := R.len
  have hcap := R.cap
  have go : ∀ x5 : Int, 0 <= x5 -> x5 <= (n : Int) -> Sx.l15_ModesBegins.n5 b n c x5 (fun y4 h => K (.bool y4) h) (fun y4 h => K (.bool y4) h) h1 := fun x5 h0 hx => by
    obtain ⟨k, rfl⟩ := Int.eq_ofNat_of_zero_le h0
    have hkn : k <= n := by omega
    have R0 := (R.kb k1).sub (lo := 0) (hi := k) (Nat.zero_le _) hkn (z := 5) rfl
    rw [List.drop_zero] at R0
    have hlt : ToksS (l.take k) := ⟨by rw [List.length_take]; omega, fun t ht => hl.2 t (List.mem_of_mem_take ht)⟩
    obtain ⟨D, hD⟩ := play_deep hlt
    obtain ⟨D2, hD2⟩ := play_deep hl
    refine ⟨⟨Int.le_refl 0, h0, by omega⟩, ?_⟩
    refine pmPlay (lib00 (ml.kb k1)) (freshN h1) R0.freeN hlt D hD fun h2 base b2 n2 c2 hb k2 o2 => vSliceMk (size_calls D o2.row (play_max hlt D) (vIntMk ?_))
    have k02 := k1.trans k2
    refine pmPlay (lib00 (ml.kb k02)) (freshN h2) (R.kb k02).freeN hl D2 hD2 fun h3 base3 b3 n3 c3 hb3 k3 o3 => vSliceMk (size_calls D2 o3.row (play_max hl D2) (vIntMk ?_))
    have g := play_up hl.2 k
    obtain ⟨u, v, x, q⟩ := MQ.fold MQ.zero hlt.2
    have hle := MG.size (d := D) g q.s.A.D.G hD2
    exact splT (by omega) (hk h3 (k02.trans k3))
  refine spl (fun hp => ?_) fun hp => go 0 (Int.le_refl 0) (by omega)
  have hn : (n : Int) <= 200 := by omega
  refine ⟨rngI (by omega) (by omega), by omega, ?_⟩
  refine go _ (Int.tmod_nonneg _ (by split <;> omega)) ?_
  have := Int.tmod_lt_of_pos (if (0 : Int) > upto then (0 : Int) else upto) (show (0 : Int) < (n : Int) + 1 by omega)
  omega
end Go.Proofs
