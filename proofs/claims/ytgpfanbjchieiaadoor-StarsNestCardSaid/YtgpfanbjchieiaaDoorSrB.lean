/- stars: the program's chain. No condition. -/
import Derived.Test.YtgpfanbjchieiaaDoorSrA
import Derived.Test.YtgpfanbjchieiaaDoorHmH
import Derived.Test.YtgpfanbjchieiaaDoorTxB
namespace Go.Proofs
open Go Go.Sh
set_option linter.unusedVariables false
set_option maxRecDepth 100000
/-! ### the kinds of elements -/
def elRun : El RunP := elPair (elInt .u8) (elPair (elInt .i64) (elPair (elInt .i64) (elPair elBool elBool)))
def elPr : El PairP := elPair (elInt .i64) (elPair (elInt .i64) (elInt .i64))
theorem flatI (k : IntKind) : Flat (elInt k) := fun _ _ _ _ _ _ h => h
theorem flatBo : Flat elBool := fun _ _ _ _ _ _ h => h
theorem flatPair {α β : Type} {E : El α} {F : El β} (h1 : Flat E) (h2 : Flat F) : Flat (elPair E F) := fun A A' h h' x cs ⟨c1, c2, e, r1, r2⟩ => ⟨c1, c2, e, h1 _ _ _ _ _ _ r1, h2 _ _ _ _ _ _ r2⟩
theorem flatRun : Flat elRun := flatPair (flatI _) (flatPair (flatI _) (flatPair (flatI _) (flatPair flatBo flatBo)))
theorem flatPr : Flat elPr := flatPair (flatI _) (flatPair (flatI _) (flatI _))
def runCells (r : RunP) : List Value := [.int .u8 r.ch, .int .i64 r.pl, .int .i64 r.mn, .bool r.op, .bool r.cl]
structure RunR (r : RunP) : Prop where
  ch : Rng .u8 r.ch
  pl : Rng .i64 r.pl
  mn : Rng .i64 r.mn
theorem runR {A : Nat → Prop} {h : H} {r : RunP} (hr : RunR r) : elRun.R A h r (runCells r) :=
  ⟨[_], _, rfl, ⟨rfl, hr.ch⟩, [_], _, rfl, ⟨rfl, hr.pl⟩, [_], _, rfl, ⟨rfl, hr.mn⟩, [_], [_], rfl, rfl, rfl⟩
theorem prR {A : Nat → Prop} {h : H} {p : PairP} (h1 : Rng .i64 p.1) (h2 : Rng .i64 p.2.1) (h3 : Rng .i64 p.2.2) : elPr.R A h p [.int .i64 p.1, .int .i64 p.2.1, .int .i64 p.2.2] :=
  ⟨[_], _, rfl, ⟨rfl, h1⟩, [_], [_], rfl, ⟨rfl, h2⟩, ⟨rfl, h3⟩⟩
theorem apdPr : Apd Tryd.prog elPr 32 35 24 := apd_of (sz := 3) (by kernel_rfl) rfl
theorem rngW {x : Int} : Rng .i64 (W64 x) := by
  unfold W64 Rng
  simp [IntKind.wrap, IntKind.bits, IntKind.signed, IntKind.min, IntKind.max]
  omega
theorem W_add (a b : Int) : W64 (W64 a + b) = W64 (a + b) := by
  unfold W64
  simp [IntKind.wrap, IntKind.bits, IntKind.signed]
  omega
theorem W_sub (a b : Int) : W64 (W64 a - b) = W64 (a - b) := by
  unfold W64
  simp [IntKind.wrap, IntKind.bits, IntKind.signed]
  omega
/-! ### nodes of the chain -/
def ndCells (x : Nd) (ah af : Option Addr) : List Value := [.int .u8 x.r.ch, .int .i64 x.r.pl, .int .i64 x.r.mn, .bool x.r.op, .bool x.r.cl, .int .i64 x.fr, .int .i64 x.ov, .pointer ah, .pointer af]
abbrev NodeAt (h : H) (a : Addr) (x : Nd) (ah af : Option Addr) : Prop := Var h a 44 (ndCells x ah af)
section
variable {h : H} {a : Addr} {x : Nd} {ah af : Option Addr} {K : H → Prop}
theorem nd_st (v : NodeAt h a x ah af) {m : Nat} {u : Value} {x' : Nd} {ah' af' : Option Addr} (hm : m < 9) (he : (ndCells x ah af).set m u = ndCells x' ah' af') (hk : ∀ h', NodeAt h' a x' ah' af' → KX a.block h h' → h'.size = h.size → K h') : stL (a.add m) [u] 0 h K :=
  stL_var v (show m + 0 + 1 ≤ 9 by omega) fun h' v' k' z' => hk h' (by rw [show setAll (ndCells x ah af) (m + 0) [u] = ndCells x' ah' af' from he] at v'; exact v') k' z'
theorem nd_fr (v : NodeAt h a x ah af) {n : Int} (hk : ∀ h', NodeAt h' a ⟨x.r, n, x.ov⟩ ah af → KX a.block h h' → h'.size = h.size → K h') : stL (a.add 5) [.int .i64 n] 0 h K := nd_st v (by decide) rfl hk
theorem nd_ov (v : NodeAt h a x ah af) {n : Int} (hk : ∀ h', NodeAt h' a ⟨x.r, x.fr, n⟩ ah af → KX a.block h h' → h'.size = h.size → K h') : stL (a.add 6) [.int .i64 n] 0 h K := nd_st v (by decide) rfl hk
theorem nd_ah (v : NodeAt h a x ah af) {p : Option Addr} (hk : ∀ h', NodeAt h' a x p af → KX a.block h h' → h'.size = h.size → K h') : stL (a.add 7) [.pointer p] 0 h K := nd_st v (by decide) rfl hk
theorem nd_af (v : NodeAt h a x ah af) {p : Option Addr} (hk : ∀ h', NodeAt h' a x ah p → KX a.block h h' → h'.size = h.size → K h') : stL (a.add 8) [.pointer p] 0 h K := nd_st v (by decide) rfl hk
theorem add00 (a : Addr) (m : Nat) : (a.add 0).add m = a.add m := by rw [add_add, Nat.zero_add]
theorem nd_ch (v : NodeAt h a x ah af) {k : Int → Prop} (hk : k x.r.ch) : ∃ i, cell h ((a.add 0).add 0) = some (.int .u8 i) ∧ k i := ⟨_, by rw [add00]; exact v.cell 0 rfl, hk⟩
theorem nd_pl (v : NodeAt h a x ah af) {k : Int → Prop} (hk : k x.r.pl) : ∃ i, cell h ((a.add 0).add 1) = some (.int .i64 i) ∧ k i := ⟨_, by rw [add00]; exact v.cell 1 rfl, hk⟩
theorem nd_mn (v : NodeAt h a x ah af) {k : Int → Prop} (hk : k x.r.mn) : ∃ i, cell h ((a.add 0).add 2) = some (.int .i64 i) ∧ k i := ⟨_, by rw [add00]; exact v.cell 2 rfl, hk⟩
theorem nd_op (v : NodeAt h a x ah af) {k : Bool → Prop} (hk : k x.r.op) : ∃ i, cell h ((a.add 0).add 3) = some (.bool i) ∧ k i := ⟨_, by rw [add00]; exact v.cell 3 rfl, hk⟩
theorem nd_cl (v : NodeAt h a x ah af) {k : Bool → Prop} (hk : k x.r.cl) : ∃ i, cell h ((a.add 0).add 4) = some (.bool i) ∧ k i := ⟨_, by rw [add00]; exact v.cell 4 rfl, hk⟩
theorem nd_lfr (v : NodeAt h a x ah af) {k : Int → Prop} (hk : k x.fr) : ∃ i, cell h (a.add 5) = some (.int .i64 i) ∧ k i := ⟨_, v.cell 5 rfl, hk⟩
theorem nd_lov (v : NodeAt h a x ah af) {k : Int → Prop} (hk : k x.ov) : ∃ i, cell h (a.add 6) = some (.int .i64 i) ∧ k i := ⟨_, v.cell 6 rfl, hk⟩
theorem nd_lah (v : NodeAt h a x ah af) {k : Option Addr → Prop} (hk : k ah) : ∃ i, cell h (a.add 7) = some (.pointer i) ∧ k i := ⟨_, v.cell 7 rfl, hk⟩
theorem nd_laf (v : NodeAt h a x ah af) {k : Option Addr → Prop} (hk : k af) : ∃ i, cell h (a.add 8) = some (.pointer i) ∧ k i := ⟨_, v.cell 8 rfl, hk⟩
end
theorem undP : Tryd.prog.underlying 41 = some (.pointer (Tryd.prog.pointee 41)) := by kernel_rfl
/-- a run's number of signs, as far as it is looked at -/
def Few (r : RunP) : Prop := RunR r ∧ 1 ≤ r.mn ∧ r.mn ≤ 100000
section
variable {h : H} {K : Value → H → Prop}
theorem suits_calls {a b : Addr} {x y : Nd} {ah af bh bf : Option Addr} (va : NodeAt h a x ah af) (vb : NodeAt h b y bh bf) (hx : Few x.r) (hy : Few y.r) (hk : K (.bool (suitsP x.r y.r)) h) :
    HCalls Tryd.prog 25 ⟨[.pointer (some a), .pointer (some b)]⟩ h K := by
  obtain ⟨_, x1, x2⟩ := hx
  obtain ⟨_, y1, y2⟩ := hy
  have tail : ∀ f : Bool, f = (y.r.op || x.r.cl) → (x.r.ch = y.r.ch) → x.r.op = true → Sx.stars_run_suits.n4 (some a) (some b) f (fun y4 h => K (.bool y4) h) (fun y4 h => K (.bool y4) h) h := by
    intro f hf hc ho
    have e : suitsP x.r y.r = (!f || (decide (y.r.mn.tmod 3 = 0) || !decide ((x.r.mn + y.r.mn).tmod 3 = 0))) := by
      unfold suitsP
      rw [decide_eq_true hc, ho, hf]; rfl
    rw [e] at hk
    clear e
    subst hf
    refine condB (fun e => ?_) fun e => ?_
    · rw [e] at hk
      refine nd_mn vb ⟨by decide, spl (fun e1 => ?_) fun e1 => nd_mn va (nd_mn vb ⟨rng64 (by omega) (by omega), by decide, spl (fun e2 => ?_) fun e2 => ?_⟩)⟩
      · rw [decide_eq_true e1] at hk; exact hk
      · rw [decide_eq_false e1, decide_eq_true e2] at hk; exact hk
      · rw [decide_eq_false e1, decide_eq_false e2] at hk; exact hk
    · rw [e] at hk; exact hk
  have no : (x.r.ch = y.r.ch → x.r.op = false) → K (.bool false) h := fun hc => by
    have e : suitsP x.r y.r = false := by
      unfold suitsP
      by_cases h1 : x.r.ch = y.r.ch
      · rw [hc h1]; simp
      · rw [decide_eq_false h1]; rfl
    rwa [e] at hk
  refine Sx.stars_run_suits.ok _ _ _ _ (nd_ch va (nd_ch vb (spl (fun hc => nd_op va (condB (fun ho => nd_op vb (condB (fun e => ?_) fun e => nd_cl va (condB (fun e2 => ?_) fun e2 => ?_))) fun ho => no fun _ => ho)) fun hc => no fun e => absurd e hc)))
  · exact tail true (by rw [e]; rfl) hc ho
  · exact tail true (by rw [e2]; simp) hc ho
  · exact tail false (by rw [e, e2]; rfl) hc ho
/-- a node that may be none -/
def OptAt (h : H) (p : Option Addr) (x : Nd) (ah af : Option Addr) : Prop := ∀ a, p = some a → NodeAt h a x ah af
/-- cut: what stood around it holds one another -/
theorem cut_calls {a : Addr} {x : Nd} {ah af : Option Addr} {xp xn : Nd} {ph pf nh nf : Option Addr} (va : NodeAt h a x ah af) (vp : OptAt h ah xp ph pf) (vn : OptAt h af xn nh nf) (d1 : ∀ p n, ah = some p → af = some n → p.block ≠ n.block) (d2 : ∀ p, ah = some p → p.block ≠ a.block) (d3 : ∀ n, af = some n → n.block ≠ a.block)
    (hk : ∀ h', NodeAt h' a x ah af → OptAt h' ah xp ph af → OptAt h' af xn ah nf → SK (fun k => (∀ p, ah = some p → k ≠ p.block) ∧ (∀ n, af = some n → k ≠ n.block)) h h' → h'.size = h.size → K (.tuple ⟨[]⟩) h') :
    HCalls Tryd.prog 26 ⟨[.pointer (some a)]⟩ h K := by
  refine Sx.stars_run_cut.ok _ _ _ (nd_lah va (ptrNe_k undP (vBool_mk ?_)))
  have two : ∀ h1, NodeAt h1 a x ah af → OptAt h1 ah xp ph af → OptAt h1 af xn nh nf → SK (fun k => (∀ p, ah = some p → k ≠ p.block) ∧ (∀ n, af = some n → k ≠ n.block)) h h1 → h1.size = h.size → Sx.stars_run_cut.n2 (some a) (fun h => K (.tuple ⟨[]⟩) h) (fun h => K (.tuple ⟨[]⟩) h) h1 := by
    intro h1 va1 vp1 vn1 s1 z1
    refine nd_laf va1 (ptrNe_k undP (vBool_mk ?_))
    cases af with
    | none => exact hk h1 va1 vp1 (fun _ e => by cases e) s1 z1
    | some n =>
      refine nd_laf va1 (nd_lah va1 (nd_ah (vn1 n rfl) fun h2 vn2 k2 z2 => hk h2 (va1.keep k2.w (fun e => d3 n rfl e.symm)) (fun p e => (vp1 p e).keep k2.w (d1 p n e rfl)) (fun p e => by cases e; exact vn2) (s1.trans (k2.less fun k hk => hk.2 n rfl)) (by rw [z2, z1])))
  cases ah with
  | none => exact two h va (fun _ e => by cases e) vn (SK.refl _ _) rfl
  | some p =>
    refine nd_lah va (nd_laf va (nd_af (vp p rfl) fun h1 vp1 k1 z1 => two h1 (va.keep k1.w (fun e => d2 p rfl e.symm)) (fun q e => by cases e; exact vp1) (fun n e => (vn n e).keep k1.w (fun e2 => d1 p n rfl e e2.symm)) (k1.less fun k hk => hk.1 p rfl) z1))
end
end Go.Proofs
