/- The shallow form of code is sound: all code, and a function out of its body. No condition. -/
import Derived.Test.YtmnjhhgdhlgjfaaShP
namespace Go.Sh
open Go
set_option linter.unusedVariables false
set_option linter.unusedSimpArgs false
variable {P : Program}

/-! ### The walk's form of code without loops -/
/-- THE SHALLOW FORM OF CODE; a loop, or a range over a function, is asked as it is -/
def wpx (ro : Option Nat) (P : Program) (n : Nat) : Code → XPost → Env → H → Prop
  | .skip, Q, g, h => Q .normal g h
  | .region id ops draw, Q, g, h =>
    cond draw (cond (rdF n id && (rdPlanB P 3 ops.toList && noDefer ops.toList)) (readN P n (Q .normal) 3 ops.toList g h) (cond (planNB P ops.toList (plMasks ops.toList [])) (drawN P n ops.toList (plMasks ops.toList []) (Q .normal) g h) (cond (splitB P 3 ops.toList && noDefer ops.toList) (splitN P n (Q .normal) 3 ops.toList g h) (qsx P n ops.toList (Q .normal) h ops.toList g)))) (opsx P n ops.toList (Q .normal) ops.toList g h)
  | .seq a b, Q, g, h => wpx ro P n a (thenX (wpx ro P n b Q) Q) g h
  | .cond c a b, Q, g, h => vBool (evalE n g c) fun t => cond t (wpx ro P n a Q g h) (wpx ro P n b Q g h)
  | .block id c, Q, g, h => wpx ro P n c (inBlockX id Q) g h
  | .exit id, Q, g, h => Q (.exit id) g h
  | .label _, Q, g, h => Q .normal g h
  | .goto l, Q, g, h => Q (.goto l) g h
  | .ret, Q, g, h => Q .ret g h
  | _, _, _, _ => False

/-- may every region that draws be walked in the text's order? -/
def drawOK (P : Program) : Code → Bool
  | .region _ ops draw => !draw || (planNB P ops.toList (plMasks ops.toList []) || ((splitB P 3 ops.toList && noDefer ops.toList) || (Region.lexB .any ops && noDefer ops.toList)))
  | .seq a b => drawOK P a && drawOK P b
  | .cond _ a b => drawOK P a && drawOK P b
  | .block _ c => drawOK P c
  | _ => true

theorem wpx_mono {ro : Option Nat} {n : Nat} : ∀ {c : Code} {Q Q' : XPost} {g : Env} {h : H}, (∀ e g h, Q e g h → Q' e g h) → wpC ro P n c Q g h → wpC ro P n c Q' g h :=
  fun hq hx => hx.mono hq

theorem thenX_mono {A B : Env → H → Prop} {Q : XPost} (hab : ∀ g h, A g h → B g h) : ∀ e g h, thenX A Q e g h → thenX B Q e g h := by
  intro e g h hx
  cases e <;> first | exact hab _ _ hx | exact hx

theorem wpx_ok {ro : Option Nat} {n : Nat} (hm : P.follows .mixedOrders = true) : ∀ (c : Code) (Q : XPost) (g : Env) (h : H), drawOK P c = true → wpx ro P n c Q g h → wpC ro P n c Q g h := by
  intro c
  induction c with
  | skip => intro Q g h _ hx; exact wpC_skip hx
  | region id ops draw =>
    intro Q g h hd hx
    cases draw with
    | true =>
      simp only [drawOK, Bool.not_true, Bool.false_or, Bool.or_eq_true, Bool.and_eq_true] at hd
      simp only [wpx, cond] at hx
      cases hrd : rdF n id && (rdPlanB P 3 ops.toList && noDefer ops.toList) with
      | true =>
        rw [hrd] at hx
        simp only [Bool.and_eq_true] at hrd
        exact fun w0 w a hw ho ha => readN_ok hm hrd.2.2 hrd.2.1 hx w0 w a hw ho ha
      | false =>
      rw [hrd] at hx
      simp only [] at hx
      cases hpl : planNB P ops.toList (plMasks ops.toList []) with
      | true =>
        rw [hpl] at hx
        exact fun w0 w a hw ho ha => drawN_ok2 hm hpl hx w0 w a hw ho ha
      | false =>
        rw [hpl] at hx hd
        have hd := hd.resolve_left (by simp)
        simp only [] at hx
        cases hsp : splitB P 3 ops.toList && noDefer ops.toList with
        | true =>
          rw [hsp] at hx
          simp only [Bool.and_eq_true] at hsp
          exact fun w0 w a hw ho ha => splitN_ok hm hsp.2 hsp.1 hx w0 w a hw ho ha
        | false =>
          rw [hsp] at hx
          simp only [Bool.and_eq_false_iff] at hsp
          have hd := hd.resolve_left (fun hh => by rcases hsp with e | e <;> rw [e] at hh; (exact absurd hh.1 (by simp)); (exact absurd hh.2 (by simp)))
          exact fun w0 w a hw ho ha => drawx_ok hm hd.1 hd.2 hx w0 w a hw ho ha
    | false =>
      intro w0 w a hw ho ha
      refine wpIn_region ?_
      have := opsx_ok (ro := ro) (Q := Q) (fun _ _ hh => hh) w0 ops.toList 0 g h a w (fun j => by simp) hx hw ho ha
      rwa [Array.length_toList, ← List.range_eq_range'] at this
  | seq a b iha ihb =>
    intro Q g h hd hx
    simp only [drawOK, Bool.and_eq_true] at hd
    exact wpC_seq ((iha _ g h hd.1 hx).mono (thenX_mono fun g h => ihb Q g h hd.2))
  | cond c a b iha ihb =>
    intro Q g h hd hx
    simp only [drawOK, Bool.and_eq_true] at hd
    unfold wpx at hx
    unfold vBool at hx
    split at hx
    · rename_i t ht
      refine wpC_cond ht ?_
      cases t with
      | true => exact iha _ _ _ hd.1 hx
      | false => exact ihb _ _ _ hd.2 hx
    · exact hx.elim
  | block id c ih => intro Q g h hd hx; exact wpC_block (ih _ _ _ hd hx)
  | exit id => intro Q g h _ hx; exact wpC_exit hx
  | label l => intro Q g h _ hx; exact wpC_label hx
  | goto l => intro Q g h _ hx; exact wpC_goto hx
  | ret => intro Q g h _ hx; exact wpC_ret hx
  | loop c _ => intro Q g h _ hx; exact hx.elim
  | rangeFunc f ps a b _ _ => intro Q g h _ hx; exact hx.elim
  | scope c _ => intro Q g h _ hx; exact hx.elim
  | refuse s => intro Q g h _ hx; exact hx.elim

/-! ### A function, out of its body -/
/-- what is told at a function's end -/
def resL (P : Program) (g : Env) (n : Nat) (h : H) : List ResultVar → (List Value → Prop) → Prop
  | [], k => k []
  | .tmp t :: l, k => cond (Nat.blt t n) (resL P g n h l fun vs => k (g.v t :: vs)) False
  | .cell a t :: l, k => cond (Nat.blt a n) (vAddr (g.v a) fun a => ldx P t a h fun v => resL P g n h l fun vs => k (v :: vs)) False
def resV : List Value → Value
  | [v] => v
  | l => .tuple ⟨l⟩
/-- what is still to be done at a function's end: the marks that ranges over functions leave -/
def leaveX : List Deferred → H → (H → Prop) → Prop
  | [], h, k => k h
  | d :: ds, h, k =>
    match d.target with
    | .collected r => h[r]? = some (.deferred (some [])) ∧ leaveX ds (h.setIfInBounds r (.deferred none)) k
    | _ => False
def retX (P : Program) (n : Nat) (rs : List ResultVar) (K : Value → H → Prop) : XPost
  | .normal, g, h => leaveX g.ds h fun h => resL P g n h rs fun vs => K (resV vs) h
  | .ret, g, h => leaveX g.ds h fun h => resL P g n h rs fun vs => K (resV vs) h
  | _, _, _ => False

def resM (tmps : Array Value) (r : ResultVar) : Sem Value :=
  match r with
  | .tmp t => pure (tmps.getD t undef)
  | .cell a t => do loadVar t (← Go.asAddr (tmps.getD a undef))

theorem resL_ok {g : Env} {n : Nat} {h : H} {a : Act} {w : World} (ha : Agree n a g) (hw : w.heap = h) : ∀ {rs : List ResultVar} {k : List Value → Prop}, resL P g n h rs k →
    ∃ vs, k vs ∧ (rs.mapM (resM a.tmps)).run P w = .ok vs w
  | [], k, hx => ⟨[], hx, rfl⟩
  | .tmp t :: l, k, hx => by
    unfold resL at hx
    cases hb : Nat.blt t n with
    | false => rw [hb] at hx; exact hx.elim
    | true =>
      rw [hb] at hx
      obtain ⟨vs, hk, hr⟩ := resL_ok ha hw (k := fun vs => k (g.v t :: vs)) hx
      refine ⟨g.v t :: vs, hk, ?_⟩
      rw [List.mapM_cons]
      have e : resM a.tmps (.tmp t) = pure (g.v t) := by unfold resM; simp only [ha.tmp t (blt_yes hb)]
      simp only [e, Sem.run_bind, Sem.run_pure, Result.andThen_ok, hr]
  | .cell b t :: l, k, hx => by
    unfold resL at hx
    cases hb : Nat.blt b n with
    | false => rw [hb] at hx; exact hx.elim
    | true =>
      rw [hb] at hx
      obtain ⟨ad, he, hx⟩ := vAddr_ok (k := fun a => ldx P t a h fun v => resL P g n h l fun vs => k (v :: vs)) hx
      obtain ⟨v, hx, hv⟩ := ldx_ok hx
      obtain ⟨vs, hk, hr⟩ := resL_ok ha hw (k := fun vs => k (v :: vs)) hx
      refine ⟨v :: vs, hk, ?_⟩
      rw [List.mapM_cons]
      have e : a.tmps.getD b undef = .pointer (some ad) := (ha.tmp b (blt_yes hb)).trans he
      have e2 : (resM a.tmps (.cell b t)).run P w = .ok v w := by
        unfold resM
        simp only [e, Go.asAddr, Sem.run_bind, Sem.run_pure, Result.andThen_ok, hv w hw]
      simp only [Sem.run_bind, Sem.run_pure, Result.andThen_ok, hr, e2]

theorem results_run {fn : Func} {g : Env} {n : Nat} {h : H} {a : Act} {w : World} (ha : Agree n a g) (hw : w.heap = h) {k : List Value → Prop} (hx : resL P g n h fn.results.toList k) :
    ∃ vs, k vs ∧ (results fn a.tmps).run P w = .ok (resV vs) w := by
  obtain ⟨vs, hk, hr⟩ := resL_ok ha hw hx
  refine ⟨vs, hk, ?_⟩
  have hm : (fn.results.mapM (resM a.tmps)).run P w = .ok vs.toArray w := by
    rw [← Array.toArray_toList (xs := fn.results), List.mapM_toArray]
    rw [Sem.run_map, hr]
    rfl
  have e : results fn a.tmps = (do let vs ← fn.results.mapM (resM a.tmps); pure (if h : vs.size = 1 then vs[0] else .tuple vs)) := rfl
  rw [e, Sem.run_bind, hm, Result.andThen_ok, Sem.run_pure]
  refine congrArg (fun v => Result.ok v w) ?_
  match vs with
  | [] => rfl
  | [v] => rfl
  | v :: u :: l => simp [resV]

/-- the frame that a call enters -/
def env0 (args : List Value) : Env := ⟨fun i => args.getD i undef, []⟩
theorem agree0 {n : Nat} {args : Array Value} (hn : args.size ≤ n) : Agree n { tmps := args ++ Array.replicate (n - args.size) undef, defers := [] } (env0 args.toList) := by
  refine ⟨rfl, by simp; omega, fun i hi => ?_⟩
  show (args ++ Array.replicate (n - args.size) undef).getD i undef = args.toList.getD i undef
  simp only [Array.getD_eq_getD_getElem?, List.getD_eq_getElem?_getD, Array.getElem?_toList]
  by_cases h : i < args.size
  · rw [Array.getElem?_append_left h]
  · rw [Array.getElem?_append_right (by omega), Array.getElem?_eq_none (xs := args) (by omega)]
    by_cases h2 : i - args.size < n - args.size
    · rw [Array.getElem?_replicate, if_pos h2]; rfl
    · rw [Array.getElem?_eq_none (by simp; omega)]

theorem leave_ok {fn : Func} {tmps : Array Value} {w0 : World} {K : Value → H → Prop} (k : H → Prop) (hk : ∀ w, k w.heap → ∃ v, (results fn tmps).run P w = .ok v w ∧ K v w.heap) :
    ∀ (ds : List Deferred) (w : World), Outer w0 w → leaveX ds w.heap k →
      LeavesInM Fence.wide 0 P fn tmps (fun e w' => ∃ v, e = .returned v ∧ Outer w0 w' ∧ K v w'.heap) ds .returning w
  | [], w, ho, hx => by
    obtain ⟨v, hr, hv⟩ := hk w hx
    exact ⟨v, hr, v, rfl, ho, hv⟩
  | d :: ds, w, ho, hx => by
    unfold leaveX at hx
    split at hx
    · rename_i r ht
      obtain ⟨hr, hx⟩ := hx
      refine ⟨by simp, .inl ⟨r, { w with heap := w.heap.setIfInBounds r (.deferred none) }, ht, ?_, ?_⟩⟩
      · unfold Instr.takeDeferred
        have hg : (getObj r).run P w = .ok (.deferred (some [])) w := by
          simp [getObj, Sem.run, hr]
        have hs : (setObj r (.deferred none)).run P w = .ok () { w with heap := w.heap.setIfInBounds r (.deferred none) } := by
          simp [setObj, Sem.run, hr]
        rw [Sem.run_bind, hg, Result.andThen_ok]
        simp only [Sem.run_bind, hs, Result.andThen_ok, Sem.run_pure]
      · exact leave_ok k hk ds _ ⟨ho.tape, ho.os, ho.output⟩ hx
    · exact hx.elim

theorem calls_of_wpC {f : FuncId} {fn : Func} {c : Code} {args : Array Value} {h : H} {K : Value → H → Prop} (hf : P.funcs[f]? = some fn) (hb : fn.body = some c) (hn : args.size ≤ fn.ntmps)
    (hx : wpC none P fn.ntmps c (retX P fn.ntmps fn.results.toList K) (env0 args.toList) h) : HCalls P f args h K := by
  intro w hw
  refine (callsIn_wide (n := 0)).1 ?_
  refine callsIn_of_wp_marks (F := Fence.wide) hf hb trivial ?_
  refine wpIn_mono (hx w w _ hw (Outer.refl w) (agree0 hn)) fun e a' w' he => ?_
  have fin : ∀ g, Agree fn.ntmps a' g → Outer w w' → (leaveX g.ds w'.heap fun h => resL P g fn.ntmps h fn.results.toList fun vs => K (resV vs) h) →
      LeavesInM Fence.wide 0 P fn a'.tmps (fun e w' => ∃ v, e = .returned v ∧ Outer w w' ∧ K v w'.heap) a'.defers .returning w' := by
    intro g ha ho hx
    rw [ha.ds]
    refine leave_ok _ (fun w2 hr => ?_) g.ds w' ho hx
    obtain ⟨vs, hk, hr⟩ := results_run ha rfl hr
    exact ⟨_, hr, hk⟩
  cases e with
  | normal => obtain ⟨g, ha, hr, ho⟩ := he; exact fin g ha ho hr
  | ret => obtain ⟨g, ha, hr, ho⟩ := he; exact fin g ha ho hr
  | exit id => obtain ⟨g, ha, hr, ho⟩ := he; exact hr.elim
  | goto l => obtain ⟨g, ha, hr, ho⟩ := he; exact hr.elim
  | panic ch => exact he.elim
  | outgrown => exact he.elim
end Go.Sh
