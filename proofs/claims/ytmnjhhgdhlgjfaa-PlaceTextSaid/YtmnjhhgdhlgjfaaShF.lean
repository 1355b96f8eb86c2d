/- The shallow form of code is sound: regions. No condition. -/
import Derived.Test.YtmnjhhgdhlgjfaaShE
namespace Go.Sh
open Go
set_option linter.unusedVariables false
set_option linter.unusedSimpArgs false
variable {P : Program}

/-- the fence that lets all in, of a frame of a plain make or a round's -/
def Fr (ro : Option Nat) : Fence := { Fence.wide with round := ro }

theorem calls_fr {ro : Option Nat} {n : Nat} {f : FuncId} {args : Array Value} {w : World} {R : Ending → World → Prop} (h : Calls P f args w R) : CallsIn (Fr ro) n P f args w R :=
  (callsIn_wide (n := n)).2 h

abbrev XPost := Exit → Env → H → Prop
def lift (n : Nat) (w0 : World) (Q : XPost) : Exit → Act → World → Prop
  | .outgrown, _, _ => False
  | .panic _, _, _ => False
  | e, a, w => ∃ g, Agree n a g ∧ Q e g w.heap ∧ Outer w0 w

/-- what an operation comes to -/
def OpOK (ro : Option Nat) (P : Program) (s : Sem Next) (w : World) (R : Value → World → Prop) : Prop :=
  match s.run P w with
  | .ok (.value v) w' => R v w'
  | .ok .skip w' => R undef w'
  | .ok (.enter f args) w' => Calls P f args w' fun e w'' => ∃ v, e = .returned v ∧ R v w''
  | .ok (.round l f tmps assign body) w' => RoundIn Fence.wide 0 P l f tmps assign body w' fun e w'' => ∃ v, e = .returned v ∧ R v w''
  | _ => False

theorem ldL_ok {h : H} {a : Addr} : ∀ {ds : List (Option TypeDesc)} {i : Nat} {k : List Value → Prop}, ldL h a ds i k →
    ∃ l : List Value, l.length = ds.length ∧ k l ∧ ∀ j v, l[j]? = some v → cell h (a.add (i + j)) = some v
  | [], i, k, hh => ⟨[], rfl, hh, fun j v hv => by simp at hv⟩
  | d :: ds, i, k, hh => by
    obtain ⟨v, hc, hd⟩ := lds_ok hh
    obtain ⟨l, hl, hk, hall⟩ := ldL_ok hd
    refine ⟨v :: l, by simp [hl], hk, fun j u hu => ?_⟩
    cases j with
    | zero => simp at hu; subst hu; exact hc
    | succ j =>
      have := hall j u (by simpa using hu)
      rw [show i + (j + 1) = i + 1 + j by omega]
      exact this

theorem run_ld (w : World) (a : Addr) (v : Value) (h : cell w.heap a = some v) : (load a).run P w = .ok v w := by
  have h' : w.cell? a = some v := h
  simp [run_load, h']

theorem run_loadCells {w : World} {a : Addr} : ∀ (l : List Value) (i : Nat) (acc : Array Value), (∀ j v, l[j]? = some v → cell w.heap (a.add (i + j)) = some v) →
    (loadCellsFrom a i l.length acc).run P w = .ok (acc ++ l.toArray) w
  | [], i, acc, h => by simp [loadCellsFrom]
  | v :: l, i, acc, h => by
    have h0 := h 0 v rfl
    rw [Nat.add_zero] at h0
    simp only [List.length_cons, loadCellsFrom, Sem.run_bind, run_ld w _ v h0, Result.andThen_ok]
    rw [run_loadCells l (i + 1) (acc.push v) fun j u hu => by
      have := h (j + 1) u (by simpa using hu)
      rwa [show i + (j + 1) = i + 1 + j by omega] at this]
    simp

theorem ldx_ok {t : TypeId} {a : Addr} {h : H} {k : Value → Prop} (hh : ldx P t a h k) : ∃ v, k v ∧ ∀ w : World, w.heap = h → (loadVar t a).run P w = .ok v w := by
  have agg : ∀ d, P.underlying t = some d → isAggD (some d) = true → (cond (Nat.beq (flatT P 9 t).length (P.cellsOf t)) (ldL h a (flatT P 9 t) 0 fun l => k (.agg ⟨l⟩)) False) →
      ∃ v, k v ∧ ∀ w : World, w.heap = h → (loadVar t a).run P w = .ok v w := by
    intro d hd hia hl
    cases hb : Nat.beq (flatT P 9 t).length (P.cellsOf t) with
    | false => rw [hb] at hl; exact hl.elim
    | true =>
    rw [hb] at hl
    have hlen := Nat.eq_of_beq_eq_true hb
    have hl : ldL h a (flatT P 9 t) 0 fun l => k (.agg ⟨l⟩) := hl
    obtain ⟨l, hll, hk, hall⟩ := ldL_ok hl
    obtain ⟨i, hi⟩ := info_of_und hd
    refine ⟨.agg ⟨l⟩, hk, fun w hw => ?_⟩
    unfold loadVar
    rw [Sem.run_bind, isAgg_run hd, Result.andThen_ok, hia]
    simp only [if_true, Sem.run_bind, run_size hi, Result.andThen_ok, Sem.run_pure]
    have e : i.size = l.length := by rw [hll, hlen, cells_of hi]
    rw [e]
    unfold loadCells
    rw [run_loadCells l 0 #[] fun j v hv => by rw [hw]; exact hall j v hv]
    simp
  unfold ldx at hh
  split at hh
  · rename_i fs hd; exact agg _ hd rfl hh
  · rename_i n e hd; exact agg _ hd rfl hh
  · rename_i d hs ha hd
    obtain ⟨v, hc, hk⟩ := lds_ok hh
    refine ⟨v, hk, fun w hw => ?_⟩
    unfold loadVar
    have hia : isAggD (some d) = false := by
      cases d <;> first | rfl | exact absurd rfl (hs _) | exact absurd rfl (ha _ _)
    rw [Sem.run_bind, isAgg_run hd, Result.andThen_ok, hia]
    simp only [Bool.false_eq_true, if_false]
    exact run_ld w a v (by rw [hw]; exact hc)
  · exact hh.elim

theorem stL_ok {a : Addr} : ∀ {l : List Value} {i : Nat} {h : H} {k : H → Prop}, stL a l i h k → l.all oneC = true → ∀ w : World, w.heap = h →
    ∃ w', (storeCells a l i).run P w = .ok () w' ∧ Outer w w' ∧ k w'.heap
  | [], i, h, k, hx, _, w, hw => ⟨w, rfl, Outer.refl w, by rw [hw]; exact hx⟩
  | v :: l, i, h, k, hx, h1, w, hw => by
    obtain ⟨⟨u, hu⟩, hf, hx⟩ := hx
    simp only [List.all_cons, Bool.and_eq_true] at h1
    obtain ⟨w', hr, ho, hk⟩ := stL_ok hx h1.2 (w.setCell (a.add i) v) (by rw [setc_eq, hw])
    refine ⟨w', ?_, ⟨ho.tape, ho.os, ho.output⟩, hk⟩
    have hc : w.cell? (a.add i) = some u := by rw [cell_eq, hw]; exact hu
    have hz : w.frozen? (a.add i) = false := by rw [frozen_eq, hw]; exact hf
    have hs : (store (a.add i) v).run P w = .ok () (w.setCell (a.add i) v) := by
      cases v <;> first
        | (simp [Go.store, Sem.run, hc, hz]; done)
        | (exact absurd h1.1 (by simp [oneC]))
    show ((do Go.store (a.add i) v; storeCells a l (i + 1)) : Sem Unit).run P w = _
    rw [Sem.run_bind, hs, Result.andThen_ok]
    exact hr

theorem leafM_ok {ty : TypeId} {h : H} {next : Value → H → Prop} {wr : Bool} {s : Sem Next} (hs : Ways P (leafM P ty h next wr) s) (ro : Option Nat) (w : World) (hw : w.heap = h) :
    OpOK ro P s w fun v w' => Outer w w' ∧ next v w'.heap := by
  unfold OpOK
  rcases hs with ⟨v, hk, r⟩ | ⟨t, a, hk, r⟩ | ⟨cs, t, hk, r⟩ | ⟨m, hk, r⟩ | ⟨m, hk, r⟩ | ⟨f, args, hk, r⟩ | ⟨cs, e, n, hk, r⟩ | ⟨l, args, hk, r⟩ | ⟨a, l, hk, h1, r⟩
  · rw [r w]
    exact ⟨Outer.refl w, by rw [hw]; exact fin_ok (k := fun v => next v h) hk⟩
  · have hk : ldx P t a h (fun v => fin P ty v fun v => next v h) := hk
    obtain ⟨v, hk, hr⟩ := ldx_ok hk
    rw [r, wrap_ok (hr w hw)]
    exact ⟨Outer.refl w, by rw [hw]; exact fin_ok (k := fun v => next v h) hk⟩
  · rw [r w]
    refine ⟨⟨rfl, rfl, rfl⟩, ?_⟩
    subst hw
    exact hk
  · obtain ⟨v, w', hr, ho, hd⟩ := hk w hw
    rw [r w]
    simp only [Sem.run_bind, hr, Result.andThen_ok, Sem.run_pure]
    exact ⟨ho, dec_ok hd⟩
  · obtain ⟨w', hr, ho, hd⟩ := hk w hw
    rw [r w]
    simp only [Sem.run_bind, hr, Result.andThen_ok, Sem.run_pure]
    exact ⟨ho, hd⟩
  · rw [r w]
    exact (hk w hw).mono fun e w'' ⟨v, he, ho, hd⟩ => ⟨v, he, ho, dec_ok hd⟩
  · rw [r w]
    refine ⟨⟨rfl, rfl, rfl⟩, ?_⟩
    subst hw
    exact hk
  · obtain ⟨fn, tmps, assign, body, hr, hrd⟩ := hk w hw
    rw [r w, hr]
    exact hrd.mono fun e w'' ⟨v, he, ho, hd⟩ => ⟨v, he, ho, dec_ok hd⟩
  · have hk : stL a l 0 h fun h' => next undef h' := hk
    obtain ⟨w', hr, ho, hd⟩ := stL_ok hk h1 w hw
    rw [r w, Sem.run_bind, hr, Result.andThen_ok, Sem.run_pure]
    exact ⟨ho, hd⟩

theorem opl_nodefer {ρ : Operand → Value} {o : Oper} {K : Kont} (h : opl P ρ o K) : ∀ c, o.op ≠ .defer c := by
  intro c e
  unfold opl at h
  rw [e] at h
  exact h

theorem uponIn_of_OpOK {ro : Option Nat} {o : Oper} {a : Act} {w : World} {R : Value → World → Prop} {next : Act → World → Prop} {Q : Exit → Act → World → Prop}
    (hnd : ∀ c, o.op ≠ .defer c) (h : OpOK ro P (execOp a.eval o) w R) (hn : ∀ v w', R v w' → next (a.put o.dst v) w') : o.wpIn (Fr ro) 0 P a w next Q := by
  refine ⟨fun _ _ => trivial, ?_⟩
  rw [show (Fr ro).round = ro from rfl, Oper.semAt_eq ro a.eval o hnd]
  unfold OpOK at h
  generalize (execOp a.eval o).run P w = r at h ⊢
  cases r with
  | halt x w' => exact h.elim
  | ok nx w' =>
    cases nx with
    | value v => exact hn _ _ h
    | skip => exact hn _ _ h
    | enter f args =>
      refine ⟨(fun hd => by cases hd), calls_fr (h.mono fun e w'' ⟨v, he, hr⟩ => ?_)⟩
      subst he
      exact hn _ _ hr
    | round l f tmps assign body =>
      refine ⟨(fun hd => by cases hd), ?_⟩
      have h2 : RoundIn (Fr ro) 0 P l f tmps assign body w' fun e w'' => ∃ v, e = .returned v ∧ R v w'' := h
      exact h2.mono fun e w'' ⟨v, he, hr⟩ => by subst he; exact hn _ _ hr
    | _ => exact h.elim

theorem opsx_ok {ro : Option Nat} {n : Nat} {ops : Array Oper} {next : Env → H → Prop} {Q : XPost} (hQ : ∀ g h, next g h → Q .normal g h) (w0 : World) :
    ∀ (l : List Oper) (k : Nat) (g : Env) (h : H) (a : Act) (w : World), (∀ j, l[j]? = ops[k + j]?) → opsx P n ops.toList next l g h → w.heap = h → Outer w0 w → Agree n a g →
      wpOpsIn (Fr ro) 0 P ops (lift n w0 Q) (List.range' k l.length) a w
  | [], k, g, h, a, w, hl, hx, hw, ho, ha => by
    subst hw
    exact ⟨g, ha, hQ _ _ hx, ho⟩
  | o :: l, k, g, h, a, w, hl, hx, hw, ho, ha => by
    have h0 : ops[k]? = some o := by simpa using (hl 0).symm
    have hl' : ∀ j, l[j]? = ops[k + 1 + j]? := fun j => by
      have := hl (j + 1)
      rwa [List.getElem?_cons_succ, show k + (j + 1) = k + 1 + j by omega] at this
    rw [List.length_cons, List.range'_succ]
    simp only [wpOpsIn, h0]
    rw [wantx_ok ha]
    unfold opsx at hx
    cases hwx : wantx n ops.toList g o with
    | true =>
      rw [hwx] at hx
      simp only [if_true]
      have hx : opl P (evalE n g) o (leafM P o.type h (fun v h' => reD P o v fun v => opsx P n ops.toList next l (g.upd o.dst v) h') (wrapN n)) := hx
      rw [← ha.eval] at hx
      refine uponIn_of_OpOK (opl_nodefer hx) (leafM_ok (opl_ok hx) ro w hw) fun v w' ⟨ho', hn⟩ => ?_
      exact opsx_ok hQ w0 l (k + 1) _ _ _ _ hl' (reD_ok hn) rfl (ho.trans ho') (ha.put o.dst v)
    | false =>
      rw [hwx] at hx
      simp only [Bool.false_eq_true, if_false]
      exact ⟨fun _ _ => trivial, opsx_ok hQ w0 l (k + 1) _ _ _ _ hl' hx hw ho (ha.put o.dst undef)⟩

end Go.Sh
