/- The shallow form of code: frames, regions, ways out; and that it is sound. No condition. The shallow form of code is sound: regions. No condition. The shallow form of code is sound: regions that draw their order; all code. No condition. -/
import Derived.Test.YtmnjhhgdhlgjfaaGreatShD
import Derived.Orders
import Derived.RangeFuncLeaves
namespace Go.Sh
open Go
set_option linter.unusedVariables false
set_option linter.unusedSimpArgs false

/-- the temporaries, and the calls that are deferred -/
structure Env where
  v : Nat → Value
  ds : List Deferred
def Env.upd (g : Env) (d : Option Nat) (x : Value) : Env :=
  match d with
  | some i => ⟨fun j => cond (Nat.beq j i) x (g.v j), g.ds⟩
  | none => g
def evalE (n : Nat) (g : Env) (x : Operand) : Value :=
  match x with
  | .tmp t => cond (Nat.blt t n) (g.v t) undef
  | .const v => v
  | .global k => .pointer (some ⟨k, 0, none⟩)
  | .func f => .func (.func f) #[] #[]
structure Agree (n : Nat) (a : Act) (g : Env) : Prop where
  ds : a.defers = g.ds
  size : a.tmps.size = n
  tmp : ∀ i, i < n → a.tmps.getD i undef = g.v i

theorem blt_yes {a b : Nat} (h : Nat.blt a b = true) : a < b := by rwa [Nat.blt_eq] at h
theorem blt_no {a b : Nat} (h : Nat.blt a b = false) : ¬ a < b := fun hl => by
  have h2 : Nat.blt a b = true := by rwa [Nat.blt_eq]
  rw [h] at h2
  cases h2

theorem Agree.eval {n : Nat} {a : Act} {g : Env} (h : Agree n a g) : a.eval = evalE n g := by
  funext x
  cases x with
  | tmp t =>
    show a.tmps.getD t undef = cond (Nat.blt t n) (g.v t) undef
    cases hb : Nat.blt t n with
    | true => exact h.tmp t (blt_yes hb)
    | false =>
      have hn : ¬ t < n := fun hl => blt_no hb hl
      rw [← h.size] at hn
      simp [Array.getD, hn]
  | const v => rfl
  | global k => rfl
  | func f => rfl
theorem Agree.put {n : Nat} {a : Act} {g : Env} (h : Agree n a g) (d : Option Nat) (v : Value) : Agree n (a.put d v) (g.upd d v) := by
  cases d with
  | none => exact h
  | some i =>
    refine ⟨h.ds, by simp [Act.put, h.size], fun j hj => ?_⟩
    show (a.tmps.setIfInBounds i v).getD j undef = cond (Nat.beq j i) v (g.v j)
    cases hb : Nat.beq j i with
    | true =>
      have e : j = i := Nat.eq_of_beq_eq_true hb
      subst e
      simp [Array.getD, h.size, hj]
    | false =>
      have e : i ≠ j := fun e => by
        subst e
        have : Nat.beq i i = true := Nat.beq_refl i
        rw [hb] at this; cases this
      have := h.tmp j hj
      have hs : (a.tmps.setIfInBounds i v)[j]? = a.tmps[j]? := Array.getElem?_setIfInBounds_ne e
      simp only [Array.getD_eq_getD_getElem?] at this ⊢
      rw [hs]; exact this

/-- is an operation carried out? -/
def wantx (n : Nat) (ops : List Oper) (g : Env) (o : Oper) : Bool :=
  match o.guard with
  | none => true
  | some (j, want) =>
    match ops[j]? with
    | some oj =>
      match oj.dst with
      | some d => cond (Nat.blt d n) (match g.v d with | .bool b => b == want | _ => false) false
      | none => false
    | none => false

theorem wantx_ok {n : Nat} {ops : Array Oper} {a : Act} {g : Env} {o : Oper} (h : Agree n a g) : Region.wanted o (yielded ops a.tmps) = wantx n ops.toList g o := by
  unfold Region.wanted wantx
  cases hg : o.guard with
  | none => rfl
  | some jw =>
    obtain ⟨j, want⟩ := jw
    simp only
    unfold yielded
    rw [Array.getElem?_toList]
    cases hj : ops[j]? with
    | none => rfl
    | some oj =>
      simp only [Option.bind_some]
      cases hd : oj.dst with
      | none => rfl
      | some d =>
        simp only [Option.bind_some]
        cases hb : Nat.blt d n with
        | true =>
          have hlt : d < n := blt_yes hb
          have ht := h.tmp d hlt
          have hs : a.tmps[d]? = some (g.v d) := by
            rw [Array.getElem?_eq_getElem (by rw [h.size]; exact hlt)]
            have : a.tmps.getD d undef = a.tmps[d]'(by rw [h.size]; exact hlt) := by simp [Array.getD, h.size, hlt]
            rw [← ht, this]
          rw [hs]
          cases g.v d <;> simp [cond]
        | false =>
          have hn : ¬ d < n := fun hl => blt_no hb hl
          have hs : a.tmps[d]? = none := Array.getElem?_eq_none (by rw [h.size]; exact Nat.le_of_not_lt hn)
          rw [hs]
          rfl

def leafM (P : Program) (ty : TypeId) (h : H) (next : Value → H → Prop) (wr : Bool := false) : Kont where
  wr := wr
  val v := fin P ty v fun v => next v h
  load t a := ldx P t a h fun v => fin P ty v fun v => next v h
  box cs t := newx h cs t fun a h' => next (.pointer (some a)) h'
  sem m := SemH P m h fun v h' => dec P ty v fun v => next v h'
  semU m := SemU P m h fun h' => next undef h'
  call f args := HCalls P f args h fun v h' => dec P ty v fun v => next v h'
  row cs e n := newx h cs e fun a h' => next (.slice (some a) n n) h'
  yld l args := YCalls P l args h fun v h' => dec P ty v fun v => next v h'
  store a l := stL a l 0 h fun h' => next undef h'
def leafQ (P : Program) (ty : TypeId) (h : H) (next : Value → Prop) (wr : Bool := false) : Kont where
  wr := wr
  val v := fin P ty v next
  load t a := ldx P t a h fun v => fin P ty v next
  box _ _ := False
  sem m := SemQ P m h fun v => dec P ty v next
  semU _ := False
  call f args := QCalls P f args h fun v => dec P ty v next
  row _ _ _ := False
  yld _ _ := False
  store _ _ := False

/-- what a function that is not known gives back: known as far as its type says -/
def reD (P : Program) (o : Oper) (v : Value) (k : Value → Prop) : Prop :=
  match o.op with
  | .call c =>
    match c.callee with
    | .value _ => dec P o.type v k
    | _ => k v
  | .range _ _ => vAddr v fun a => k (.pointer (some a))
  | .extract _ _ => decD (P.underlying o.type) v k
  | _ => k v
theorem reD_ok {P : Program} {o : Oper} {v : Value} {k : Value → Prop} (h : reD P o v k) : k v := by
  unfold reD at h
  split at h
  · split at h
    · exact dec_ok h
    · exact h
  · obtain ⟨a, rfl, h⟩ := vAddr_ok h
    exact h
  · exact decD_ok h
  · exact h
def opsx (P : Program) (n : Nat) (ops : List Oper) (next : Env → H → Prop) : List Oper → Env → H → Prop
  | [], g, h => next g h
  | o :: rest, g, h => cond (wantx n ops g o)
      (opl P (evalE n g) o (leafM P o.type h (fun v h' => reD P o v fun v => opsx P n ops next rest (g.upd o.dst v) h') (wrapN n)))
      (opsx P n ops next rest (g.upd o.dst undef) h)
def qsx (P : Program) (n : Nat) (ops : List Oper) (next : Env → H → Prop) (h : H) : List Oper → Env → Prop
  | [], g => next g h
  | o :: rest, g => cond (wantx n ops g o)
      (opl P (evalE n g) o (leafQ P o.type h (fun v => reD P o v fun v => qsx P n ops next h rest (g.upd o.dst v)) (wrapN n)))
      (qsx P n ops next h rest (g.upd o.dst undef))
end Go.Sh
namespace Go.Sh
open Go
set_option linter.unusedVariables false
set_option linter.unusedSimpArgs false
variable {P : Program}

/-- the fence that lets all in, of a frame of a plain make or a round's -/
def Fr (ro : Option Nat) : Fence := { Fence.wide with round := ro }

theorem calls_fr {ro : Option Nat} {n : Nat} {f : FuncId} {args : Array Value} {w : World} {R : Ending → World → Prop} (h : Calls P f args w R) : CallsIn (Fr ro) n P f args w R :=
  (callsIn_wide (n := n)).2 h

abbrev XPost := Exit → Env → H → Prop
def lift (n : Nat) (w0 : World) (Q : XPost) : Exit → Act → World → Prop
  | .outgrown, _, _ => False
  | .panic _, _, _ => False
  | e, a, w => ∃ g, Agree n a g ∧ Q e g w.heap ∧ Outer w0 w

/-- what an operation comes to -/
def OpOK (ro : Option Nat) (P : Program) (s : Sem Next) (w : World) (R : Value → World → Prop) : Prop :=
  match s.run P w with
  | .ok (.value v) w' => R v w'
  | .ok .skip w' => R undef w'
  | .ok (.enter f args) w' => Calls P f args w' fun e w'' => ∃ v, e = .returned v ∧ R v w''
  | .ok (.round l f tmps assign body) w' => RoundIn Fence.wide 0 P l f tmps assign body w' fun e w'' => ∃ v, e = .returned v ∧ R v w''
  | _ => False

theorem ldL_ok {h : H} {a : Addr} : ∀ {ds : List (Option TypeDesc)} {i : Nat} {k : List Value → Prop}, ldL h a ds i k →
    ∃ l : List Value, l.length = ds.length ∧ k l ∧ ∀ j v, l[j]? = some v → cell h (a.add (i + j)) = some v
  | [], i, k, hh => ⟨[], rfl, hh, fun j v hv => by simp at hv⟩
  | d :: ds, i, k, hh => by
    obtain ⟨v, hc, hd⟩ := lds_ok hh
    obtain ⟨l, hl, hk, hall⟩ := ldL_ok hd
    refine ⟨v :: l, by simp [hl], hk, fun j u hu => ?_⟩
    cases j with
    | zero => simp at hu; subst hu; exact hc
    | succ j =>
      have := hall j u (by simpa using hu)
      rw [show i + (j + 1) = i + 1 + j by omega]
      exact this

theorem run_ld (w : World) (a : Addr) (v : Value) (h : cell w.heap a = some v) : (load a).run P w = .ok v w := by
  have h' : w.cell? a = some v := h
  simp [run_load, h']

theorem run_loadCells {w : World} {a : Addr} : ∀ (l : List Value) (i : Nat) (acc : Array Value), (∀ j v, l[j]? = some v → cell w.heap (a.add (i + j)) = some v) →
    (loadCellsFrom a i l.length acc).run P w = .ok (acc ++ l.toArray) w
  | [], i, acc, h => by simp [loadCellsFrom]
  | v :: l, i, acc, h => by
    have h0 := h 0 v rfl
    rw [Nat.add_zero] at h0
    simp only [List.length_cons, loadCellsFrom, Sem.run_bind, run_ld w _ v h0, Result.andThen_ok]
    rw [run_loadCells l (i + 1) (acc.push v) fun j u hu => by
      have := h (j + 1) u (by simpa using hu)
      rwa [show i + (j + 1) = i + 1 + j by omega] at this]
    simp

theorem ldx_ok {t : TypeId} {a : Addr} {h : H} {k : Value → Prop} (hh : ldx P t a h k) : ∃ v, k v ∧ ∀ w : World, w.heap = h → (loadVar t a).run P w = .ok v w := by
  have agg : ∀ d, P.underlying t = some d → isAggD (some d) = true → (cond (Nat.beq (flatT P 9 t).length (P.cellsOf t)) (ldL h a (flatT P 9 t) 0 fun l => k (.agg ⟨l⟩)) False) →
      ∃ v, k v ∧ ∀ w : World, w.heap = h → (loadVar t a).run P w = .ok v w := by
    intro d hd hia hl
    cases hb : Nat.beq (flatT P 9 t).length (P.cellsOf t) with
    | false => rw [hb] at hl; exact hl.elim
    | true =>
    rw [hb] at hl
    have hlen := Nat.eq_of_beq_eq_true hb
    have hl : ldL h a (flatT P 9 t) 0 fun l => k (.agg ⟨l⟩) := hl
    obtain ⟨l, hll, hk, hall⟩ := ldL_ok hl
    obtain ⟨i, hi⟩ := info_of_und hd
    refine ⟨.agg ⟨l⟩, hk, fun w hw => ?_⟩
    unfold loadVar
    rw [Sem.run_bind, isAgg_run hd, Result.andThen_ok, hia]
    simp only [if_true, Sem.run_bind, run_size hi, Result.andThen_ok, Sem.run_pure]
    have e : i.size = l.length := by rw [hll, hlen, cells_of hi]
    rw [e]
    unfold loadCells
    rw [run_loadCells l 0 #[] fun j v hv => by rw [hw]; exact hall j v hv]
    simp
  unfold ldx at hh
  split at hh
  · rename_i fs hd; exact agg _ hd rfl hh
  · rename_i n e hd; exact agg _ hd rfl hh
  · rename_i d hs ha hd
    obtain ⟨v, hc, hk⟩ := lds_ok hh
    refine ⟨v, hk, fun w hw => ?_⟩
    unfold loadVar
    have hia : isAggD (some d) = false := by
      cases d <;> first | rfl | exact absurd rfl (hs _) | exact absurd rfl (ha _ _)
    rw [Sem.run_bind, isAgg_run hd, Result.andThen_ok, hia]
    simp only [Bool.false_eq_true, if_false]
    exact run_ld w a v (by rw [hw]; exact hc)
  · exact hh.elim

theorem stL_ok {a : Addr} : ∀ {l : List Value} {i : Nat} {h : H} {k : H → Prop}, stL a l i h k → l.all oneC = true → ∀ w : World, w.heap = h →
    ∃ w', (storeCells a l i).run P w = .ok () w' ∧ Outer w w' ∧ k w'.heap
  | [], i, h, k, hx, _, w, hw => ⟨w, rfl, Outer.refl w, by rw [hw]; exact hx⟩
  | v :: l, i, h, k, hx, h1, w, hw => by
    obtain ⟨⟨u, hu⟩, hf, hx⟩ := hx
    simp only [List.all_cons, Bool.and_eq_true] at h1
    obtain ⟨w', hr, ho, hk⟩ := stL_ok hx h1.2 (w.setCell (a.add i) v) (by rw [setc_eq, hw])
    refine ⟨w', ?_, ⟨ho.tape, ho.os, ho.output⟩, hk⟩
    have hc : w.cell? (a.add i) = some u := by rw [cell_eq, hw]; exact hu
    have hz : w.frozen? (a.add i) = false := by rw [frozen_eq, hw]; exact hf
    have hs : (store (a.add i) v).run P w = .ok () (w.setCell (a.add i) v) := by
      cases v <;> first
        | (simp [Go.store, Sem.run, hc, hz]; done)
        | (exact absurd h1.1 (by simp [oneC]))
    show ((do Go.store (a.add i) v; storeCells a l (i + 1)) : Sem Unit).run P w = _
    rw [Sem.run_bind, hs, Result.andThen_ok]
    exact hr

theorem leafM_ok {ty : TypeId} {h : H} {next : Value → H → Prop} {wr : Bool} {s : Sem Next} (hs : Ways P (leafM P ty h next wr) s) (ro : Option Nat) (w : World) (hw : w.heap = h) :
    OpOK ro P s w fun v w' => Outer w w' ∧ next v w'.heap := by
  unfold OpOK
  rcases hs with ⟨v, hk, r⟩ | ⟨t, a, hk, r⟩ | ⟨cs, t, hk, r⟩ | ⟨m, hk, r⟩ | ⟨m, hk, r⟩ | ⟨f, args, hk, r⟩ | ⟨cs, e, n, hk, r⟩ | ⟨l, args, hk, r⟩ | ⟨a, l, hk, h1, r⟩
  · rw [r w]
    exact ⟨Outer.refl w, by rw [hw]; exact fin_ok (k := fun v => next v h) hk⟩
  · have hk : ldx P t a h (fun v => fin P ty v fun v => next v h) := hk
    obtain ⟨v, hk, hr⟩ := ldx_ok hk
    rw [r, wrap_ok (hr w hw)]
    exact ⟨Outer.refl w, by rw [hw]; exact fin_ok (k := fun v => next v h) hk⟩
  · rw [r w]
    refine ⟨⟨rfl, rfl, rfl⟩, ?_⟩
    subst hw
    exact hk
  · obtain ⟨v, w', hr, ho, hd⟩ := hk w hw
    rw [r w]
    simp only [Sem.run_bind, hr, Result.andThen_ok, Sem.run_pure]
    exact ⟨ho, dec_ok hd⟩
  · obtain ⟨w', hr, ho, hd⟩ := hk w hw
    rw [r w]
    simp only [Sem.run_bind, hr, Result.andThen_ok, Sem.run_pure]
    exact ⟨ho, hd⟩
  · rw [r w]
    exact (hk w hw).mono fun e w'' ⟨v, he, ho, hd⟩ => ⟨v, he, ho, dec_ok hd⟩
  · rw [r w]
    refine ⟨⟨rfl, rfl, rfl⟩, ?_⟩
    subst hw
    exact hk
  · obtain ⟨fn, tmps, assign, body, hr, hrd⟩ := hk w hw
    rw [r w, hr]
    exact hrd.mono fun e w'' ⟨v, he, ho, hd⟩ => ⟨v, he, ho, dec_ok hd⟩
  · have hk : stL a l 0 h fun h' => next undef h' := hk
    obtain ⟨w', hr, ho, hd⟩ := stL_ok hk h1 w hw
    rw [r w, Sem.run_bind, hr, Result.andThen_ok, Sem.run_pure]
    exact ⟨ho, hd⟩

theorem opl_nodefer {ρ : Operand → Value} {o : Oper} {K : Kont} (h : opl P ρ o K) : ∀ c, o.op ≠ .defer c := by
  intro c e
  unfold opl at h
  rw [e] at h
  exact h

theorem uponIn_of_OpOK {ro : Option Nat} {o : Oper} {a : Act} {w : World} {R : Value → World → Prop} {next : Act → World → Prop} {Q : Exit → Act → World → Prop}
    (hnd : ∀ c, o.op ≠ .defer c) (h : OpOK ro P (execOp a.eval o) w R) (hn : ∀ v w', R v w' → next (a.put o.dst v) w') : o.wpIn (Fr ro) 0 P a w next Q := by
  refine ⟨fun _ _ => trivial, ?_⟩
  rw [show (Fr ro).round = ro from rfl, Oper.semAt_eq ro a.eval o hnd]
  unfold OpOK at h
  generalize (execOp a.eval o).run P w = r at h ⊢
  cases r with
  | halt x w' => exact h.elim
  | ok nx w' =>
    cases nx with
    | value v => exact hn _ _ h
    | skip => exact hn _ _ h
    | enter f args =>
      refine ⟨(fun hd => by cases hd), calls_fr (h.mono fun e w'' ⟨v, he, hr⟩ => ?_)⟩
      subst he
      exact hn _ _ hr
    | round l f tmps assign body =>
      refine ⟨(fun hd => by cases hd), ?_⟩
      have h2 : RoundIn (Fr ro) 0 P l f tmps assign body w' fun e w'' => ∃ v, e = .returned v ∧ R v w'' := h
      exact h2.mono fun e w'' ⟨v, he, hr⟩ => by subst he; exact hn _ _ hr
    | _ => exact h.elim

theorem opsx_ok {ro : Option Nat} {n : Nat} {ops : Array Oper} {next : Env → H → Prop} {Q : XPost} (hQ : ∀ g h, next g h → Q .normal g h) (w0 : World) :
    ∀ (l : List Oper) (k : Nat) (g : Env) (h : H) (a : Act) (w : World), (∀ j, l[j]? = ops[k + j]?) → opsx P n ops.toList next l g h → w.heap = h → Outer w0 w → Agree n a g →
      wpOpsIn (Fr ro) 0 P ops (lift n w0 Q) (List.range' k l.length) a w
  | [], k, g, h, a, w, hl, hx, hw, ho, ha => by
    subst hw
    exact ⟨g, ha, hQ _ _ hx, ho⟩
  | o :: l, k, g, h, a, w, hl, hx, hw, ho, ha => by
    have h0 : ops[k]? = some o := by simpa using (hl 0).symm
    have hl' : ∀ j, l[j]? = ops[k + 1 + j]? := fun j => by
      have := hl (j + 1)
      rwa [List.getElem?_cons_succ, show k + (j + 1) = k + 1 + j by omega] at this
    rw [List.length_cons, List.range'_succ]
    simp only [wpOpsIn, h0]
    rw [wantx_ok ha]
    unfold opsx at hx
    cases hwx : wantx n ops.toList g o with
    | true =>
      rw [hwx] at hx
      simp only [if_true]
      have hx : opl P (evalE n g) o (leafM P o.type h (fun v h' => reD P o v fun v => opsx P n ops.toList next l (g.upd o.dst v) h') (wrapN n)) := hx
      rw [← ha.eval] at hx
      refine uponIn_of_OpOK (opl_nodefer hx) (leafM_ok (opl_ok hx) ro w hw) fun v w' ⟨ho', hn⟩ => ?_
      exact opsx_ok hQ w0 l (k + 1) _ _ _ _ hl' (reD_ok hn) rfl (ho.trans ho') (ha.put o.dst v)
    | false =>
      rw [hwx] at hx
      simp only [Bool.false_eq_true, if_false]
      exact ⟨fun _ _ => trivial, opsx_ok hQ w0 l (k + 1) _ _ _ _ hl' hx hw ho (ha.put o.dst undef)⟩

end Go.Sh
namespace Go.Sh
open Go
set_option linter.unusedVariables false
set_option linter.unusedSimpArgs false
variable {P : Program}

/-- the worlds with this heap -/
def Cls (h : H) (w0 w : World) : Prop := w.heap = h ∧ Outer w0 w

theorem leafQ_ok {ty : TypeId} {h : H} {next : Value → Prop} {wr : Bool} {s : Sem Next} (hs : Ways P (leafQ P ty h next wr) s) (w0 : World) :
    ∃ v, next v ∧ ∀ w, Cls h w0 w → Oper.quietUpon P (Cls h w0) w v (s.run P w) := by
  rcases hs with ⟨v, hk, r⟩ | ⟨t, a, hk, r⟩ | ⟨cs, t, hk, r⟩ | ⟨m, hk, r⟩ | ⟨m, hk, r⟩ | ⟨f, args, hk, r⟩ | ⟨cs, e, n, hk, r⟩ | ⟨l, args, hk, r⟩ | ⟨a, l, hk, h1, r⟩
  · exact ⟨v, fin_ok hk, fun w hw => by rw [r w]; exact ⟨rfl, rfl⟩⟩
  · have hk : ldx P t a h (fun v => fin P ty v next) := hk
    obtain ⟨v, hk, hr⟩ := ldx_ok hk
    exact ⟨v, fin_ok hk, fun w hw => by rw [r, wrap_ok (hr w hw.1)]; exact ⟨rfl, rfl⟩⟩
  · exact hk.elim
  · obtain ⟨v, hd, hall⟩ := hk
    refine ⟨v, dec_ok hd, fun w hw => ?_⟩
    obtain ⟨w', hr, e⟩ := hall w hw.1
    subst e
    rw [r w']
    simp only [Sem.run_bind, hr, Result.andThen_ok, Sem.run_pure]
    exact ⟨rfl, rfl⟩
  · exact hk.elim
  · obtain ⟨v, hd, hc⟩ := hk
    refine ⟨v, dec_ok hd, fun w hw => ?_⟩
    rw [r w]
    refine ⟨rfl, (hc w hw.1).mono fun e w'' ⟨v', he, ho, hv, hh⟩ => ?_⟩
    subst hv
    exact ⟨he, hh, hw.2.trans ho⟩
  · exact hk.elim
  · exact hk.elim
  · exact hk.elim

theorem qsx_ok {n : Nat} {ops : Array Oper} {next : Env → H → Prop} {h : H} (w0 : World) {Qa : Act → Prop} (hQ : ∀ g a, Agree n a g → next g h → Qa a) :
    ∀ (l : List Oper) (g : Env) (a : Act), qsx P n ops.toList next h l g → Agree n a g → wpQuiet P ops (Cls h w0) Qa l a
  | [], g, a, hx, ha => hQ g a ha hx
  | o :: l, g, a, hx, ha => by
    unfold wpQuiet
    rw [wantx_ok ha]
    unfold qsx at hx
    cases hwx : wantx n ops.toList g o with
    | true =>
      rw [hwx] at hx
      simp only [if_true]
      have hx : opl P (evalE n g) o (leafQ P o.type h (fun v => reD P o v fun v => qsx P n ops.toList next h l (g.upd o.dst v)) (wrapN n)) := hx
      rw [← ha.eval] at hx
      obtain ⟨v, hn, hall⟩ := leafQ_ok (opl_ok hx) w0
      exact ⟨v, fun w hw => hall w hw, qsx_ok w0 hQ l _ _ (reD_ok hn) (ha.put o.dst v)⟩
    | false =>
      rw [hwx] at hx
      simp only [Bool.false_eq_true, if_false]
      exact qsx_ok w0 hQ l _ _ hx (ha.put o.dst undef)

/-- what holds of a region's operations outside a round holds within one -/
theorem opsIn_of_ops {ro : Option Nat} {ops : Array Oper} {Q : Exit → Act → World → Prop} (hq : ¬ LetsOut Q) (hnd : ∀ (i : Nat) (o : Oper) c, ops[i]? = some o → o.op ≠ .defer c) :
    ∀ (l : List Nat) (a : Act) (w : World), wpOps P ops Q l a w → wpOpsIn (Fr ro) 0 P ops Q l a w
  | [], a, w, h => h
  | i :: l, a, w, h => by
    simp only [wpOps] at h
    simp only [wpOpsIn]
    cases hi : ops[i]? with
    | none =>
      rw [hi] at h
      exact opsIn_of_ops hq hnd l a w h
    | some o =>
      rw [hi] at h
      simp only at h ⊢
      by_cases hw : Region.wanted o (yielded ops a.tmps) = true
      · simp only [hw, if_true] at h ⊢
        rcases h with h | ⟨_, h⟩
        · refine ⟨fun _ _ => trivial, ?_⟩
          rw [show (Fr ro).round = ro from rfl, Oper.semAt_eq ro a.eval o (fun c => hnd i o c hi)]
          unfold Oper.wp at h
          generalize (execOp a.eval o).run P w = r at h ⊢
          cases r with
          | halt x w' => cases x <;> first | exact h | exact h.elim
          | ok nx w' =>
            cases nx with
            | value v => exact opsIn_of_ops hq hnd l _ _ h
            | skip => exact opsIn_of_ops hq hnd l _ _ h
            | defer d => exact opsIn_of_ops hq hnd l _ _ h
            | enter f args =>
              refine ⟨(fun hd => by cases hd), calls_fr (Calls.mono h fun e w'' he => ?_)⟩
              cases e with
              | returned v => exact opsIn_of_ops hq hnd l _ _ he
              | panicked ch => exact he
              | outgrown => exact he
            | row row args =>
              refine ⟨(fun hd => by cases hd), fun c cs _ => ?_⟩
              obtain ⟨v, w'', hr, hs⟩ := h c cs
              exact ⟨v, w'', opsIn_of_ops hq hnd l _ _ hr, stepsIn_wide.2 hs⟩
            | _ => exact h.elim
        · exact absurd h hq
      · simp only [hw, Bool.false_eq_true, if_false] at h ⊢
        exact ⟨fun _ _ => trivial, opsIn_of_ops hq hnd l _ _ h⟩

def noDefer (l : List Oper) : Bool := l.all fun o => match o.op with | .defer _ => false | _ => true
theorem noDefer_ok {ops : Array Oper} (h : noDefer ops.toList = true) : ∀ (i : Nat) (o : Oper) c, ops[i]? = some o → o.op ≠ .defer c := by
  intro i o c hi e
  have hm : o ∈ ops.toList := by
    rw [← Array.getElem?_toList] at hi
    exact List.mem_of_getElem? hi
  have := (List.all_eq_true.1 h) o hm
  rw [e] at this
  cases this

theorem lift_noOut {n : Nat} {w0 : World} {Q : XPost} : ¬ LetsOut (lift n w0 Q) := fun ⟨_, _, h⟩ => h

/-- a region that draws its order and only reads -/
theorem drawx_ok {ro : Option Nat} {n id : Nat} {ops : Array Oper} {Q : XPost} {g : Env} {h : H} (hm : P.follows .mixedOrders = true)
    (hB : Region.lexB .any ops = true) (hnd : noDefer ops.toList = true) (hx : qsx P n ops.toList (Q .normal) h ops.toList g) (w0 w : World) (a : Act)
    (hw : w.heap = h) (ho : Outer w0 w) (ha : Agree n a g) : (Code.region id ops true).wpIn (Fr ro) 0 P (lift n w0 Q) a w := by
  refine wpIn_region_draw fun t => ?_
  refine opsIn_of_ops lift_noOut (noDefer_ok hnd) _ _ _ ?_
  simp only [Region.schedule, hm, Bool.true_or, if_true]
  refine wpAny_sound ops.size t _ a _ ?_
  simp only [Region.lexB, Bool.and_eq_true] at hB
  have hC : Cls h w0 { w with drawn := w.drawn + 1 } := ⟨hw, ho.tape, ho.os, ho.output⟩
  refine wpAny_of_quiet (C := Cls h w0) (Q := fun a' => ∀ w', Cls h w0 w' → lift n w0 Q .normal a' w') (fun _ w' hw' h => h w' hw') _ _ _ _ hC ?_
  have hq : wpQuiet P ops (Cls h w0) (fun a' => ∀ w', Cls h w0 w' → lift n w0 Q .normal a' w') ops.toList a :=
    qsx_ok w0 (fun g' a' ha' hn w' hw' => ⟨g', ha', by rw [hw'.1]; exact hn, hw'.2⟩) _ _ _ hx ha
  have := wpAnyQ_lex (C := Cls h w0) (md := .any) hB.1 ops.toList 0 (Array.replicate ops.size false) a (by simp) (by simpa using hB.2) hq
  simpa using this

/-- what is asked of code, whatever the world beside the heap -/
def wpC (ro : Option Nat) (P : Program) (n : Nat) (c : Code) (Q : XPost) (g : Env) (h : H) : Prop :=
  ∀ (w0 w : World) (a : Act), w.heap = h → Outer w0 w → Agree n a g → c.wpIn (Fr ro) 0 P (lift n w0 Q) a w

def thenX (next : Env → H → Prop) (Q : XPost) : XPost
  | .normal, g, h => next g h
  | e, g, h => Q e g h
def inBlockX (id : Nat) (Q : XPost) : XPost
  | .exit id', g, h => cond (Nat.beq id' id) (Q .normal g h) (Q (.exit id') g h)
  | e, g, h => Q e g h

theorem lift_mono {n : Nat} {w0 : World} {Q Q' : XPost} (hq : ∀ e g h, Q e g h → Q' e g h) : ∀ e a w, lift n w0 Q e a w → lift n w0 Q' e a w := by
  intro e a w h
  cases e <;> first | exact h | (obtain ⟨g, ha, hx, ho⟩ := h; exact ⟨g, ha, hq _ _ _ hx, ho⟩)
theorem wpC.mono {ro : Option Nat} {n : Nat} {c : Code} {Q Q' : XPost} {g : Env} {h : H} (hx : wpC ro P n c Q g h) (hq : ∀ e g h, Q e g h → Q' e g h) : wpC ro P n c Q' g h :=
  fun w0 w a hw ho ha => wpIn_mono (hx w0 w a hw ho ha) (lift_mono hq)

section rules
variable {ro : Option Nat} {n : Nat} {Q : XPost} {g : Env} {h : H}
theorem wpC_skip (hx : Q .normal g h) : wpC ro P n .skip Q g h := fun w0 w a hw ho ha => wpIn_skip ⟨g, ha, by rw [hw]; exact hx, ho⟩
theorem wpC_label {l : Nat} (hx : Q .normal g h) : wpC ro P n (.label l) Q g h := fun w0 w a hw ho ha => wpIn_label ⟨g, ha, by rw [hw]; exact hx, ho⟩
theorem wpC_exit {id : Nat} (hx : Q (.exit id) g h) : wpC ro P n (.exit id) Q g h := fun w0 w a hw ho ha => wpIn_exit ⟨g, ha, by rw [hw]; exact hx, ho⟩
theorem wpC_goto {l : Nat} (hx : Q (.goto l) g h) : wpC ro P n (.goto l) Q g h := fun w0 w a hw ho ha => wpIn_goto ⟨g, ha, by rw [hw]; exact hx, ho⟩
theorem wpC_ret (hx : Q .ret g h) : wpC ro P n .ret Q g h := fun w0 w a hw ho ha => wpIn_ret ⟨g, ha, by rw [hw]; exact hx, ho⟩
theorem wpC_seq {x y : Code} (hx : wpC ro P n x (thenX (wpC ro P n y Q) Q) g h) : wpC ro P n (.seq x y) Q g h := fun w0 w a hw ho ha =>
  wpIn_seq (wpIn_mono (hx w0 w a hw ho ha) fun e a' w' he => by
    cases e <;> first
      | exact he
      | (obtain ⟨g', ha', hx', ho'⟩ := he; exact hx' w0 w' a' rfl ho' ha'))
theorem wpC_cond {c : Operand} {x y : Code} {b : Bool} (hc : evalE n g c = .bool b) (hx : cond b (wpC ro P n x Q g h) (wpC ro P n y Q g h)) : wpC ro P n (.cond c x y) Q g h :=
  fun w0 w a hw ho ha => wpIn_cond (t := b) (by rw [ha.eval]; exact hc) (by cases b <;> exact hx w0 w a hw ho ha)
theorem wpC_block {id : Nat} {c : Code} (hx : wpC ro P n c (inBlockX id Q) g h) : wpC ro P n (.block id c) Q g h := fun w0 w a hw ho ha =>
  wpIn_block (wpIn_mono (hx w0 w a hw ho ha) fun e a' w' he => by
    cases e with
    | exit id' =>
      obtain ⟨g', ha', hx', ho'⟩ := he
      show (if id' = id then _ else _)
      have hx' : cond (Nat.beq id' id) (Q .normal g' w'.heap) (Q (.exit id') g' w'.heap) := hx'
      by_cases e : id' = id
      · rw [if_pos e]
        rw [e, Nat.beq_refl] at hx'
        exact ⟨g', ha', hx', ho'⟩
      · rw [if_neg e]
        have hb : Nat.beq id' id = false := by
          cases hb : Nat.beq id' id with
          | false => rfl
          | true => exact absurd (Nat.eq_of_beq_eq_true hb) e
        rw [hb] at hx'
        exact ⟨g', ha', hx', ho'⟩
    | _ => exact he)
/-- a loop, with fuel -/
theorem wpC_loop {c : Code} (R : Nat → Env → H → Prop) (h0 : ∀ g h, ¬ R 0 g h) (hs : ∀ k g h, R (k + 1) g h → wpC ro P n c (thenX (R k) Q) g h) (k : Nat) (hx : R k g h) :
    wpC ro P n (.loop c) Q g h := fun w0 w a hw ho ha => by
  refine wpIn_loop_rounds k ?_
  induction k generalizing g h w a with
  | zero => exact absurd hx (h0 _ _)
  | succ k ih =>
    refine wpIn_mono (hs k g h hx w0 w a hw ho ha) fun e a' w' he => ?_
    cases e <;> first
      | exact he
      | (obtain ⟨g', ha', hx', ho'⟩ := he; exact ih hx' w' a' rfl ho' ha')
end rules

end Go.Sh
