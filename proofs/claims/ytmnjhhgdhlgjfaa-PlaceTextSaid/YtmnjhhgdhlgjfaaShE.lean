/- The shallow form of code: frames, regions, ways out; and that it is sound. No condition. -/
import Derived.Test.YtmnjhhgdhlgjfaaShD
import Derived.Orders
namespace Go.Sh
open Go
set_option linter.unusedVariables false
set_option linter.unusedSimpArgs false

/-- the temporaries, and the calls that are deferred -/
structure Env where
  v : Nat → Value
  ds : List Deferred
def Env.upd (g : Env) (d : Option Nat) (x : Value) : Env :=
  match d with
  | some i => ⟨fun j => cond (Nat.beq j i) x (g.v j), g.ds⟩
  | none => g
def evalE (n : Nat) (g : Env) (x : Operand) : Value :=
  match x with
  | .tmp t => cond (Nat.blt t n) (g.v t) undef
  | .const v => v
  | .global k => .pointer (some ⟨k, 0, none⟩)
  | .func f => .func (.func f) #[] #[]
structure Agree (n : Nat) (a : Act) (g : Env) : Prop where
  ds : a.defers = g.ds
  size : a.tmps.size = n
  tmp : ∀ i, i < n → a.tmps.getD i undef = g.v i

theorem blt_yes {a b : Nat} (h : Nat.blt a b = true) : a < b := by rwa [Nat.blt_eq] at h
theorem blt_no {a b : Nat} (h : Nat.blt a b = false) : ¬ a < b := fun hl => by
  have h2 : Nat.blt a b = true := by rwa [Nat.blt_eq]
  rw [h] at h2
  cases h2

theorem Agree.eval {n : Nat} {a : Act} {g : Env} (h : Agree n a g) : a.eval = evalE n g := by
  funext x
  cases x with
  | tmp t =>
    show a.tmps.getD t undef = cond (Nat.blt t n) (g.v t) undef
    cases hb : Nat.blt t n with
    | true => exact h.tmp t (blt_yes hb)
    | false =>
      have hn : ¬ t < n := fun hl => blt_no hb hl
      rw [← h.size] at hn
      simp [Array.getD, hn]
  | const v => rfl
  | global k => rfl
  | func f => rfl
theorem Agree.put {n : Nat} {a : Act} {g : Env} (h : Agree n a g) (d : Option Nat) (v : Value) : Agree n (a.put d v) (g.upd d v) := by
  cases d with
  | none => exact h
  | some i =>
    refine ⟨h.ds, by simp [Act.put, h.size], fun j hj => ?_⟩
    show (a.tmps.setIfInBounds i v).getD j undef = cond (Nat.beq j i) v (g.v j)
    cases hb : Nat.beq j i with
    | true =>
      have e : j = i := Nat.eq_of_beq_eq_true hb
      subst e
      simp [Array.getD, h.size, hj]
    | false =>
      have e : i ≠ j := fun e => by
        subst e
        have : Nat.beq i i = true := Nat.beq_refl i
        rw [hb] at this; cases this
      have := h.tmp j hj
      have hs : (a.tmps.setIfInBounds i v)[j]? = a.tmps[j]? := Array.getElem?_setIfInBounds_ne e
      simp only [Array.getD_eq_getD_getElem?] at this ⊢
      rw [hs]; exact this

/-- is an operation carried out? -/
def wantx (n : Nat) (ops : List Oper) (g : Env) (o : Oper) : Bool :=
  match o.guard with
  | none => true
  | some (j, want) =>
    match ops[j]? with
    | some oj =>
      match oj.dst with
      | some d => cond (Nat.blt d n) (match g.v d with | .bool b => b == want | _ => false) false
      | none => false
    | none => false

theorem wantx_ok {n : Nat} {ops : Array Oper} {a : Act} {g : Env} {o : Oper} (h : Agree n a g) : Region.wanted o (yielded ops a.tmps) = wantx n ops.toList g o := by
  unfold Region.wanted wantx
  cases hg : o.guard with
  | none => rfl
  | some jw =>
    obtain ⟨j, want⟩ := jw
    simp only
    unfold yielded
    rw [Array.getElem?_toList]
    cases hj : ops[j]? with
    | none => rfl
    | some oj =>
      simp only [Option.bind_some]
      cases hd : oj.dst with
      | none => rfl
      | some d =>
        simp only [Option.bind_some]
        cases hb : Nat.blt d n with
        | true =>
          have hlt : d < n := blt_yes hb
          have ht := h.tmp d hlt
          have hs : a.tmps[d]? = some (g.v d) := by
            rw [Array.getElem?_eq_getElem (by rw [h.size]; exact hlt)]
            have : a.tmps.getD d undef = a.tmps[d]'(by rw [h.size]; exact hlt) := by simp [Array.getD, h.size, hlt]
            rw [← ht, this]
          rw [hs]
          cases g.v d <;> simp [cond]
        | false =>
          have hn : ¬ d < n := fun hl => blt_no hb hl
          have hs : a.tmps[d]? = none := Array.getElem?_eq_none (by rw [h.size]; exact Nat.le_of_not_lt hn)
          rw [hs]
          rfl

def leafM (P : Program) (ty : TypeId) (h : H) (next : Value → H → Prop) (wr : Bool := false) : Kont where
  wr := wr
  val v := fin P ty v fun v => next v h
  load t a := ldx P t a h fun v => fin P ty v fun v => next v h
  box cs t := newx h cs t fun a h' => next (.pointer (some a)) h'
  sem m := SemH P m h fun v h' => dec P ty v fun v => next v h'
  semU m := SemU P m h fun h' => next undef h'
  call f args := HCalls P f args h fun v h' => dec P ty v fun v => next v h'
  row cs e n := newx h cs e fun a h' => next (.slice (some a) n n) h'
  yld l args := YCalls P l args h fun v h' => dec P ty v fun v => next v h'
  store a l := stL a l 0 h fun h' => next undef h'
def leafQ (P : Program) (ty : TypeId) (h : H) (next : Value → Prop) (wr : Bool := false) : Kont where
  wr := wr
  val v := fin P ty v next
  load t a := ldx P t a h fun v => fin P ty v next
  box _ _ := False
  sem m := SemQ P m h fun v => dec P ty v next
  semU _ := False
  call f args := QCalls P f args h fun v => dec P ty v next
  row _ _ _ := False
  yld _ _ := False
  store _ _ := False

/-- what a function that is not known gives back: known as far as its type says -/
def reD (P : Program) (o : Oper) (v : Value) (k : Value → Prop) : Prop :=
  match o.op with
  | .call c =>
    match c.callee with
    | .value _ => dec P o.type v k
    | _ => k v
  | .range _ _ => vAddr v fun a => k (.pointer (some a))
  | .extract _ _ => decD (P.underlying o.type) v k
  | _ => k v
theorem reD_ok {P : Program} {o : Oper} {v : Value} {k : Value → Prop} (h : reD P o v k) : k v := by
  unfold reD at h
  split at h
  · split at h
    · exact dec_ok h
    · exact h
  · obtain ⟨a, rfl, h⟩ := vAddr_ok h
    exact h
  · exact decD_ok h
  · exact h
def opsx (P : Program) (n : Nat) (ops : List Oper) (next : Env → H → Prop) : List Oper → Env → H → Prop
  | [], g, h => next g h
  | o :: rest, g, h => cond (wantx n ops g o)
      (opl P (evalE n g) o (leafM P o.type h (fun v h' => reD P o v fun v => opsx P n ops next rest (g.upd o.dst v) h') (wrapN n)))
      (opsx P n ops next rest (g.upd o.dst undef) h)
def qsx (P : Program) (n : Nat) (ops : List Oper) (next : Env → H → Prop) (h : H) : List Oper → Env → Prop
  | [], g => next g h
  | o :: rest, g => cond (wantx n ops g o)
      (opl P (evalE n g) o (leafQ P o.type h (fun v => reD P o v fun v => qsx P n ops next h rest (g.upd o.dst v)) (wrapN n)))
      (qsx P n ops next h rest (g.upd o.dst undef))
end Go.Sh
