/- Words for joining shallow forms piece by piece. No condition. -/
import Derived.Test.YtmnjhhgdhlgjfaaShO
namespace Go.Sh
open Go
set_option linter.unusedVariables false

def cFst : Code → Code
  | .seq a _ => a
  | .cond _ a _ => a
  | .block _ c => c
  | .loop c => c
  | .scope c => c
  | .rangeFunc _ _ a _ => a
  | c => c
def cSnd : Code → Code
  | .seq _ b => b
  | .cond _ _ b => b
  | .rangeFunc _ _ _ b => b
  | c => c
def bodyOf (f : Func) : Code := f.body.getD .skip

theorem upd_self {g : Env} {s : Nat} {x : Value} (h : g.v s = x) : g.upd (some s) x = g := by
  subst h
  unfold Env.upd
  have e : (fun j => cond (Nat.beq j s) (g.v s) (g.v j)) = g.v := by
    funext j
    cases hb : Nat.beq j s with
    | false => rfl
    | true => rw [Nat.eq_of_beq_eq_true hb]; rfl
  show (⟨fun j => cond (Nat.beq j s) (g.v s) (g.v j), g.ds⟩ : Env) = g
  rw [e]
theorem env_ds {g : Env} {d : List Deferred} (h : g.ds = d) : (⟨g.v, d⟩ : Env) = g := by subst h; rfl

/-- a call of a function's value that is not known -/
def CallV (P : Program) (ty : TypeId) (f : Value) (args : Array Value) (h : H) (next : Value → H → Prop) : Prop := funx P f args (leafM P ty h next)
def QCallV (P : Program) (ty : TypeId) (f : Value) (args : Array Value) (h : H) (next : Value → Prop) : Prop := funx P f args (leafQ P ty h next)
def nilDs (ds : List Deferred) (p : Prop) : Prop :=
  match ds with
  | [] => p
  | _ => False
theorem nilDs_ok {ds : List Deferred} {p : Prop} (h : nilDs ds p) : ds = [] ∧ p := by
  unfold nilDs at h
  split at h
  · exact ⟨rfl, h⟩
  · exact h.elim
theorem vBool_ok {v : Value} {k : Bool → Prop} (h : vBool v k) : ∃ x, v = .bool x ∧ k x := by
  unfold vBool at h
  split at h
  · exact ⟨_, rfl, h⟩
  · exact h.elim
theorem vInt_ok {kd : IntKind} {v : Value} {k : Int → Prop} (h : vInt kd v k) : ∃ x, v = .int kd x ∧ k x := by
  unfold vInt at h
  split at h
  · split at h
    · rename_i e; subst e; exact ⟨_, rfl, h⟩
    · exact h.elim
  · exact h.elim
theorem vStr_ok {v : Value} {k : List UInt8 → Prop} (h : vStr v k) : ∃ x, v = S x ∧ k x := by
  unfold vStr at h
  split at h
  · exact ⟨_, rfl, h⟩
  · exact h.elim
theorem vSlice_ok {v : Value} {k : Option Addr → Nat → Nat → Prop} (h : vSlice v k) : ∃ b n c, v = .slice b n c ∧ k b n c := by
  unfold vSlice at h
  split at h
  · exact ⟨_, _, _, rfl, h⟩
  · exact h.elim
theorem vPtr_ok {v : Value} {k : Option Addr → Prop} (h : vPtr v k) : ∃ x, v = .pointer x ∧ k x := by
  unfold vPtr at h
  split at h
  · exact ⟨_, rfl, h⟩
  · exact h.elim
theorem vMap_ok {v : Value} {k : Option Nat → Prop} (h : vMap v k) : ∃ x, v = .map x ∧ k x := by
  unfold vMap at h
  split at h
  · exact ⟨_, rfl, h⟩
  · exact h.elim
theorem vTup_ok {v : Value} {k : List Value → Prop} (h : vTup v k) : ∃ l, v = .tuple ⟨l⟩ ∧ k l := by
  unfold vTup at h
  split at h
  · exact ⟨_, rfl, h⟩
  · exact h.elim
theorem vAgg_ok {v : Value} {k : List Value → Prop} (h : vAgg v k) : ∃ l, v = .agg ⟨l⟩ ∧ k l := by
  unfold vAgg at h
  split at h
  · exact ⟨_, rfl, h⟩
  · exact h.elim
theorem uncons_ok {l : List Value} {k : Value → List Value → Prop} (h : uncons l k) : ∃ a t, l = a :: t ∧ k a t := by
  unfold uncons at h
  split at h
  · exact ⟨_, _, rfl, h⟩
  · exact h.elim
theorem unnil_ok {l : List Value} {p : Prop} (h : unnil l p) : l = [] ∧ p := by
  unfold unnil at h
  split at h
  · exact ⟨rfl, h⟩
  · exact h.elim

section
variable {ro : Option Nat} {P : Program} {n : Nat} {Q Q' : XPost} {g g' : Env} {h : H} {c : Code}
theorem wpC_of_wpx (hm : P.follows .mixedOrders = true) (hd : drawOK P c = true) (e : g' = g) (hx : wpx ro P n c Q g' h) : wpC ro P n c Q g h := by
  subst e; exact wpx_ok hm c Q _ h hd hx
theorem wpC_seq' {x y : Code} (hc : c = .seq x y) (hx : wpC ro P n x Q' g h) (hy : ∀ e g h, Q' e g h → thenX (wpC ro P n y Q) Q e g h) : wpC ro P n c Q g h := by
  subst hc; exact wpC_seq (hx.mono hy)
theorem wpC_block' {id : Nat} {x : Code} (hc : c = .block id x) (hx : wpC ro P n x Q' g h) (hy : ∀ e g h, Q' e g h → inBlockX id Q e g h) : wpC ro P n c Q g h := by
  subst hc; exact wpC_block (hx.mono hy)
theorem wpC_cond' {o : Operand} {x y : Code} {b : Bool} (hc : c = .cond o x y) (hb : evalE n g o = .bool b) (hx : b = true → wpC ro P n x Q g h) (hy : b = false → wpC ro P n y Q g h) : wpC ro P n c Q g h := by
  subst hc
  refine wpC_cond hb ?_
  cases b
  · exact hy rfl
  · exact hx rfl
theorem wpC_loop' {x : Code} (hc : c = .loop x) (R : Nat → Env → H → Prop) (h0 : ∀ g h, ¬ R 0 g h) (hs : ∀ k g h, R (k + 1) g h → wpC ro P n x (thenX (R k) Q) g h) (k : Nat) (hx : R k g h) : wpC ro P n c Q g h := by
  subst hc; exact wpC_loop R h0 hs k hx
end
end Go.Sh
