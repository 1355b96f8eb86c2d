/- Words for joining walks: tests handed on, the library's contracts, a function's value, tuples; texts' places. No condition. -/
import Derived.Test.YtmnjhhgdhlgjfaaHmE
import Derived.Below
namespace Go.Sh
open Go Go.RowKit
set_option linter.unusedVariables false

theorem getD_get {α : Type} {l : List α} {i : Nat} {d : α} (hi : i < l.length) : l.getD i d = l[i] := by
  rw [List.getD_eq_getElem?_getD, List.getElem?_eq_getElem hi]; rfl
theorem getDN {α : Type} {l : List α} {i : Nat} {d : α} (hi : i < l.length) : l.getD (Int.toNat (i : Int)) d = l[i] := getD_get hi
theorem rng64 {n : Int} (h1 : -9223372036854775808 ≤ n) (h2 : n ≤ 9223372036854775807) : Rng .i64 n := ⟨h1, h2⟩
theorem vBool_mk {b : Bool} {k : Bool → Prop} (h : k b) : vBool (.bool b) k := h
theorem vIntMk {kd : IntKind} {i : Int} {k : Int → Prop} (h : k i) : vInt kd (.int kd i) k := by
  show (if kd = kd then k i else False)
  rw [if_pos rfl]; exact h
theorem vSliceMk {b : Option Addr} {n c : Nat} {k : Option Addr → Nat → Nat → Prop} (h : k b n c) : vSlice (.slice b n c) k := h
theorem vStrMk {s : List UInt8} {k : List UInt8 → Prop} (h : k s) : vStr (S s) k := h
theorem condB {b : Bool} {X Y : Prop} (x : b = true → X) (y : b = false → Y) : cond b X Y := by cases b <;> first | exact x rfl | exact y rfl
theorem condT {X Y : Prop} (x : X) : cond true X Y := x
theorem condF {X Y : Prop} (y : Y) : cond false X Y := y
theorem condK {b : Bool} {K : Bool → Prop} (h : K b) : cond b (K true) (K false) := by cases b <;> exact h
theorem splK {p : Prop} [Decidable p] {K : Bool → Prop} (h : K (decide p)) : Spl p (K true) (K false) := by
  by_cases e : p
  · rw [decide_eq_true e] at h; exact splT e h
  · rw [decide_eq_false e] at h; exact splF e h
theorem tupSI {s : List UInt8} {kd : IntKind} {c : Int} {k : List UInt8 → Int → Prop} (h : k s c) : vTup (.tuple ⟨[S s, .int kd c]⟩) fun l => uncons l fun e l => vStr e fun s => uncons l fun e l => vInt kd e fun i => unnil l (k s i) :=
  show vInt kd (.int kd c) fun i => k s i from vIntMk h
theorem tupII {ka kb : IntKind} {a c : Int} {k : Int → Int → Prop} (h : k a c) : vTup (.tuple ⟨[.int ka a, .int kb c]⟩) fun l => uncons l fun e l => vInt ka e fun s => uncons l fun e l => vInt kb e fun i => unnil l (k s i) :=
  show vInt ka (.int ka a) fun a => vInt kb (.int kb c) fun i => k a i from vIntMk (vIntMk h)
theorem tupIB {ka : IntKind} {a : Int} {b : Bool} {k : Int → Bool → Prop} (h : k a b) : vTup (.tuple ⟨[.int ka a, .bool b]⟩) fun l => uncons l fun e l => vInt ka e fun s => uncons l fun e l => vBool e fun i => unnil l (k s i) :=
  show vInt ka (.int ka a) fun a => k a b from vIntMk h
theorem tupSB {a : List UInt8} {b : Bool} {k : List UInt8 → Bool → Prop} (h : k a b) : vTup (.tuple ⟨[S a, .bool b]⟩) fun l => uncons l fun e l => vStr e fun s => uncons l fun e l => vBool e fun i => unnil l (k s i) := h

/-- a contract of the library's that leaves the world alone -/
theorem hcalls_of {P : Program} {f : FuncId} {args : Array Value} {h : H} {v : Value} {K : Value → H → Prop} (hc : ∀ w : World, w.heap = h → Calls P f args w fun e w' => e = .returned v ∧ w' = w) (hk : K v h) : HCalls P f args h K :=
  fun w hw => (hc w hw).mono fun e w' ⟨he, hw'⟩ => ⟨v, he, by rw [hw']; exact Outer.refl w, by rw [hw', hw]; exact hk⟩
/-- one that leaves the blocks that were -/
theorem hcalls_below {P : Program} {f : FuncId} {args : Array Value} {h : H} {v : Value} {K : Value → H → Prop} (hc : ∀ w : World, w.heap = h → Calls P f args w fun e w' => e = .returned v ∧ Below w.heap.size w w') (hk : ∀ h', KB h h' → K v h') : HCalls P f args h K :=
  fun w hw => (hc w hw).mono fun e w' ⟨he, b⟩ => ⟨v, he, ⟨b.tape, b.os, b.output⟩, hk _ (by rw [← hw]; exact ⟨b.size, fun k hk => b.block k hk⟩)⟩
/-- the library's variable -/
def ML (h : H) : Prop := ∃ m, cell h ⟨0, 0, none⟩ = some (.int .i64 m)
theorem ML.kb {h h' : H} (m : ML h) (k : KB h h') : ML h' := by
  obtain ⟨x, e⟩ := m
  exact ⟨x, (KB.w k).cell (cell_lt e) e⟩

/-- a call of a function's value -/
theorem callV_ok {P : Program} {ty : TypeId} {f : FuncId} {fn : Func} {pre post args : List Value} {h : H} {next : Value → H → Prop} (hf : P.funcs[f]? = some fn) (hb : (fn.body.isSome && !(fn.name == "runtime.NumGoroutine")) = true)
    (hc : HCalls P f ⟨pre ++ args ++ post⟩ h fun v h' => dec P ty v fun v => next v h') : CallV P ty (.func (.func f) ⟨pre⟩ ⟨post⟩) ⟨args⟩ h next := by
  unfold CallV
  show enterx P f ⟨pre ++ args ++ post⟩ (leafM P ty h next)
  unfold enterx
  simp only [hf, hb]
  exact hc
theorem decBool {P : Program} {t : TypeId} {b : Bool} {k : Value → Prop} (h : P.underlying t = some .bool) (hk : k (.bool b)) : dec P t (.bool b) k := by
  unfold dec
  rw [h]
  show cond b (k (.bool true)) (k (.bool false))
  cases b <;> exact hk
/-- a text's part -/
theorem sub_full (l : List UInt8) (i : Nat) (hi : i ≤ l.length) : sub l (i : Int) (l.length : Int) = l.drop i := by
  unfold sub
  simp only [Int.toNat_natCast]
  rw [List.take_of_length_le (by simp)]
theorem sub_zero (l : List UInt8) (i : Nat) : sub l 0 (i : Int) = l.take i := by
  unfold sub
  simp
theorem sub_nat (l : List UInt8) (i j : Nat) : sub l (i : Int) (j : Int) = (l.take j).drop i := by
  unfold sub
  simp only [Int.toNat_natCast]
  rw [List.drop_take]
end Go.Sh
