/- The shallow form of a function's code: words for values, memory and operations, and the walk's form of an operation. No condition. -/
import Derived.RangeFuncIn
import Derived.LoopNIn
import Derived.Deep.Quiet
import Derived.KernelRfl
import Derived.Walk3
import Derived.RowKit
namespace Go.Proofs
/-- a text's bytes -/
abbrev Bs := List UInt8
end Go.Proofs
namespace Go.Sh
open Go
set_option linter.unusedVariables false

abbrev H := Array Obj

/-- a block's first cell -/
abbrev Ad (b : Nat) : Addr := ⟨b, 0, none⟩
/-- the cell at an address -/
def cell (h : H) (a : Addr) : Option Value :=
  match h[a.block]? with
  | some (.cells c _ _) => if a.spot.isSome then none else c[a.off]?
  | _ => none
def iced (h : H) (a : Addr) : Bool :=
  match h[a.block]? with
  | some (.cells _ _ (lo, hi)) => lo ≤ a.off && a.off < hi
  | _ => false
def setc (h : H) (a : Addr) (v : Value) : H :=
  h.modify a.block fun
    | .cells c elem fz => .cells (if a.spot.isSome then c else c.setIfInBounds a.off v) elem fz
    | o => o

theorem cell_eq (w : World) (a : Addr) : w.cell? a = cell w.heap a := rfl
theorem frozen_eq (w : World) (a : Addr) : w.frozen? a = iced w.heap a := rfl
theorem setc_eq (w : World) (a : Addr) (v : Value) : (w.setCell a v).heap = setc w.heap a v := rfl

structure Outer (w w' : World) : Prop where
  tape : w'.tape = w.tape
  os : w'.os = w.os
  output : w'.output = w.output

theorem Outer.refl (w : World) : Outer w w := ⟨rfl, rfl, rfl⟩
theorem Outer.trans {a b c : World} (h : Outer a b) (k : Outer b c) : Outer a c := ⟨k.tape.trans h.tape, k.os.trans h.os, k.output.trans h.output⟩

/-- an operation's own run, whatever the world beside the heap -/
def SemH (P : Program) (m : Sem Value) (h : H) (K : Value → H → Prop) : Prop :=
  ∀ w : World, w.heap = h → ∃ v w', m.run P w = .ok v w' ∧ Outer w w' ∧ K v w'.heap
def SemU (P : Program) (m : Sem Unit) (h : H) (K : H → Prop) : Prop :=
  ∀ w : World, w.heap = h → ∃ w', m.run P w = .ok () w' ∧ Outer w w' ∧ K w'.heap
/-- one value, the heap left alone -/
def SemQ (P : Program) (m : Sem Value) (h : H) (K : Value → Prop) : Prop :=
  ∃ v, K v ∧ ∀ w : World, w.heap = h → ∃ w', m.run P w = .ok v w' ∧ w' = w
def HCalls (P : Program) (f : FuncId) (args : Array Value) (h : H) (K : Value → H → Prop) : Prop :=
  ∀ w : World, w.heap = h → Calls P f args w fun e w' => ∃ v, e = .returned v ∧ Outer w w' ∧ K v w'.heap
def QCalls (P : Program) (f : FuncId) (args : Array Value) (h : H) (K : Value → Prop) : Prop :=
  ∃ v, K v ∧ HCalls P f args h fun v' h' => v' = v ∧ h' = h

/-- a call of 'yield': a round of a loop over a function -/
def YCalls (P : Program) (l : Nat) (args : Array Value) (h : H) (K : Value → H → Prop) : Prop :=
  ∀ w : World, w.heap = h → ∃ fn tmps assign body, (Instr.yield l args).run P w = .ok (.round l fn tmps assign body) w ∧
    RoundIn Fence.wide 0 P l fn tmps assign body w fun e w' => ∃ v, e = .returned v ∧ Outer w w' ∧ K v w'.heap

theorem SemH.mono {P : Program} {m : Sem Value} {h : H} {K K' : Value → H → Prop} (hh : SemH P m h K) (hk : ∀ v h, K v h → K' v h) : SemH P m h K' :=
  fun w hw => let ⟨v, w', r, o, k⟩ := hh w hw; ⟨v, w', r, o, hk _ _ k⟩
theorem SemU.mono {P : Program} {m : Sem Unit} {h : H} {K K' : H → Prop} (hh : SemU P m h K) (hk : ∀ h, K h → K' h) : SemU P m h K' :=
  fun w hw => let ⟨w', r, o, k⟩ := hh w hw; ⟨w', r, o, hk _ k⟩
theorem HCalls.mono {P : Program} {f : FuncId} {args : Array Value} {h : H} {K K' : Value → H → Prop} (hh : HCalls P f args h K) (hk : ∀ v h, K v h → K' v h) : HCalls P f args h K' :=
  fun w hw => (hh w hw).mono fun _ _ ⟨v, e, o, k⟩ => ⟨v, e, o, hk _ _ k⟩

/-! ### Words of the shallow form -/
/-- a test -/
def Spl (p A B : Prop) : Prop := (p → A) ∧ (¬p → B)
/-- a sum that is in range -/
def Rng (k : IntKind) (n : Int) : Prop := k.min ≤ n ∧ n ≤ k.max
def vBool (v : Value) (k : Bool → Prop) : Prop :=
  match v with
  | .bool b => k b
  | _ => False
def vInt (kd : IntKind) (v : Value) (k : Int → Prop) : Prop :=
  match v with
  | .int k' n => if k' = kd then k n else False
  | _ => False
def vStr (v : Value) (k : List UInt8 → Prop) : Prop :=
  match v with
  | .string s => k s.data.toList
  | _ => False
def vSlice (v : Value) (k : Option Addr → Nat → Nat → Prop) : Prop :=
  match v with
  | .slice b n c => k b n c
  | _ => False
def vPtr (v : Value) (k : Option Addr → Prop) : Prop :=
  match v with
  | .pointer a => k a
  | _ => False
def vMap (v : Value) (k : Option Nat → Prop) : Prop :=
  match v with
  | .map r => k r
  | _ => False
def vSome (b : Option Addr) (k : Addr → Prop) : Prop :=
  match b with
  | some a => k a
  | none => False
def vAddr (v : Value) (k : Addr → Prop) : Prop :=
  match v with
  | .pointer a => vSome a k
  | _ => False
def vTup (v : Value) (k : List Value → Prop) : Prop :=
  match v with
  | .tuple s => k s.toList
  | _ => False
def vAgg (v : Value) (k : List Value → Prop) : Prop :=
  match v with
  | .agg s => k s.toList
  | _ => False
def uncons (l : List Value) (k : Value → List Value → Prop) : Prop :=
  match l with
  | a :: t => k a t
  | [] => False
def unnil (l : List Value) (p : Prop) : Prop :=
  match l with
  | [] => p
  | _ => False
/-- a string's value -/
abbrev S (l : List UInt8) : Value := .string ⟨⟨l⟩⟩
/-- a value of a scalar type, known by its constructor -/
def decD (d : Option TypeDesc) (v : Value) (k : Value → Prop) : Prop :=
  match d with
  | some .bool => vBool v fun b => k (.bool b)
  | some (.int kd) => vInt kd v fun n => k (.int kd n)
  | some .string => vStr v fun s => k (S s)
  | some (.slice _) => vSlice v fun b n c => k (.slice b n c)
  | some (.pointer _) => vPtr v fun a => k (.pointer a)
  | some (.map _ _) => vMap v fun r => k (.map r)
  | _ => k v
theorem decD_ok {d : Option TypeDesc} {v : Value} {k : Value → Prop} (h : decD d v k) : k v := by
  unfold decD at h
  split at h
  · unfold vBool at h; split at h <;> first | exact h | exact h.elim
  · unfold vInt at h
    split at h
    · split at h
      · rename_i e; subst e; exact h
      · exact h.elim
    · exact h.elim
  · unfold vStr at h
    split at h
    · exact h
    · exact h.elim
  · unfold vSlice at h
    split at h
    · exact h
    · exact h.elim
  · unfold vPtr at h
    split at h
    · exact h
    · exact h.elim
  · unfold vMap at h
    split at h
    · exact h
    · exact h.elim
  · exact h
def decL : List (Option TypeDesc) → List Value → (List Value → Prop) → Prop
  | [], l, k => unnil l (k [])
  | d :: ds, l, k => uncons l fun v t => decD d v fun v => decL ds t fun t => k (v :: t)
theorem decL_ok : ∀ {ds : List (Option TypeDesc)} {l : List Value} {k : List Value → Prop}, decL ds l k → k l
  | [], l, k, h => by
    unfold decL unnil at h
    split at h
    · exact h
    · exact h.elim
  | d :: ds, l, k, h => by
    unfold decL uncons at h
    split at h
    · rename_i v t
      have h2 := decD_ok h
      exact decL_ok (k := fun t => k (v :: t)) h2
    · exact h.elim

/-- the scalar types that a type's cells have -/
def flatT (P : Program) : Nat → TypeId → List (Option TypeDesc)
  | 0, _ => []
  | d + 1, t =>
    match P.underlying t with
    | some (.struct fs) => fs.toList.flatMap fun f => flatT P d f.type
    | some (.array n e) => (List.range n).flatMap fun _ => flatT P d e
    | x => [x]

/-- a Bool is parted at once -/
def splB (v : Value) (k : Value → Prop) : Prop := vBool v fun b => cond b (k (.bool true)) (k (.bool false))
theorem splB_ok {v : Value} {k : Value → Prop} (h : splB v k) : k v := by
  unfold splB vBool at h
  split at h
  · rename_i b
    cases b <;> exact h
  · exact h.elim
/-- a result's part -/
def decV (P : Program) (t : TypeId) (v : Value) (k : Value → Prop) : Prop :=
  match P.underlying t with
  | some (.struct _) => vAgg v fun l => decL (flatT P 9 t) l fun l => k (.agg ⟨l⟩)
  | d => decD d v k
theorem decV_ok {P : Program} {t : TypeId} {v : Value} {k : Value → Prop} (h : decV P t v k) : k v := by
  unfold decV at h
  split at h
  · unfold vAgg at h
    split at h
    · exact decL_ok (k := fun l => k (.agg ⟨l⟩)) h
    · exact h.elim
  · exact decD_ok h
def decVL (P : Program) : List TypeId → List Value → (List Value → Prop) → Prop
  | [], l, k => unnil l (k [])
  | t :: ts, l, k => uncons l fun v u => decV P t v fun v => decVL P ts u fun u => k (v :: u)
theorem decVL_ok {P : Program} : ∀ {ts : List TypeId} {l : List Value} {k : List Value → Prop}, decVL P ts l k → k l
  | [], l, k, h => by
    unfold decVL unnil at h
    split at h
    · exact h
    · exact h.elim
  | t :: ts, l, k, h => by
    unfold decVL uncons at h
    split at h
    · rename_i v u
      have h2 := decV_ok h
      exact decVL_ok (k := fun u => k (v :: u)) h2
    · exact h.elim
/-- a result of a type: known as far as its type says -/
def dec (P : Program) (t : TypeId) (v : Value) (k : Value → Prop) : Prop :=
  match P.underlying t with
  | some .bool => splB v k
  | some (.tuple ts) => cond ts.toList.isEmpty (k v) (vTup v fun l => decVL P ts.toList l fun l => k (.tuple ⟨l⟩))
  | _ => decV P t v k
theorem dec_ok {P : Program} {t : TypeId} {v : Value} {k : Value → Prop} (h : dec P t v k) : k v := by
  unfold dec at h
  split at h
  · exact splB_ok h
  · rename_i ts _
    cases hz : ts.toList.isEmpty with
    | true => rw [hz] at h; exact h
    | false =>
      rw [hz] at h
      have h : vTup v fun l => decVL P ts.toList l fun l => k (.tuple ⟨l⟩) := h
      unfold vTup at h
      split at h
      · exact decVL_ok (k := fun l => k (.tuple ⟨l⟩)) h
      · exact h.elim
  · exact decV_ok h
/-- of a value that is known: a Bool alone is parted -/
def fin (P : Program) (t : TypeId) (v : Value) (k : Value → Prop) : Prop :=
  match P.underlying t with
  | some .bool => splB v k
  | _ => k v
theorem fin_ok {P : Program} {t : TypeId} {v : Value} {k : Value → Prop} (h : fin P t v k) : k v := by
  unfold fin at h
  split at h
  · exact splB_ok h
  · exact h

/-- a cell's value, known as far as its type says -/
def lds (d : Option TypeDesc) (h : H) (a : Addr) (k : Value → Prop) : Prop :=
  match d with
  | some .bool => ∃ b, cell h a = some (.bool b) ∧ k (.bool b)
  | some (.int kd) => ∃ n, cell h a = some (.int kd n) ∧ k (.int kd n)
  | some .string => ∃ s, cell h a = some (S s) ∧ k (S s)
  | some (.slice _) => ∃ b n c, cell h a = some (.slice b n c) ∧ k (.slice b n c)
  | some (.pointer _) => ∃ p, cell h a = some (.pointer p) ∧ k (.pointer p)
  | some (.map _ _) => ∃ r, cell h a = some (.map r) ∧ k (.map r)
  | _ => ∃ v, cell h a = some v ∧ k v
theorem lds_ok {d : Option TypeDesc} {h : H} {a : Addr} {k : Value → Prop} (hh : lds d h a k) : ∃ v, cell h a = some v ∧ k v := by
  unfold lds at hh
  split at hh
  · obtain ⟨x, e, k⟩ := hh; exact ⟨_, e, k⟩
  · obtain ⟨x, e, k⟩ := hh; exact ⟨_, e, k⟩
  · obtain ⟨x, e, k⟩ := hh; exact ⟨_, e, k⟩
  · obtain ⟨x, y, z, e, k⟩ := hh; exact ⟨_, e, k⟩
  · obtain ⟨x, e, k⟩ := hh; exact ⟨_, e, k⟩
  · obtain ⟨x, e, k⟩ := hh; exact ⟨_, e, k⟩
  · obtain ⟨x, e, k⟩ := hh; exact ⟨_, e, k⟩
/-- a row of cells -/
def ldL (h : H) (a : Addr) : List (Option TypeDesc) → Nat → (List Value → Prop) → Prop
  | [], _, k => k []
  | d :: ds, i, k => lds d h (a.add i) fun v => ldL h a ds (i + 1) fun l => k (v :: l)
/-- a variable's value -/
def ldx (P : Program) (t : TypeId) (a : Addr) (h : H) (k : Value → Prop) : Prop :=
  match P.underlying t with
  | some (.struct _) => cond (Nat.beq (flatT P 9 t).length (P.cellsOf t)) (ldL h a (flatT P 9 t) 0 fun l => k (.agg ⟨l⟩)) False
  | some (.array _ _) => cond (Nat.beq (flatT P 9 t).length (P.cellsOf t)) (ldL h a (flatT P 9 t) 0 fun l => k (.agg ⟨l⟩)) False
  | some d => lds (some d) h a k
  | none => False
/-- a value of one cell -/
def oneC (v : Value) : Bool :=
  match v with
  | .agg _ => false
  | .tuple _ => false
  | _ => true
/-- new memory -/
def newx (h : H) (cs : Array Value) (t : TypeId) (k : Addr → H → Prop) : Prop := k ⟨h.size, 0, none⟩ (h.push (.cells cs t))
/-- a row of cells is written -/
def stL (a : Addr) : List Value → Nat → H → (H → Prop) → Prop
  | [], _, h, k => k h
  | v :: l, i, h, k => (∃ u, cell h (a.add i) = some u) ∧ iced h (a.add i) = false ∧ stL a l (i + 1) (setc h (a.add i) v) k

end Go.Sh
