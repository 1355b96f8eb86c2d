import Derived.RangeFuncIn
import Derived.LoopNIn
import Derived.Deep.Quiet
import Derived.KernelRfl
import Derived.Walk3
import Derived.RowKit
import Derived.Laws.Sem
import Derived.Lib.Strings
import Derived.Laws.StructEq
import Derived.Laws.Externs
namespace Go.Proofs
abbrev Bs := List UInt8
end Go.Proofs
namespace Go.Sh
open Go
set_option linter.unusedVariables false
abbrev H := Array Obj
abbrev Ad (b : Nat) : Addr := ⟨b, 0, none⟩
def cell (h : H) (a : Addr) : Option Value :=
  match h[a.block]? with
  | some (.cells c _ _) => if a.spot.isSome then none else c[a.off]?
  | _ => none
def iced (h : H) (a : Addr) : Bool :=
  match h[a.block]? with
  | some (.cells _ _ (lo, hi)) => lo <= a.off && a.off < hi
  | _ => false
def setc (h : H) (a : Addr) (v : Value) : H :=
  h.modify a.block fun
    | .cells c elem fz => .cells (if a.spot.isSome then c else c.setIfInBounds a.off v) elem fz
    | o => o
theorem cell_eq (w : World) (a : Addr) : w.cell? a = cell w.heap a := rfl
theorem frozen_eq (w : World) (a : Addr) : w.frozen? a = iced w.heap a := rfl
theorem setc_eq (w : World) (a : Addr) (v : Value) : (w.setCell a v).heap = setc w.heap a v := rfl
structure Outer (w w' : World) : Prop where
  tape : w'.tape = w.tape
  os : w'.os = w.os
  output : w'.output = w.output
theorem Outer.refl (w : World) : Outer w w := ⟨rfl, rfl, rfl⟩
theorem Outer.trans {a b c : World} (h : Outer a b) (k : Outer b c) : Outer a c := ⟨k.tape.trans h.tape, k.os.trans h.os, k.output.trans h.output⟩
def SemH (P : Program) (m : Sem Value) (h : H) (K : Value -> H -> Prop) : Prop :=
  ∀ w : World, w.heap = h -> ∃ v w', m.run P w = .ok v w' /\ Outer w w' /\ K v w'.heap
def SemU (P : Program) (m : Sem Unit) (h : H) (K : H -> Prop) : Prop :=
  ∀ w : World, w.heap = h -> ∃ w', m.run P w = .ok () w' /\ Outer w w' /\ K w'.heap
def SemQ (P : Program) (m : Sem Value) (h : H) (K : Value -> Prop) : Prop :=
  ∃ v, K v /\ ∀ w : World, w.heap = h -> ∃ w', m.run P w = .ok v w' /\ w' = w
def HCalls (P : Program) (f : FuncId) (args : Array Value) (h : H) (K : Value -> H -> Prop) : Prop :=
  ∀ w : World, w.heap = h -> Calls P f args w fun e w' => ∃ v, e = .returned v /\ Outer w w' /\ K v w'.heap
def QCalls (P : Program) (f : FuncId) (args : Array Value) (h : H) (K : Value -> Prop) : Prop :=
  ∃ v, K v /\ HCalls P f args h fun v' h' => v' = v /\ h' = h
def YCalls (P : Program) (l : Nat) (args : Array Value) (h : H) (K : Value -> H -> Prop) : Prop :=
  ∀ w : World, w.heap = h -> ∃ fn tmps assign body, (Instr.yield l args).run P w = .ok (.round l fn tmps assign body) w /\
    RoundIn Fence.wide 0 P l fn tmps assign body w fun e w' => ∃ v, e = .returned v /\ Outer w w' /\ K v w'.heap
theorem SemH.mono {P : Program} {m : Sem Value} {h : H} {K K' : Value -> H -> Prop} (hh : SemH P m h K) (hk : ∀ v h, K v h -> K' v h) : SemH P m h K' :=
  fun w hw => let ⟨v, w', r, o, k⟩ := hh w hw; ⟨v, w', r, o, hk _ _ k⟩
theorem SemU.mono {P : Program} {m : Sem Unit} {h : H} {K K' : H -> Prop} (hh : SemU P m h K) (hk : ∀ h, K h -> K' h) : SemU P m h K' :=
  fun w hw => let ⟨w', r, o, k⟩ := hh w hw; ⟨w', r, o, hk _ k⟩
theorem HCalls.mono {P : Program} {f : FuncId} {args : Array Value} {h : H} {K K' : Value -> H -> Prop} (hh : HCalls P f args h K) (hk : ∀ v h, K v h -> K' v h) : HCalls P f args h K' :=
  fun w hw => (hh w hw).mono fun _ _ ⟨v, e, o, k⟩ => ⟨v, e, o, hk _ _ k⟩
def Spl (p A B : Prop) : Prop := (p -> A) /\ (¬p -> B)
def Rng (k : IntKind) (n : Int) : Prop := k.min <= n /\ n <= k.max
def vBool (v : Value) (k : Bool -> Prop) : Prop :=
  match v with
  | .bool b => k b
  | _ => False
def vInt (kd : IntKind) (v : Value) (k : Int -> Prop) : Prop :=
  match v with
  | .int k' n => if k' = kd then k n else False
  | _ => False
def vStr (v : Value) (k : List UInt8 -> Prop) : Prop :=
  match v with
  | .string s => k s.data.toList
  | _ => False
def vSlice (v : Value) (k : Option Addr -> Nat -> Nat -> Prop) : Prop :=
  match v with
  | .slice b n c => k b n c
  | _ => False
def vPtr (v : Value) (k : Option Addr -> Prop) : Prop :=
  match v with
  | .pointer a => k a
  | _ => False
def vMap (v : Value) (k : Option Nat -> Prop) : Prop :=
  match v with
  | .map r => k r
  | _ => False
def vSome (b : Option Addr) (k : Addr -> Prop) : Prop :=
  match b with
  | some a => k a
  | none => False
def vAddr (v : Value) (k : Addr -> Prop) : Prop :=
  match v with
  | .pointer a => vSome a k
  | _ => False
def vTup (v : Value) (k : List Value -> Prop) : Prop :=
  match v with
  | .tuple s => k s.toList
  | _ => False
def vAgg (v : Value) (k : List Value -> Prop) : Prop :=
  match v with
  | .agg s => k s.toList
  | _ => False
def uncons (l : List Value) (k : Value -> List Value -> Prop) : Prop :=
  match l with
  | a :: t => k a t
  | [] => False
def unnil (l : List Value) (p : Prop) : Prop :=
  match l with
  | [] => p
  | _ => False
abbrev S (l : List UInt8) : Value := .string ⟨⟨l⟩⟩
def decD (d : Option TypeDesc) (v : Value) (k : Value -> Prop) : Prop :=
  match d with
  | some .bool => vBool v fun b => k (.bool b)
  | some (.int kd) => vInt kd v fun n => k (.int kd n)
  | some .string => vStr v fun s => k (S s)
  | some (.slice _) => vSlice v fun b n c => k (.slice b n c)
  | some (.pointer _) => vPtr v fun a => k (.pointer a)
  | some (.map _ _) => vMap v fun r => k (.map r)
  | _ => k v
theorem decD_ok {d : Option TypeDesc} {v : Value} {k : Value -> Prop} (h : decD d v k) : k v := by
  unfold decD at h
  split at h
  · unfold vBool at h; split at h <;> first | exact h | exact h.elim
  · unfold vInt at h
    split at h
    · split at h
      · rename_i e; subst e; exact h
      · exact h.elim
    · exact h.elim
  · unfold vStr at h
    split at h
    · exact h
    · exact h.elim
  · unfold vSlice at h
    split at h
    · exact h
    · exact h.elim
  · unfold vPtr at h
    split at h
    · exact h
    · exact h.elim
  · unfold vMap at h
    split at h
    · exact h
    · exact h.elim
  · exact h
def decL : List (Option TypeDesc) -> List Value -> (List Value -> Prop) -> Prop
  | [], l, k => unnil l (k [])
  | d :: ds, l, k => uncons l fun v t => decD d v fun v => decL ds t fun t => k (v :: t)
theorem decL_ok : ∀ {ds : List (Option TypeDesc)} {l : List Value} {k : List Value -> Prop}, decL ds l k -> k l
  | [], l, k, h => by
    unfold decL unnil at h
    split at h
    · exact h
    · exact h.elim
  | d :: ds, l, k, h => by
    unfold decL uncons at h
    split at h
    · rename_i v t
      have h2 := decD_ok h
      exact decL_ok (k := fun t => k (v :: t)) h2
    · exact h.elim
def flatT (P : Program) : Nat -> TypeId -> List (Option TypeDesc)
  | 0, _ => []
  | d + 1, t =>
    match P.underlying t with
    | some (.struct fs) => fs.toList.flatMap fun f => flatT P d f.type
    | some (.array n e) => (List.range n).flatMap fun _ => flatT P d e
    | x => [x]
def splB (v : Value) (k : Value -> Prop) : Prop := vBool v fun b => cond b (k (.bool true)) (k (.bool false))
theorem splB_ok {v : Value} {k : Value -> Prop} (h : splB v k) : k v := by
  unfold splB vBool at h
  split at h
  · rename_i b
    cases b <;> exact h
  · exact h.elim
def decV (P : Program) (t : TypeId) (v : Value) (k : Value -> Prop) : Prop :=
  match P.underlying t with
  | some (.struct _) => vAgg v fun l => decL (flatT P 9 t) l fun l => k (.agg ⟨l⟩)
  | d => decD d v k
theorem decV_ok {P : Program} {t : TypeId} {v : Value} {k : Value -> Prop} (h : decV P t v k) : k v := by
  unfold decV at h
  split at h
  · unfold vAgg at h
    split at h
    · exact decL_ok (k := fun l => k (.agg ⟨l⟩)) h
    · exact h.elim
  · exact decD_ok h
def decVL (P : Program) : List TypeId -> List Value -> (List Value -> Prop) -> Prop
  | [], l, k => unnil l (k [])
  | t :: ts, l, k => uncons l fun v u => decV P t v fun v => decVL P ts u fun u => k (v :: u)
theorem decVL_ok {P : Program} : ∀ {ts : List TypeId} {l : List Value} {k : List Value -> Prop}, decVL P ts l k -> k l
  | [], l, k, h => by
    unfold decVL unnil at h
    split at h
    · exact h
    · exact h.elim
  | t :: ts, l, k, h => by
    unfold decVL uncons at h
    split at h
    · rename_i v u
      have h2 := decV_ok h
      exact decVL_ok (k := fun u => k (v :: u)) h2
    · exact h.elim
def dec (P : Program) (t : TypeId) (v : Value) (k : Value -> Prop) : Prop :=
  match P.underlying t with
  | some .bool => splB v k
  | some (.tuple ts) => cond ts.toList.isEmpty (k v) (vTup v fun l => decVL P ts.toList l fun l => k (.tuple ⟨l⟩))
  | _ => decV P t v k
theorem dec_ok {P : Program} {t : TypeId} {v : Value} {k : Value -> Prop} (h : dec P t v k) : k v := by
  unfold dec at h
  split at h
  · exact splB_ok h
  · rename_i ts _
    cases hz : ts.toList.isEmpty with
    | true => rw [hz] at h; exact h
    | false =>
      rw [hz] at h
      have h : vTup v fun l => decVL P ts.toList l fun l => k (.tuple ⟨l⟩) := h
      unfold vTup at h
      split at h
      · exact decVL_ok (k := fun l => k (.tuple ⟨l⟩)) h
      · exact h.elim
  · exact decV_ok h
def fin (P : Program) (t : TypeId) (v : Value) (k : Value -> Prop) : Prop :=
  match P.underlying t with
  | some .bool => splB v k
  | _ => k v
theorem fin_ok {P : Program} {t : TypeId} {v : Value} {k : Value -> Prop} (h : fin P t v k) : k v := by
  unfold fin at h
  split at h
  · exact splB_ok h
  · exact h
def lds (d : Option TypeDesc) (h : H) (a : Addr) (k : Value -> Prop) : Prop :=
  match d with
  | some .bool => ∃ b, cell h a = some (.bool b) /\ k (.bool b)
  | some (.int kd) => ∃ n, cell h a = some (.int kd n) /\ k (.int kd n)
  | some .string => ∃ s, cell h a = some (S s) /\ k (S s)
  | some (.slice _) => ∃ b n c, cell h a = some (.slice b n c) /\ k (.slice b n c)
  | some (.pointer _) => ∃ p, cell h a = some (.pointer p) /\ k (.pointer p)
  | some (.map _ _) => ∃ r, cell h a = some (.map r) /\ k (.map r)
  | _ => ∃ v, cell h a = some v /\ k v
theorem lds_ok {d : Option TypeDesc} {h : H} {a : Addr} {k : Value -> Prop} (hh : lds d h a k) : ∃ v, cell h a = some v /\ k v := by
  unfold lds at hh
  split at hh
  · obtain ⟨x, e, k⟩ := hh; exact ⟨_, e, k⟩
  · obtain ⟨x, e, k⟩ := hh; exact ⟨_, e, k⟩
  · obtain ⟨x, e, k⟩ := hh; exact ⟨_, e, k⟩
  · obtain ⟨x, y, z, e, k⟩ := hh; exact ⟨_, e, k⟩
  · obtain ⟨x, e, k⟩ := hh; exact ⟨_, e, k⟩
  · obtain ⟨x, e, k⟩ := hh; exact ⟨_, e, k⟩
  · obtain ⟨x, e, k⟩ := hh; exact ⟨_, e, k⟩
def ldL (h : H) (a : Addr) : List (Option TypeDesc) -> Nat -> (List Value -> Prop) -> Prop
  | [], _, k => k []
  | d :: ds, i, k => lds d h (a.add i) fun v => ldL h a ds (i + 1) fun l => k (v :: l)
def ldx (P : Program) (t : TypeId) (a : Addr) (h : H) (k : Value -> Prop) : Prop :=
  match P.underlying t with
  | some (.struct _) => cond (Nat.beq (flatT P 9 t).length (P.cellsOf t)) (ldL h a (flatT P 9 t) 0 fun l => k (.agg ⟨l⟩)) False
  | some (.array _ _) => cond (Nat.beq (flatT P 9 t).length (P.cellsOf t)) (ldL h a (flatT P 9 t) 0 fun l => k (.agg ⟨l⟩)) False
  | some d => lds (some d) h a k
  | none => False
def oneC (v : Value) : Bool :=
  match v with
  | .agg _ => false
  | .tuple _ => false
  | _ => true
def newx (h : H) (cs : Array Value) (t : TypeId) (k : Addr -> H -> Prop) : Prop := k ⟨h.size, 0, none⟩ (h.push (.cells cs t))
def stL (a : Addr) : List Value -> Nat -> H -> (H -> Prop) -> Prop
  | [], _, h, k => k h
  | v :: l, i, h, k => (∃ u, cell h (a.add i) = some u) /\ iced h (a.add i) = false /\ stL a l (i + 1) (setc h (a.add i) v) k
end Go.Sh
namespace Go.Sh
open Go
set_option linter.unusedVariables false
set_option linter.unusedSimpArgs false
structure Kont where
  val : Value -> Prop
  load : TypeId -> Addr -> Prop
  box : Array Value -> TypeId -> Prop
  sem : Sem Value -> Prop
  semU : Sem Unit -> Prop
  call : FuncId -> Array Value -> Prop
  row : Array Value -> TypeId -> Nat -> Prop
  yld : Nat -> Array Value -> Prop
  store : Addr -> List Value -> Prop
  wr : Bool := false
def wrapN (n : Nat) : Bool := false
def arith (k : IntKind) (r : Int) (K : Kont) : Prop :=
  cond (k.signed && !K.wr) (Rng k r /\ K.val (.int k r)) (K.val (.int k (k.wrap r)))
def cmpx (p : Prop) (K : Kont) : Prop := Spl p (K.val (.bool true)) (K.val (.bool false))
def ncmpx (p : Prop) (K : Kont) : Prop := Spl p (K.val (.bool false)) (K.val (.bool true))
def binS (op : BinOp) (t : TypeId) (x y : Operand) (a b : Value) : Sem Value := do eqGuard op t x y a b; binOp op t a b
def intx (op : BinOp) (t : TypeId) (x y : Operand) (k : IntKind) (a : Int) (k' : IntKind) (b : Int) (K : Kont) : Prop :=
  match op with
  | .shl => K.sem (binS op t x y (.int k a) (.int k' b))
  | .shr => K.sem (binS op t x y (.int k a) (.int k' b))
  | .add => if k = k' then arith k (a + b) K else False
  | .sub => if k = k' then arith k (a - b) K else False
  | .mul => if k = k' then arith k (a * b) K else False
  | .quo => if k = k' then b ≠ 0 /\ arith k (a.tdiv b) K else False
  | .rem => if k = k' then b ≠ 0 /\ K.val (.int k (a.tmod b)) else False
  | .eql => if k = k' then cmpx (a = b) K else False
  | .neq => if k = k' then ncmpx (a = b) K else False
  | .lss => if k = k' then cmpx (a < b) K else False
  | .leq => if k = k' then cmpx (a <= b) K else False
  | .gtr => if k = k' then cmpx (a > b) K else False
  | .geq => if k = k' then cmpx (a ≥ b) K else False
  | op => if k = k' then K.val (.int k (bits op k a b)) else False
def strx (op : BinOp) (t : TypeId) (x y : Operand) (a b : ByteArray) (K : Kont) : Prop :=
  match op with
  | .add => ((a.data.toList.length + b.data.toList.length : Nat) : Int) <= 9223372036854775807 /\ K.val (S (a.data.toList ++ b.data.toList))
  | .eql => cmpx (a.data.toList = b.data.toList) K
  | .neq => ncmpx (a.data.toList = b.data.toList) K
  | op => K.sem (binS op t x y (.string a) (.string b))
def boolx (P : Program) (op : BinOp) (t : TypeId) (x y : Operand) (a b : Bool) (K : Kont) : Prop :=
  match op, P.underlying t with
  | .eql, some .bool => K.val (.bool (a == b))
  | .neq, some .bool => K.val (.bool (!(a == b)))
  | op, _ => K.sem (binS op t x y (.bool a) (.bool b))
def binx (P : Program) (op : BinOp) (t : TypeId) (x y : Operand) (vx vy : Value) (K : Kont) : Prop :=
  match vx, vy with
  | .int k a, .int k' b => intx op t x y k a k' b K
  | .string a, .string b => strx op t x y a b K
  | .bool a, .bool b => boolx P op t x y a b K
  | vx, vy => K.sem (binS op t x y vx vy)
def unx (op : UnOp) (v : Value) (K : Kont) : Prop :=
  match op, v with
  | .not, .bool b => K.val (.bool (!b))
  | .neg, .int k n => arith k (0 - n) K
  | op, v => K.sem (Op.unary op v)
def IntKind.into (s d : IntKind) : Bool := decide (d.min <= s.min) && decide (s.max <= d.max)
def cvx (P : Program) (src dst : TypeId) (v : Value) (K : Kont) : Prop :=
  match P.underlying dst, v with
  | some (.int k), .int s n => cond (IntKind.into s k) (Rng k n /\ K.val (.int k n)) (K.val (.int k (k.wrap n)))
  | some .string, .string s => K.val (.string s)
  | _, v => K.sem (convert src dst v)
def lenx (P : Program) (t : TypeId) (args : Array Value) (ts : Array TypeId) (v : Value) (K : Kont) : Prop :=
  match P.underlying t, v with
  | some .string, .string s => K.val (.int .i64 s.data.toList.length)
  | some (.slice _), .slice _ n _ => K.val (.int .i64 n)
  | some (.array n _), _ => K.val (.int .i64 n)
  | _, v => K.sem (Builtin.len_ ts 0 args)
def builtinS (b : Builtin) (ts : Array TypeId) (ty : TypeId) (consts : Array Bool) (args : Array Value) : Option (Sem Value) :=
  match b with
  | .append => some (Builtin.append_ ts ty args)
  | .cap => some (Builtin.cap_ ts ty args)
  | .copy => some (Builtin.copy_ ts ty args)
  | .delete => some (Builtin.delete_ ts ty args)
  | .len => some (Builtin.len_ ts ty args)
  | .max => some (Builtin.max_ ts ty args)
  | .min => some (Builtin.min_ ts ty args)
  | .clear => some (Builtin.clear_ ts ty args)
  | _ => none
def headV (l : List Value) (k : Value -> Prop) : Prop :=
  match l with
  | a :: _ => k a
  | [] => False
def headT (l : List TypeId) (k : TypeId -> Prop) : Prop :=
  match l with
  | a :: _ => k a
  | [] => False
def mmx (P : Program) (l : List Value) (ts : Array TypeId) (ty : TypeId) (args : Array Value) (mn : Bool) (K : Kont) : Prop :=
  match l with
  | [.int k a, .int k' b] => if k = k' then K.val (.int k (cond mn (if b < a then b else a) (if b > a then b else a))) else False
  | _ => cond mn (K.sem (Builtin.min_ ts ty args)) (K.sem (Builtin.max_ ts ty args))
def externx (fn : Func) (args : Array Value) (K : Kont) : Prop :=
  cond (fn.body.isNone && !(fn.name == "runtime.NumGoroutine")) (match Extern.findNext fn, Extern.find fn with
    | none, some e => K.sem (e args)
    | _, _ => False) False
def enterx (P : Program) (f : FuncId) (args : Array Value) (K : Kont) : Prop :=
  match P.funcs[f]? with
  | some fn => cond (fn.body.isSome && !(fn.name == "runtime.NumGoroutine")) (K.call f args) (externx fn args K)
  | none => False
def amap {α β : Type} (f : α -> β) (a : Array α) : Array β := ⟨a.toList.map f⟩
theorem amap_eq {α β : Type} (f : α -> β) (a : Array α) : amap f a = a.map f := Array.ext' (by simp [amap])
def funx (P : Program) (f : Value) (args : Array Value) (K : Kont) : Prop :=
  match f with
  | .func (.func f) first captured => enterx P f ⟨first.toList ++ args.toList ++ captured.toList⟩ K
  | .func (.yield l) first _ => K.yld l ⟨first.toList ++ args.toList⟩
  | _ => False
def callx (P : Program) (ρ : Operand -> Value) (ty : TypeId) (c : Call) (K : Kont) : Prop :=
  match c.callee with
  | .builtin .len => headT c.argTypes.toList fun t => headV (amap ρ c.args).toList fun v => lenx P t (amap ρ c.args) c.argTypes v K
  | .builtin .min => mmx P (amap ρ c.args).toList c.argTypes ty (amap ρ c.args) true K
  | .builtin .max => mmx P (amap ρ c.args).toList c.argTypes ty (amap ρ c.args) false K
  | .builtin b =>
    match builtinS b c.argTypes ty (c.args.map fun | .const _ => true | _ => false) (amap ρ c.args) with
    | some m => K.sem m
    | none => False
  | .value f => funx P (ρ f) (amap ρ c.args) K
  | .invoke _ _ => False
def bndx (v : Option Value) (dflt : Int) (k : Int -> Prop) : Prop :=
  match v with
  | none => k dflt
  | some (.int _ i) => k i
  | _ => False
def sub (l : List UInt8) (a b : Int) : List UInt8 := (l.drop a.toNat).take (b.toNat - a.toNat)
def slcx (P : Program) (t : TypeId) (v : Value) (lo hi mx : Option Value) (K : Kont) : Prop :=
  match P.underlying t, v, mx with
  | some .string, .string s, none =>
    bndx hi s.data.toList.length fun b => bndx lo 0 fun a => (0 <= a /\ a <= b /\ b <= (s.data.toList.length : Int)) /\ K.val (S (sub s.data.toList a b))
  | some (.slice e), .slice base n c, none =>
    cond (P.info? e).isSome (bndx hi n fun b => bndx lo 0 fun a => (0 <= a /\ a <= b /\ b <= (c : Int)) /\
      K.val (.slice (if c = a.toNat then base else base.map (·.add (a.toNat * P.cellsOf e))) (b.toNat - a.toNat) (c - a.toNat))) False
  | some (.slice e), .slice base n c, some (.int _ m) =>
    match hi with
    | some (.int _ b) =>
      cond (P.info? e).isSome (bndx lo 0 fun a => (0 <= a /\ a <= b /\ b <= m /\ m <= (c : Int)) /\
        K.val (.slice (if m.toNat = a.toNat then base else base.map (·.add (a.toNat * P.cellsOf e))) (b.toNat - a.toNat) (m.toNat - a.toNat))) False
    | _ => False
  | _, _, _ => K.sem (Instr.sliceAt t v lo hi mx)
def iax (P : Program) (t : TypeId) (x i : Value) (K : Kont) : Prop :=
  match P.underlying t, x, i with
  | some (.slice e), .slice base n _, .int _ i => cond (P.info? e).isSome ((0 <= i /\ i < (n : Int)) /\ vSome base fun a => K.val (.pointer (some (a.add (i.toNat * P.cellsOf e))))) False
  | some (.array n e), .pointer a, .int _ i => cond (P.info? e).isSome ((0 <= i /\ i < (n : Int)) /\ vSome a fun a => K.val (.pointer (some (a.add (i.toNat * P.cellsOf e))))) False
  | _, x, i => K.sem (Instr.indexAt t x i)
def ixx (P : Program) (t : TypeId) (x i : Value) (K : Kont) : Prop :=
  match P.underlying t, x, i with
  | some .string, .string s, .int _ i => (0 <= i /\ i < (s.data.toList.length : Int)) /\ K.val (.int .u8 ((s.data.toList.getD i.toNat 0).toNat : Int))
  | _, x, i => K.sem (Instr.index t x i)
def fax (P : Program) (s : TypeId) (x : Value) (f : Nat) (K : Kont) : Prop :=
  match P.underlying s, x with
  | some (.struct fs), .pointer a => vSome a fun a =>
    match fs.toList[f]? with
    | some fd => cond (Nat.beq (P.cellsOf fd.type) 0) (K.sem (Instr.fieldAt s (.pointer (some a)) f)) (K.val (.pointer (some (a.add fd.offset))))
    | none => False
  | _, x => K.sem (Instr.fieldAt s x f)
def isAggD (d : Option TypeDesc) : Bool :=
  match d with
  | some (.struct _) => true
  | some (.array _ _) => true
  | _ => false
def fldx (P : Program) (t : TypeId) (x : Value) (f : Nat) (K : Kont) : Prop :=
  match P.underlying t, x with
  | some (.struct fs), .agg cs =>
    match fs.toList[f]? with
    | some fd => cond (isAggD (P.underlying fd.type))
        (cond (P.info? fd.type).isSome (K.val (.agg ⟨(cs.toList.take (fd.offset + P.cellsOf fd.type)).drop fd.offset⟩)) False)
        (cond (P.underlying fd.type).isSome (match cs.toList[fd.offset]? with
          | some v => K.val v
          | none => False) False)
    | none => False
  | _, x => False
def zeroC (P : Program) (t : TypeId) : Option Value := (P.info? t).bind (·.zero)
def bldx (P : Program) (t : TypeId) (ps : Array (Nat × Value)) (K : Kont) : Prop :=
  match P.underlying t, zeroC P t with
  | some (.struct fs), some z =>
    cond (fs.toList.all fun f => (P.info? f.type).isSome)
      (match Instr.fill ((fs.map fun f => (f.offset, P.cellsOf f.type))[·]?) z.cells ps.toList with
        | some cs => K.val (.agg cs)
        | none => False) False
  | some (.array _ e), some z =>
    cond (P.info? e).isSome
      (match Instr.fill (fun i => some (i * P.cellsOf e, P.cellsOf e)) z.cells ps.toList with
        | some cs => K.val (.agg cs)
        | none => False) False
  | _, _ => False
def bslx (P : Program) (t : TypeId) (n : Nat) (ps : Array (Nat × Value)) (K : Kont) : Prop :=
  match P.underlying t with
  | some (.slice e) =>
    match P.info? e with
    | some i =>
      match i.zero with
      | some z =>
        cond (Nat.ble (n * i.size) 16777216)
          (match Instr.fill (fun j => some (j * i.size, i.size)) ((Array.range (n * i.size)).map (z.cells[· % z.cells.size]!)) ps.toList with
            | some cs => K.row cs e n
            | none => False) False
      | none => False
    | none => False
  | _ => False
def vNth (l : List Value) (i : Nat) (k : Value -> Prop) : Prop :=
  match l[i]? with
  | some v => k v
  | none => False
def extx (x : Value) (i : Nat) (K : Kont) : Prop := vTup x fun l => vNth l i K.val
def nilx (v : Value) (K : Kont) : Prop := vAddr v fun a => K.val (.pointer (some a))
def allocx (P : Program) (t : TypeId) (K : Kont) : Prop :=
  match P.info? t with
  | some i => match i.zero with
    | some v => K.box v.cells t
    | none => False
  | none => False
def opl (P : Program) (ρ : Operand -> Value) (o : Oper) (K : Kont) : Prop :=
  match o.op with
  | .move x => K.val (ρ x)
  | .assign x => K.val (ρ x)
  | .pick c a b => vBool (ρ c) fun t => K.val (cond t (ρ a) (ρ b))
  | .alloc t => allocx P t K
  | .box t v => K.box (ρ v).cells t
  | .load t a => vAddr (ρ a) fun a => K.load t a
  | .store t a x => vAddr (ρ a) fun a => cond (Nat.beq (ρ x).cells.toList.length (P.cellsOf t) && (P.info? t).isSome && (ρ x).cells.toList.all oneC) (K.store a (ρ x).cells.toList) False
  | .nilCheck x => nilx (ρ x) K
  | .binOp op t x y _ => binx P op t x y (ρ x) (ρ y) K
  | .unOp op _ x => unx op (ρ x) K
  | .convert s d x => cond (P.underlying s).isSome (cvx P s d (ρ x) K) False
  | .makeFunc fn first captured => K.val (.func fn (amap ρ first) (amap ρ captured))
  | .fieldAddr s x f => fax P s (ρ x) f K
  | .indexAddr t x i => iax P t (ρ x) (ρ i) K
  | .index t x i => ixx P t (ρ x) (ρ i) K
  | .slice t x lo hi mx => slcx P t (ρ x) (lo.map ρ) (hi.map ρ) (mx.map ρ) K
  | .field t x f => fldx P t (ρ x) f K
  | .extract x i => extx (ρ x) i K
  | .call c => callx P ρ o.type c K
  | .build t ps => bldx P t (amap (fun (i, x) => (i, ρ x)) ps) K
  | .buildSlice t n ps => bslx P t n (amap (fun (i, x) => (i, ρ x)) ps) K
  | .makeMap t r => K.sem (Instr.makeMap t (r.map ρ))
  | .makeSlice t l c => K.sem (Instr.makeSlice t (ρ l) (ρ c))
  | .lookup t x i ok => K.sem (Instr.lookup t (ρ x) (ρ i) ok)
  | .mapUpdate t m k x => K.semU (Instr.mapUpdate t (ρ m) (ρ k) (ρ x))
  | .insert t m k x => K.semU (Instr.mapUpdate t (ρ m) (ρ k) (ρ x))
  | .range t x => K.sem (Instr.range t (ρ x))
  | .next it s => K.sem (Instr.next (ρ it) s o.type)
  | .ready g => K.semU (Instr.ready g)
  | .waits g => K.sem (Instr.waits g)
  | _ => False
end Go.Sh
namespace Go.Sh
open Go
set_option linter.unusedVariables false
set_option linter.unusedSimpArgs false
variable {P : Program} {ρ : Operand -> Value} {o : Oper} {K : Kont}
def Ways (P : Program) (K : Kont) (s : Sem Next) : Prop :=
  (∃ v, K.val v /\ ∀ w, s.run P w = .ok (.value v) w) ∨
    (∃ t a, K.load t a /\ s = (do pure (.value (<- loadVar t a)))) ∨
    (∃ cs t, K.box cs t /\ ∀ w, s.run P w = .ok (.value (.pointer (some ⟨w.heap.size, 0, none⟩))) (w.alloc (.cells cs t))) ∨
    (∃ m, K.sem m /\ ∀ w, s.run P w = (do pure (.value (<- m)) : Sem Next).run P w) ∨
    (∃ m, K.semU m /\ ∀ w, s.run P w = (do m; pure .skip : Sem Next).run P w) ∨
    (∃ f args, K.call f args /\ ∀ w, s.run P w = .ok (.enter f args) w) ∨
    (∃ cs e n, K.row cs e n /\ ∀ w, s.run P w = .ok (.value (.slice (some ⟨w.heap.size, 0, none⟩) n n)) (w.alloc (.cells cs e))) ∨
    (∃ l args, K.yld l args /\ ∀ w, s.run P w = (Instr.yield l args).run P w) ∨
    (∃ a l, K.store a l /\ l.all oneC = true /\ ∀ w, s.run P w = (do storeCells a l; pure .skip : Sem Next).run P w)
variable {s : Sem Next}
theorem Ways.val {v : Value} (h : K.val v) (e : ∀ w, s.run P w = .ok (.value v) w) : Ways P K s := .inl ⟨v, h, e⟩
theorem Ways.sem {m : Sem Value} (h : K.sem m) (e : ∀ w, s.run P w = (do pure (.value (<- m)) : Sem Next).run P w) : Ways P K s := .inr (.inr (.inr (.inl ⟨m, h, e⟩)))
theorem Ways.semU {m : Sem Unit} (h : K.semU m) (e : ∀ w, s.run P w = (do m; pure .skip : Sem Next).run P w) : Ways P K s := .inr (.inr (.inr (.inr (.inl ⟨m, h, e⟩))))
theorem Ways.call {f : FuncId} {args : Array Value} (h : K.call f args) (e : ∀ w, s.run P w = .ok (.enter f args) w) : Ways P K s := .inr (.inr (.inr (.inr (.inr (.inl ⟨f, args, h, e⟩)))))
theorem wrap_ok {m : Sem Value} {v : Value} {w : World} (h : m.run P w = .ok v w) : (do pure (.value (<- m)) : Sem Next).run P w = .ok (.value v) w := by
  simp [Sem.run_bind, h]
theorem wrap_in {k : IntKind} {n : Int} (h : Rng k n) : k.wrap n = n := by
  obtain ⟨h1, h2⟩ := h
  cases k <;> simp [IntKind.wrap, IntKind.min, IntKind.max, IntKind.bits, IntKind.signed] at * <;> (try split) <;> omega
theorem arith_ok {k : IntKind} {r : Int} (h : arith k r K) : K.val (.int k (k.wrap r)) := by
  unfold arith at h
  cases hk : (k.signed && !K.wr) <;> rw [hk] at h
  · exact h
  · rw [wrap_in h.1]; exact h.2
theorem cmpx_ok {p : Prop} {K : Kont} (b : Bool) (e : b = true ↔ p) (h : cmpx p K) : K.val (.bool b) := by
  unfold cmpx Spl at h
  cases b with
  | true => exact h.1 (e.1 rfl)
  | false => exact h.2 fun hp => by have := e.2 hp; cases this
theorem ncmpx_ok {p : Prop} {K : Kont} (b : Bool) (e : b = true ↔ ¬p) (h : ncmpx p K) : K.val (.bool b) := by
  unfold ncmpx Spl at h
  cases b with
  | true => exact h.2 (e.1 rfl)
  | false =>
    by_cases hp : p
    · exact h.1 hp
    · have := e.2 hp; cases this
theorem eqGuard_int {op : BinOp} {t : TypeId} {x y : Operand} {k k' : IntKind} {a b : Int} {w : World} : (eqGuard op t x y (.int k a) (.int k' b)).run P w = .ok () w := by
  unfold eqGuard
  cases op <;> simp [Sem.run_bind]
theorem eqGuard_str {op : BinOp} {t : TypeId} {x y : Operand} {a b : ByteArray} {w : World} : (eqGuard op t x y (.string a) (.string b)).run P w = .ok () w := by
  unfold eqGuard
  cases op <;> simp [Sem.run_bind]
theorem binS_int {op : BinOp} {t : TypeId} {x y : Operand} {k : IntKind} {a b : Int} {w : World} : (binS op t x y (.int k a) (.int k b)).run P w = (binOp op t (.int k a) (.int k b)).run P w := by
  unfold binS
  rw [Sem.run_bind, eqGuard_int]
  rfl
theorem binS_str {op : BinOp} {t : TypeId} {x y : Operand} {a b : ByteArray} {w : World} : (binS op t x y (.string a) (.string b)).run P w = (binOp op t (.string a) (.string b)).run P w := by
  unfold binS
  rw [Sem.run_bind, eqGuard_str]
  rfl
theorem intx_ok {op : BinOp} {t : TypeId} {x y : Operand} {k k' : IntKind} {a b : Int} (h : intx op t x y k a k' b K) :
    Ways P K (do pure (.value (<- binS op t x y (.int k a) (.int k' b)))) := by
  by_cases e : k = k'
  · subst e
    have key : ∀ v, (∀ w, (binOp op t (.int k a) (.int k b)).run P w = .ok v w) -> K.val v -> Ways P K (do pure (.value (<- binS op t x y (.int k a) (.int k b)))) :=
      fun v hv hk => .val hk fun w => wrap_ok (binS_int.trans (hv w))
    cases op
    case shl => exact .sem h fun _ => rfl
    case shr => exact .sem h fun _ => rfl
    case add => simp only [intx, if_true] at h; exact key _ (fun w => by simp [binOp, Op.intArith]) (arith_ok h)
    case sub => simp only [intx, if_true] at h; exact key _ (fun w => by simp [binOp, Op.intArith]) (arith_ok h)
    case mul => simp only [intx, if_true] at h; exact key _ (fun w => by simp [binOp, Op.intArith]) (arith_ok h)
    case quo => simp only [intx, if_true] at h; exact key _ (fun w => by simp [binOp, Op.intDiv, h.1]) (arith_ok h.2)
    case rem => simp only [intx, if_true] at h; exact key _ (fun w => by simp [binOp, Op.intDiv, h.1]) h.2
    case eql => simp only [intx, if_true] at h; exact key _ (fun w => by simp [binOp, Op.intCmp]) (cmpx_ok (a == b) (by simp) h)
    case neq => simp only [intx, if_true] at h; exact key _ (fun w => by simp [binOp, Op.intCmp]) (ncmpx_ok (a != b) (by simp) h)
    case lss => simp only [intx, if_true] at h; exact key _ (fun w => by simp [binOp, Op.intCmp]) (cmpx_ok (decide (a < b)) (by simp) h)
    case leq => simp only [intx, if_true] at h; exact key _ (fun w => by simp [binOp, Op.intCmp]) (cmpx_ok (decide (a <= b)) (by simp) h)
    case gtr => simp only [intx, if_true] at h; exact key _ (fun w => by simp [binOp, Op.intCmp]) (cmpx_ok (decide (a > b)) (by simp) h)
    case geq => simp only [intx, if_true] at h; exact key _ (fun w => by simp [binOp, Op.intCmp]) (cmpx_ok (decide (a ≥ b)) (by simp) h)
    case and => simp only [intx, if_true] at h; exact key _ (fun w => by simp [binOp, Op.intBits, bits]) h
    case or => simp only [intx, if_true] at h; exact key _ (fun w => by simp [binOp, Op.intBits, bits]) h
    case xor => simp only [intx, if_true] at h; exact key _ (fun w => by simp [binOp, Op.intBits, bits]) h
    case andNot => simp only [intx, if_true] at h; exact key _ (fun w => by simp [binOp, Op.intBits, bits]) h
  · cases op
    case shl => exact .sem h fun _ => rfl
    case shr => exact .sem h fun _ => rfl
    all_goals (simp only [intx, if_neg e] at h)
theorem strx_ok {op : BinOp} {t : TypeId} {x y : Operand} {a b : ByteArray} (h : strx op t x y a b K) :
    Ways P K (do pure (.value (<- binS op t x y (.string a) (.string b)))) := by
  have key : ∀ v, (∀ w, (binOp op t (.string a) (.string b)).run P w = .ok v w) -> K.val v -> Ways P K (do pure (.value (<- binS op t x y (.string a) (.string b)))) :=
    fun v hv hk => .val hk fun w => wrap_ok (binS_str.trans (hv w))
  cases op
  case add =>
    obtain ⟨h1, h2⟩ := h
    refine key (S (a.data.toList ++ b.data.toList)) (fun w => ?_) h2
    have hm : IntKind.i64.max = 9223372036854775807 := by decide
    have e : ¬ ((a.size + b.size : Nat) : Int) > IntKind.i64.max := by
      rw [hm]
      have ha : a.size = a.data.toList.length := Lib.size_eq _
      have hb : b.size = b.data.toList.length := Lib.size_eq _
      omega
    simp only [binOp, Op.stringOp, if_neg e]
    refine congrArg (fun v => Result.ok v w) (congrArg Value.string ?_)
    exact ByteArray.ext (Array.ext' (by simp))
  case eql => exact key (.bool (a.toList == b.toList)) (fun w => rfl) (cmpx_ok (a.toList == b.toList) (by rw [Lib.toList_data, Lib.toList_data, beq_iff_eq]) h)
  case neq => exact key (.bool !(a.toList == b.toList)) (fun w => rfl) (ncmpx_ok (!(a.toList == b.toList)) (by rw [Lib.toList_data, Lib.toList_data, Bool.not_eq_true', beq_eq_false_iff_ne]) h)
  all_goals exact .sem h fun _ => rfl
theorem eqGuard_bool {op : BinOp} {t : TypeId} {x y : Operand} {a b : Bool} {w : World} : (eqGuard op t x y (.bool a) (.bool b)).run P w = .ok () w := by
  unfold eqGuard
  cases op <;> simp [Sem.run_bind]
theorem boolx_ok {op : BinOp} {t : TypeId} {x y : Operand} {a b : Bool} (h : boolx P op t x y a b K) : Ways P K (do pure (.value (<- binS op t x y (.bool a) (.bool b)))) := by
  have e : ∀ op w, (binS op t x y (.bool a) (.bool b)).run P w = (binOp op t (.bool a) (.bool b)).run P w := fun op w => by
    unfold binS
    rw [Sem.run_bind, eqGuard_bool]
    rfl
  unfold boolx at h
  split at h
  · rename_i hu
    refine .val h fun w => wrap_ok ((e _ w).trans ?_)
    simp only [binOp]
    simp [Op.equal, Op.maxDepth, run_equalIn_bool' w 9999 t a b hu]
  · rename_i hu
    refine .val h fun w => wrap_ok ((e _ w).trans ?_)
    simp only [binOp]
    simp [Op.equal, Op.maxDepth, run_equalIn_bool' w 9999 t a b hu]
  · exact .sem h fun _ => rfl
theorem binx_ok {op : BinOp} {t : TypeId} {x y : Operand} {vx vy : Value} (h : binx P op t x y vx vy K) :
    Ways P K (do pure (.value (<- binS op t x y vx vy))) := by
  unfold binx at h
  split at h
  · exact intx_ok h
  · exact strx_ok h
  · exact boolx_ok h
  · exact .sem h fun _ => rfl
theorem unx_ok {op : UnOp} {v : Value} (h : unx op v K) : Ways P K (do pure (.value (<- Op.unary op v))) := by
  unfold unx at h
  split at h
  · exact .val h fun w => wrap_ok rfl
  · exact .val (arith_ok h) fun w => wrap_ok rfl
  · exact .sem h fun _ => rfl
theorem run_und {t : TypeId} {d : TypeDesc} (h : P.underlying t = some d) (w : World) : (underlying t).run P w = .ok d w := by
  simp [underlying, Sem.run_bind, h]
theorem run_info {t : TypeId} {i : TypeInfo} (h : P.info? t = some i) (w : World) : (typeInfo t).run P w = .ok i w := by
  simp [typeInfo, Sem.run_bind, h]
theorem run_size {t : TypeId} {i : TypeInfo} (h : P.info? t = some i) (w : World) : (sizeOf t).run P w = .ok i.size w := by
  simp [sizeOf, Sem.run_bind, run_info h]
theorem cells_of {t : TypeId} {i : TypeInfo} (h : P.info? t = some i) : P.cellsOf t = i.size := by simp [Program.cellsOf, h]
theorem info_of_und {t : TypeId} {d : TypeDesc} (h : P.underlying t = some d) : ∃ i, P.info? t = some i := by
  unfold Program.underlying at h
  cases hi : P.info? t with
  | none => rw [hi] at h; simp at h
  | some i => exact ⟨i, rfl⟩
theorem cvx_ok {s d : TypeId} {v : Value} (h : cvx P s d v K) (hs : ∃ ds, P.underlying s = some ds) : Ways P K (do pure (.value (<- convert s d v))) := by
  obtain ⟨ds, hs⟩ := hs
  unfold cvx at h
  split at h
  · rename_i k s' n hd
    have hr : ∀ w, (convert s d (.int s' n)).run P w = .ok (.int k (k.wrap n)) w := fun w => by
      unfold convert
      rw [Sem.run_bind, run_und hs, Result.andThen_ok, Sem.run_bind, run_und hd, Result.andThen_ok]
      cases ds <;> simp [Conv.intToInt]
    unfold cond at h
    split at h
    · refine .val (v := .int k n) h.2 fun w => wrap_ok ?_
      rw [hr, wrap_in h.1]
    · exact .val h fun w => wrap_ok (hr w)
  · rename_i s' hd
    refine .val h fun w => wrap_ok ?_
    unfold convert
    rw [Sem.run_bind, run_und hs, Result.andThen_ok, Sem.run_bind, run_und hd, Result.andThen_ok]
    cases ds <;> simp
  · exact .sem h fun _ => rfl
theorem lenx_ok {t : TypeId} {ty : TypeId} {args : Array Value} {ts : Array TypeId} {v : Value} (ht : ts[0]? = some t) (hv : args[0]? = some v) (h : lenx P t args ts v K) :
    Ways P K (do pure (.value (<- Builtin.len_ ts ty args))) := by
  have hty : Builtin.len_ ts ty args = Builtin.len_ ts 0 args := rfl
  unfold lenx at h
  split at h
  · rename_i s hu
    refine .val h fun w => wrap_ok ?_
    unfold Builtin.len_
    simp only [ht, hv]
    rw [Sem.run_bind, run_und hu, Result.andThen_ok]
    show Result.ok (Value.int .i64 (s.size : Int)) w = _
    rw [Lib.size_eq]
  · rename_i e b n c hu
    refine .val h fun w => wrap_ok ?_
    unfold Builtin.len_
    simp only [ht, hv]
    rw [Sem.run_bind, run_und hu, Result.andThen_ok]
    simp [goInt]
  · rename_i n e x hu
    refine .val h fun w => wrap_ok ?_
    unfold Builtin.len_
    simp only [ht, hv]
    rw [Sem.run_bind, run_und hu, Result.andThen_ok]
    simp [goInt]
  · exact .sem h fun _ => rfl
theorem enterx_ok {f : FuncId} {args : Array Value} (h : enterx P f args K) : Ways P K (callFunc f args) := by
  unfold enterx at h
  split at h
  · rename_i fn hf
    unfold cond at h
    split at h
    · rename_i hc
      simp only [Bool.and_eq_true, Bool.not_eq_true'] at hc
      refine .call h fun w => ?_
      unfold callFunc
      rw [Sem.run_bind, run_program, Result.andThen_ok]
      simp only [hf]
      have hn : fn.body.isNone = false := by
        have := hc.1
        cases hb : fn.body <;> rw [hb] at this <;> simp at this ⊢
      rw [if_neg (by rw [hc.2]; simp), if_neg (by rw [hn]; simp)]
      rfl
    · unfold externx cond at h
      split at h
      · rename_i hc
        simp only [Bool.and_eq_true, Bool.not_eq_true'] at hc
        split at h
        · rename_i e hn he
          exact .sem h fun w => by rw [run_callFunc_extern hf hc.2 hc.1 hn he, Sem.run_bind]; rfl
        · exact h.elim
      · exact h.elim
  · exact h.elim
theorem Ways.of_run {s s' : Sem Next} (e : ∀ w, s'.run P w = s.run P w) (hl : (∃ t a, K.load t a /\ s = (do pure (.value (<- loadVar t a)))) -> s' = s) (h : Ways P K s) : Ways P K s' := by
  rcases h with ⟨v, h, r⟩ | hx | ⟨cs, t, h, r⟩ | ⟨m, h, r⟩ | ⟨m, h, r⟩ | ⟨f, args, h, r⟩ | ⟨cs, t, n, h, r⟩ | ⟨l, args, h, r⟩ | ⟨a, l, h, h1, r⟩
  · exact .inl ⟨v, h, fun w => (e w).trans (r w)⟩
  · rw [hl hx]; exact .inr (.inl hx)
  · exact .inr (.inr (.inl ⟨cs, t, h, fun w => (e w).trans (r w)⟩))
  · exact .sem h fun w => (e w).trans (r w)
  · exact .semU h fun w => (e w).trans (r w)
  · exact .call h fun w => (e w).trans (r w)
  · exact .inr (.inr (.inr (.inr (.inr (.inr (.inl ⟨cs, t, n, h, fun w => (e w).trans (r w)⟩))))))
  · exact .inr (.inr (.inr (.inr (.inr (.inr (.inr (.inl ⟨l, args, h, fun w => (e w).trans (r w)⟩)))))))
  · exact .inr (.inr (.inr (.inr (.inr (.inr (.inr (.inr ⟨a, l, h, h1, fun w => (e w).trans (r w)⟩)))))))
theorem bound_ok {k : IntKind} {i : Int} {y : Nat} {c : BoundsCode} {w : World} (h0 : 0 <= i) (h1 : i <= (y : Int)) : (Instr.sliceBound (.int k i) y c).run P w = .ok i.toNat w := by
  unfold Instr.sliceBound
  simp [asIntOf, Sem.run_bind, h0, h1]
theorem bndx_ok {v : Option Value} {d : Int} {k : Int -> Prop} (h : bndx v d k) : (v = none /\ k d) ∨ ∃ kd i, v = some (.int kd i) /\ k i := by
  unfold bndx at h
  split at h
  · exact .inl ⟨rfl, h⟩
  · exact .inr ⟨_, _, rfl, h⟩
  · exact h.elim
theorem bounds2_ok {sl : Bool} {len cap : Nat} {lo hi : Option Value} {w : World} {a b : Int} {kl kh : IntKind}
    (hh : (hi = none /\ b = (len : Int)) ∨ hi = some (.int kh b)) (hl : (lo = none /\ a = 0) ∨ lo = some (.int kl a)) (h0 : 0 <= a) (h1 : a <= b) (h2 : b <= (cap : Int)) :
    (Instr.sliceBounds sl len cap lo hi none).run P w = .ok (a.toNat, b.toNat, cap) w := by
  unfold Instr.sliceBounds
  rcases hh with ⟨rfl, rfl⟩ | rfl
  · rcases hl with ⟨rfl, rfl⟩ | rfl
    · simp [Sem.run_bind]
    · simp [Sem.run_bind, bound_ok h0 h1]
  · rcases hl with ⟨rfl, rfl⟩ | rfl
    · simp [Sem.run_bind, bound_ok (Int.le_trans h0 h1) h2]
    · have e : a <= (b.toNat : Int) := by omega
      simp [Sem.run_bind, bound_ok (Int.le_trans h0 h1) h2, bound_ok h0 e]
theorem bounds3_ok {sl : Bool} {len cap : Nat} {lo : Option Value} {w : World} {a b m : Int} {kl kh km : IntKind}
    (hl : (lo = none /\ a = 0) ∨ lo = some (.int kl a)) (h0 : 0 <= a) (h1 : a <= b) (h2 : b <= m) (h3 : m <= (cap : Int)) :
    (Instr.sliceBounds sl len cap lo (some (.int kh b)) (some (.int km m))).run P w = .ok (a.toNat, b.toNat, m.toNat) w := by
  unfold Instr.sliceBounds
  have e1 : b <= (m.toNat : Int) := by omega
  rcases hl with ⟨rfl, rfl⟩ | rfl
  · simp [Sem.run_bind, bound_ok (by omega : 0 <= m) h3, bound_ok (by omega : 0 <= b) e1]
  · have e : a <= (b.toNat : Int) := by omega
    simp [Sem.run_bind, bound_ok (by omega : 0 <= m) h3, bound_ok (by omega : 0 <= b) e1, bound_ok h0 e]
theorem slcx_ok {t : TypeId} {v : Value} {lo hi mx : Option Value} (h : slcx P t v lo hi mx K) : Ways P K (do pure (.value (<- Instr.sliceAt t v lo hi mx))) := by
  unfold slcx at h
  split at h
  · rename_i s hu
    have hs : (s.size : Int) = s.data.toList.length := by rw [Lib.size_eq]
    have main : ∀ (a b : Int) (kl kh : IntKind), ((hi = none /\ b = (s.size : Int)) ∨ hi = some (.int kh b)) -> ((lo = none /\ a = 0) ∨ lo = some (.int kl a)) ->
        (0 <= a /\ a <= b /\ b <= (s.data.toList.length : Int)) /\ K.val (S (sub s.data.toList a b)) -> Ways P K (do pure (.value (<- Instr.sliceAt t (.string s) lo hi none))) := by
      intro a b kl kh hh hl hx
      obtain ⟨⟨h0, h1, h2⟩, hk⟩ := hx
      refine .val hk fun w => wrap_ok ?_
      unfold Instr.sliceAt
      rw [Sem.run_bind, run_und hu, Result.andThen_ok]
      simp only
      unfold Instr.slice
      rw [Sem.run_bind, run_und hu, Result.andThen_ok]
      simp only [Option.isSome_none, Bool.false_eq_true, if_false]
      simp only [Sem.run_bind, Sem.run_pure, Result.andThen_ok]
      rw [bounds2_ok (kl := kl) (kh := kh) hh hl h0 h1 (by rw [hs]; exact h2)]
      simp only [Result.andThen_ok]
      have e : s.extract a.toNat b.toNat = ⟨⟨sub s.data.toList a b⟩⟩ := by
        refine ByteArray.ext (Array.ext' ?_)
        rw [Lib.extract_data]
        rfl
      rw [e]
    rcases bndx_ok h with ⟨hi0, h2⟩ | ⟨kh, b, hi0, h2⟩ <;> rcases bndx_ok h2 with ⟨lo0, h3⟩ | ⟨kl, a, lo0, h3⟩
    · exact main _ _ .i64 .i64 (.inl ⟨hi0, hs.symm⟩) (.inl ⟨lo0, rfl⟩) h3
    · exact main _ _ kl .i64 (.inl ⟨hi0, hs.symm⟩) (.inr lo0) h3
    · exact main _ _ .i64 kh (.inr hi0) (.inl ⟨lo0, rfl⟩) h3
    · exact main _ _ kl kh (.inr hi0) (.inr lo0) h3
  · rename_i e base n c hu
    cases hie : P.info? e with
    | none => rw [hie] at h; exact h.elim
    | some ie =>
    rw [hie] at h
    have h : (bndx hi n fun b => bndx lo 0 fun a => (0 <= a /\ a <= b /\ b <= (c : Int)) /\
      K.val (.slice (if c = a.toNat then base else base.map (·.add (a.toNat * P.cellsOf e))) (b.toNat - a.toNat) (c - a.toNat))) := h
    have main : ∀ (a b : Int) (kl kh : IntKind), ((hi = none /\ b = (n : Int)) ∨ hi = some (.int kh b)) -> ((lo = none /\ a = 0) ∨ lo = some (.int kl a)) ->
        (0 <= a /\ a <= b /\ b <= (c : Int)) /\ K.val (.slice (if c = a.toNat then base else base.map (·.add (a.toNat * P.cellsOf e))) (b.toNat - a.toNat) (c - a.toNat)) -> Ways P K (do pure (.value (<- Instr.sliceAt t (.slice base n c) lo hi none))) := by
      intro a b kl kh hh hl hx
      obtain ⟨⟨h0, h1, h2⟩, hk⟩ := hx
      refine .val hk fun w => wrap_ok ?_
      unfold Instr.sliceAt
      rw [Sem.run_bind, run_und hu, Result.andThen_ok]
      simp only
      unfold Instr.slice
      rw [Sem.run_bind, run_und hu, Result.andThen_ok]
      simp only [Sem.run_bind, Sem.run_pure, Result.andThen_ok]
      rw [bounds2_ok (kl := kl) (kh := kh) hh hl h0 h1 h2]
      simp only [Result.andThen_ok]
      rw [run_size hie, cells_of hie]
      rfl
    rcases bndx_ok h with ⟨hi0, h2⟩ | ⟨kh, b, hi0, h2⟩ <;> rcases bndx_ok h2 with ⟨lo0, h3⟩ | ⟨kl, a, lo0, h3⟩
    · exact main _ _ .i64 .i64 (.inl ⟨hi0, rfl⟩) (.inl ⟨lo0, rfl⟩) h3
    · exact main _ _ kl .i64 (.inl ⟨hi0, rfl⟩) (.inr lo0) h3
    · exact main _ _ .i64 kh (.inr hi0) (.inl ⟨lo0, rfl⟩) h3
    · exact main _ _ kl kh (.inr hi0) (.inr lo0) h3
  · rename_i e base n c km m hu
    split at h
    · rename_i kh b
      cases hie : P.info? e with
      | none => rw [hie] at h; exact h.elim
      | some ie =>
      rw [hie] at h
      have h : (bndx lo 0 fun a => (0 <= a /\ a <= b /\ b <= m /\ m <= (c : Int)) /\
        K.val (.slice (if m.toNat = a.toNat then base else base.map (·.add (a.toNat * P.cellsOf e))) (b.toNat - a.toNat) (m.toNat - a.toNat))) := h
      have main : ∀ (a : Int) (kl : IntKind), ((lo = none /\ a = 0) ∨ lo = some (.int kl a)) ->
          (0 <= a /\ a <= b /\ b <= m /\ m <= (c : Int)) /\ K.val (.slice (if m.toNat = a.toNat then base else base.map (·.add (a.toNat * P.cellsOf e))) (b.toNat - a.toNat) (m.toNat - a.toNat)) ->
          Ways P K (do pure (.value (<- Instr.sliceAt t (.slice base n c) lo (some (.int kh b)) (some (.int km m))))) := by
        intro a kl hl hx
        obtain ⟨⟨h0, h1, h2, h3⟩, hk⟩ := hx
        refine .val hk fun w => wrap_ok ?_
        unfold Instr.sliceAt
        rw [Sem.run_bind, run_und hu, Result.andThen_ok]
        simp only
        unfold Instr.slice
        rw [Sem.run_bind, run_und hu, Result.andThen_ok]
        simp only [Sem.run_bind, Sem.run_pure, Result.andThen_ok]
        rw [bounds3_ok (kl := kl) (kh := kh) (km := km) hl h0 h1 h2 h3]
        simp only [Result.andThen_ok]
        rw [run_size hie, cells_of hie]
        rfl
      rcases bndx_ok h with ⟨lo0, h3⟩ | ⟨kl, a, lo0, h3⟩
      · exact main _ .i64 (.inl ⟨lo0, rfl⟩) h3
      · exact main _ kl (.inr lo0) h3
    · exact h.elim
  · exact .sem h fun _ => rfl
theorem iax_ok {t : TypeId} {x i : Value} (h : iax P t x i K) : Ways P K (do pure (.value (<- Instr.indexAt t x i))) := by
  unfold iax at h
  split at h
  · rename_i e base n c ki i hu
    cases hie : P.info? e with
    | none => rw [hie] at h; exact h.elim
    | some ie =>
    rw [hie] at h
    obtain ⟨⟨h0, h1⟩, hk⟩ : (0 <= i /\ i < (n : Int)) /\ vSome base fun a => K.val (.pointer (some (a.add (i.toNat * P.cellsOf e)))) := h
    unfold vSome at hk
    split at hk
    · rename_i a
      refine .val hk fun w => wrap_ok ?_
      unfold Instr.indexAt
      simp only [asIntOf, Sem.run_bind, Sem.run_pure, Result.andThen_ok, run_und hu]
      rw [if_pos ⟨h0, h1⟩]
      simp only [Sem.run_bind, Sem.run_pure, Result.andThen_ok, run_size hie, cells_of hie]
    · exact hk.elim
  · rename_i n e a ki i hu
    cases hie : P.info? e with
    | none => rw [hie] at h; exact h.elim
    | some ie =>
    rw [hie] at h
    obtain ⟨⟨h0, h1⟩, hk⟩ : (0 <= i /\ i < (n : Int)) /\ vSome a fun a => K.val (.pointer (some (a.add (i.toNat * P.cellsOf e)))) := h
    unfold vSome at hk
    split at hk
    case h_2 => exact hk.elim
    refine .val hk fun w => wrap_ok ?_
    unfold Instr.indexAt
    simp only [asIntOf, Instr.sureAddr, Sem.run_bind, Sem.run_pure, Result.andThen_ok, run_und hu]
    rw [if_pos ⟨h0, h1⟩]
    simp only [Sem.run_bind, Sem.run_pure, Result.andThen_ok, run_size hie, cells_of hie]
  · exact .sem h fun _ => rfl
theorem ixx_ok {t : TypeId} {x i : Value} (h : ixx P t x i K) : Ways P K (do pure (.value (<- Instr.index t x i))) := by
  unfold ixx at h
  split at h
  · rename_i s ki i hu
    obtain ⟨⟨h0, h1⟩, hk⟩ := h
    refine .val hk fun w => wrap_ok ?_
    unfold Instr.index
    simp only [asIntOf, Sem.run_bind, Sem.run_pure, Result.andThen_ok, run_und hu]
    have hb : s[i.toNat]? = some (s.data.toList.getD i.toNat 0) := by
      have hlt : i.toNat < s.size := by rw [Lib.size_eq]; omega
      rw [getElem?_pos s i.toNat hlt]
      have : s.data.toList[i.toNat]? = some s[i.toNat] := by
        rw [List.getElem?_eq_getElem (by rw [<- Lib.size_eq]; exact hlt)]
        rfl
      rw [List.getD_eq_getElem?_getD, this]
      rfl
    rw [if_pos h0, hb]
    rfl
  · exact .sem h fun _ => rfl
theorem fax_ok {st : TypeId} {x : Value} {f : Nat} (h : fax P st x f K) : Ways P K (do pure (.value (<- Instr.fieldAt st x f))) := by
  unfold fax at h
  split at h
  · rename_i fs a hu
    unfold vSome at h
    split at h
    case h_2 => exact h.elim
    rename_i a
    split at h
    · rename_i fd hf
      have hf : fs[f]? = some fd := by rw [<- hf, Array.getElem?_toList]
      unfold cond at h
      split at h
      · exact .sem h fun _ => rfl
      · rename_i hz
        cases hi : P.info? fd.type with
        | none => simp [Program.cellsOf, hi, Nat.beq] at hz
        | some i =>
        refine .val h fun w => wrap_ok ?_
        unfold Instr.fieldAt
        simp only [Sem.run_bind, run_und hu, Result.andThen_ok, hf, Instr.sureAddr, Sem.run_pure]
        unfold fieldPlace
        simp only [Sem.run_bind, run_size hi, Result.andThen_ok]
        have hne : ¬ i.size = 0 := by
          intro e
          rw [cells_of hi, e] at hz
          simp at hz
        rw [if_neg hne]
        rfl
    · exact h.elim
  · exact .sem h fun _ => rfl
end Go.Sh
namespace Go.Sh
open Go
set_option linter.unusedVariables false
set_option linter.unusedSimpArgs false
variable {P : Program} {ρ : Operand -> Value} {o : Oper} {K : Kont} {s : Sem Next}
theorem wrap_ok2 {m : Sem Value} {v : Value} {w w' : World} (h : m.run P w = .ok v w') : (do pure (.value (<- m)) : Sem Next).run P w = .ok (.value v) w' := by
  simp [Sem.run_bind, h]
theorem isAgg_run {t : TypeId} {d : TypeDesc} (h : P.underlying t = some d) (w : World) : (isAgg t).run P w = .ok (isAggD (some d)) w := by
  unfold isAgg
  rw [Sem.run_bind, run_und h, Result.andThen_ok]
  cases d <;> rfl
theorem fldx_ok {t : TypeId} {x : Value} {f : Nat} (h : fldx P t x f K) : Ways P K (do pure (.value (<- Instr.field t x f))) := by
  unfold fldx at h
  split at h
  · rename_i fs cs hu
    split at h
    · rename_i fd hf
      have hf' : fs[f]? = some fd := by rw [<- hf, Array.getElem?_toList]
      cases hd : P.underlying fd.type with
      | none =>
        rw [hd] at h
        exact h.elim
      | some d =>
      have hpre : ∀ w, (Instr.field t (.agg cs) f).run P w = (part fd.type cs fd.offset).run P w := fun w => by
        unfold Instr.field
        simp only [Sem.run_bind, run_und hu, Result.andThen_ok, hf', Go.asAgg, Sem.run_pure]
      rw [hd] at h
      cases hia : isAggD (some d) with
      | true =>
        rw [hia] at h
        cases hi : P.info? fd.type with
        | none => rw [hi] at h; exact h.elim
        | some i =>
        rw [hi] at h
        refine .val (v := .agg ⟨(cs.toList.take (fd.offset + P.cellsOf fd.type)).drop fd.offset⟩) h fun w => wrap_ok ?_
        rw [hpre]
        unfold part
        rw [Sem.run_bind, isAgg_run hd, Result.andThen_ok, hia]
        simp only [if_true, Sem.run_bind, run_size hi, Result.andThen_ok, Sem.run_pure]
        refine congrArg (fun v => Result.ok v w) (congrArg Value.agg ?_)
        refine Array.ext' ?_
        simp [cells_of hi, List.drop_take]
      | false =>
        rw [hia] at h
        have h : (match cs.toList[fd.offset]? with
          | some v => K.val v
          | none => False) := h
        split at h
        · rename_i v hv
          refine .val h fun w => wrap_ok ?_
          rw [hpre]
          unfold part
          rw [Sem.run_bind, isAgg_run hd, Result.andThen_ok, hia]
          have hv' : cs[fd.offset]? = some v := by rw [<- hv, Array.getElem?_toList]
          simp [hv']
        · exact h.elim
    · exact h.elim
  · exact h.elim
theorem extx_ok {x : Value} {i : Nat} (h : extx x i K) : Ways P K (do pure (.value (<- Instr.extract x i))) := by
  unfold extx vTup at h
  split at h
  · rename_i vs
    unfold vNth at h
    split at h
    · rename_i v hv
      refine .val h fun w => wrap_ok ?_
      have hv' : vs[i]? = some v := by rw [<- hv, Array.getElem?_toList]
      simp [Instr.extract, hv']
    · exact h.elim
  · exact h.elim
theorem run_places {fs : List Field} (h : fs.all (fun f => (P.info? f.type).isSome) = true) (w : World) :
    (fs.mapM fun f => do pure (f.offset, <- sizeOf f.type) : Sem (List (Nat × Nat))).run P w = .ok (fs.map fun f => (f.offset, P.cellsOf f.type)) w := by
  induction fs with
  | nil => rfl
  | cons f fs ih =>
    simp only [List.all_cons, Bool.and_eq_true] at h
    obtain ⟨h1, h2⟩ := h
    cases hi : P.info? f.type with
    | none => rw [hi] at h1; cases h1
    | some i =>
    rw [List.mapM_cons]
    simp only [Sem.run_bind, run_size hi, Result.andThen_ok, Sem.run_pure, ih h2, List.map_cons, cells_of hi]
theorem run_zeroV {t : TypeId} {z : Value} (h : zeroC P t = some z) (w : World) : (zeroValue t).run P w = .ok z w := by
  unfold zeroC at h
  cases hi : P.info? t with
  | none => rw [hi] at h; cases h
  | some i =>
    rw [hi] at h
    have hz : i.zero = some z := h
    simp [zeroValue, Sem.run_bind, run_info hi, hz]
theorem bldx_ok {t : TypeId} {ps : Array (Nat × Value)} (h : bldx P t ps K) : Ways P K (do pure (.value (<- Instr.build t ps))) := by
  unfold bldx at h
  split at h
  · rename_i fs z hu hz
    unfold cond at h
    split at h
    · rename_i hall
      split at h
      · rename_i cs hf
        refine .val h fun w => wrap_ok ?_
        unfold Instr.build
        rw [Sem.run_bind, run_zeroV hz, Result.andThen_ok, Sem.run_bind, run_und hu, Result.andThen_ok]
        simp only
        have hp : (fs.mapM fun f => do pure (f.offset, <- sizeOf f.type) : Sem (Array (Nat × Nat))).run P w = .ok (fs.map fun f => (f.offset, P.cellsOf f.type)) w := by
          rw [<- Array.toArray_toList (xs := fs), List.mapM_toArray]
          rw [Sem.run_map, run_places hall]
          simp only [Result.andThen_ok]
          exact congrArg (fun v => Result.ok v w) (Array.ext' (by simp))
        rw [Sem.run_bind, hp, Result.andThen_ok]
        simp only [hf]
        rfl
      · exact h.elim
    · exact h.elim
  · rename_i n e z hu hz
    unfold cond at h
    split at h
    · rename_i hall
      cases hi : P.info? e with
      | none => rw [hi] at hall; cases hall
      | some i =>
      split at h
      · rename_i cs hf
        refine .val h fun w => wrap_ok ?_
        unfold Instr.build
        rw [Sem.run_bind, run_zeroV hz, Result.andThen_ok, Sem.run_bind, run_und hu, Result.andThen_ok]
        simp only
        rw [Sem.run_bind, run_size hi, Result.andThen_ok]
        rw [cells_of hi] at hf
        simp only [hf]
        rfl
      · exact h.elim
    · exact h.elim
  · exact h.elim
theorem bslx_ok {t : TypeId} {n : Nat} {ps : Array (Nat × Value)} (h : bslx P t n ps K) : Ways P K (do pure (.value (<- Instr.buildSlice t n ps))) := by
  unfold bslx at h
  split at h
  · rename_i e hu
    split at h
    · rename_i i hi
      split at h
      · rename_i z hz
        unfold cond at h
        split at h
        · rename_i hle
          split at h
          · rename_i cs hf
            refine .inr (.inr (.inr (.inr (.inr (.inr (.inl ⟨cs, e, n, h, fun w => wrap_ok2 ?_⟩))))))
            unfold Instr.buildSlice
            rw [Sem.run_bind, run_und hu, Result.andThen_ok]
            simp only
            rw [Sem.run_bind, run_size hi, Result.andThen_ok]
            have hle' : ¬ n * i.size > 2 ^ 24 := by
              have := Nat.le_of_ble_eq_true hle
              omega
            rw [if_neg hle']
            have hzr : (zeroValue e).run P w = .ok z w := by
              simp [zeroValue, Sem.run_bind, run_info hi, hz]
            by_cases h0 : n * i.size = 0
            · simp only [h0, if_true, Sem.run_bind, Sem.run_pure, Result.andThen_ok]
              rw [h0] at hf
              have e0 : ∀ g : Nat -> Value, (Array.range 0).map g = #[] := fun g => by simp
              rw [e0] at hf
              simp only [e0, hf]
              rfl
            · simp only [h0, if_false, Sem.run_bind, Sem.run_pure, Result.andThen_ok, hzr]
              simp only [hf]
              rfl
          · exact h.elim
        · exact h.elim
      · exact h.elim
    · exact h.elim
  · exact h.elim
theorem headV_ok {l : List Value} {k : Value -> Prop} (h : headV l k) : ∃ v t, l = v :: t /\ k v := by
  unfold headV at h
  split at h
  · exact ⟨_, _, rfl, h⟩
  · exact h.elim
theorem headT_ok {l : List TypeId} {k : TypeId -> Prop} (h : headT l k) : ∃ v t, l = v :: t /\ k v := by
  unfold headT at h
  split at h
  · exact ⟨_, _, rfl, h⟩
  · exact h.elim
theorem mmx_ok {l : List Value} {ts : Array TypeId} {ty : TypeId} {args : Array Value} {mn : Bool} (hl : args.toList = l) (h : mmx P l ts ty args mn K) :
    Ways P K (do pure (.value (<- cond mn (Builtin.min_ ts ty args) (Builtin.max_ ts ty args)))) := by
  unfold mmx at h
  split at h
  · rename_i k a k' b
    split at h
    · refine .val h fun w => wrap_ok ?_
      cases mn <;> simp [Builtin.min_, Builtin.max_, hl, Builtin.min2, Builtin.max2]
    · exact h.elim
  · cases mn
    · exact .sem h fun _ => rfl
    · exact .sem h fun _ => rfl
theorem argsE {ρ : Operand -> Value} {first captured : Array Value} {a : Array Operand} : (⟨first.toList ++ (amap ρ a).toList ++ captured.toList⟩ : Array Value) = (first ++ a.map ρ) ++ captured :=
  Array.ext' (by simp [amap])
theorem argsY {ρ : Operand -> Value} {first : Array Value} {a : Array Operand} : (⟨first.toList ++ (amap ρ a).toList⟩ : Array Value) = first ++ a.map ρ :=
  Array.ext' (by simp [amap])
theorem callx_ok {ty : TypeId} {c : Call} (h : callx P ρ ty c K) : Ways P K (do let d <- resolve ρ c ty; invoke d.target d.args) := by
  unfold callx at h
  split at h
  · rename_i hc
    obtain ⟨t, ts, ht, h⟩ := headT_ok h
    obtain ⟨v, vs, hv, h⟩ := headV_ok h
    have ht' : c.argTypes[0]? = some t := by rw [<- Array.getElem?_toList, ht]; rfl
    have hv' : (c.args.map ρ)[0]? = some v := by rw [<- amap_eq, <- Array.getElem?_toList, hv]; rfl
    rw [amap_eq] at h
    refine Ways.of_run (fun w => ?_) (fun ⟨_, _, _, e⟩ => ?_) (lenx_ok (ty := ty) ht' hv' h)
    · simp [resolve, hc, invoke, builtin, amap_eq]
    · simp [resolve, hc, invoke, builtin, amap_eq]
  · rename_i hc
    refine Ways.of_run (fun w => ?_) (fun ⟨_, _, _, e⟩ => ?_) (mmx_ok (args := amap ρ c.args) rfl h)
    · simp [resolve, hc, invoke, builtin, amap_eq]
    · simp [resolve, hc, invoke, builtin, amap_eq]
  · rename_i hc
    refine Ways.of_run (fun w => ?_) (fun ⟨_, _, _, e⟩ => ?_) (mmx_ok (args := amap ρ c.args) rfl h)
    · simp [resolve, hc, invoke, builtin, amap_eq]
    · simp [resolve, hc, invoke, builtin, amap_eq]
  · rename_i b h1 h2 h3 hc
    split at h
    · rename_i m hm
      refine .sem h fun w => ?_
      cases b <;> simp [builtinS] at hm <;> subst hm <;> simp [resolve, hc, invoke, builtin, amap_eq]
    · exact h.elim
  · rename_i f hc
    unfold funx at h
    split at h
    · rename_i g first captured hf
      rw [argsE] at h
      refine Ways.of_run (fun w => ?_) (fun ⟨_, _, _, e⟩ => ?_) (enterx_ok h)
      · simp [resolve, hc, hf, Deferred.ofValue, invoke]
      · simp [resolve, hc, hf, Deferred.ofValue, invoke]
    · rename_i l first captured hf
      refine .inr (.inr (.inr (.inr (.inr (.inr (.inr (.inl ⟨l, _, h, fun w => ?_⟩)))))))
      simp [resolve, hc, hf, Deferred.ofValue, invoke, argsY]
    · exact h.elim
  · exact h.elim
theorem allocx_ok {t : TypeId} (h : allocx P t K) : Ways P K (do pure (.value (<- Instr.alloc t true (.tuple #[])))) := by
  unfold allocx at h
  split at h
  · rename_i i hi
    split at h
    · rename_i z hz
      refine .inr (.inr (.inl ⟨z.cells, t, h, fun w => wrap_ok2 ?_⟩))
      have hzr : (zeroValue t).run P w = .ok z w := by simp [zeroValue, Sem.run_bind, run_info hi, hz]
      unfold Instr.alloc
      rw [Sem.run_bind, hzr, Result.andThen_ok]
      rfl
    · exact h.elim
  · exact h.elim
theorem vAddr_ok {v : Value} {k : Addr -> Prop} (h : vAddr v k) : ∃ a, v = .pointer (some a) /\ k a := by
  unfold vAddr vSome at h
  split at h
  · split at h
    · exact ⟨_, rfl, h⟩
    · exact h.elim
  · exact h.elim
theorem opl_ok (h : opl P ρ o K) : Ways P K (execOp ρ o) := by
  unfold opl at h
  unfold execOp
  split at h
  · rename_i hop; simp only [hop]; exact .val h fun _ => rfl
  · rename_i hop; simp only [hop]; exact .val h fun _ => rfl
  · rename_i hop
    simp only [hop]
    unfold vBool at h
    split at h
    · rename_i b hb
      refine .val h fun w => ?_
      rw [hb]
      cases b <;> simp [Go.asBool, Sem.run_bind]
    · exact h.elim
  · rename_i hop; simp only [hop]; exact allocx_ok h
  · rename_i t v hop
    simp only [hop]
    exact .inr (.inr (.inl ⟨_, t, h, fun w => wrap_ok2 rfl⟩))
  · rename_i t a hop
    simp only [hop]
    obtain ⟨a', ha, h⟩ := vAddr_ok h
    refine .inr (.inl ⟨t, a', h, ?_⟩)
    rw [ha]
    rfl
  · rename_i t a x hop
    simp only [hop]
    obtain ⟨a', ha, h⟩ := vAddr_ok h
    unfold cond at h
    split at h
    · rename_i hc
      simp only [Bool.and_eq_true] at hc
      obtain ⟨⟨hc1, hc2⟩, hc3⟩ := hc
      refine .inr (.inr (.inr (.inr (.inr (.inr (.inr (.inr ⟨a', _, h, hc3, fun w => ?_⟩)))))))
      cases hi : P.info? t with
      | none => rw [hi] at hc2; cases hc2
      | some i =>
      have e1 := Nat.eq_of_beq_eq_true hc1
      rw [cells_of hi, Array.length_toList] at e1
      rw [ha]
      simp only [Instr.storeAt, Instr.sureAddr, Sem.run_bind, Sem.run_pure, Result.andThen_ok, storeVar, run_size hi]
      rw [if_neg (by rw [e1]; simp)]
    · exact h.elim
  · rename_i x hop
    simp only [hop]
    obtain ⟨a', ha, h⟩ := vAddr_ok h
    rw [ha]
    exact .val h fun _ => rfl
  · rename_i hop; simp only [hop]; exact binx_ok h
  · rename_i hop; simp only [hop]; exact unx_ok h
  · rename_i s d x hop
    simp only [hop]
    cases hs : P.underlying s with
    | none => rw [hs] at h; exact h.elim
    | some ds => rw [hs] at h; exact cvx_ok h ⟨ds, hs⟩
  · rename_i hop; simp only [hop]; rw [amap_eq, amap_eq] at h; exact .val h fun _ => rfl
  · rename_i hop; simp only [hop]; exact fax_ok h
  · rename_i hop; simp only [hop]; exact iax_ok h
  · rename_i hop; simp only [hop]; exact ixx_ok h
  · rename_i hop; simp only [hop]; exact slcx_ok h
  · rename_i hop; simp only [hop]; exact fldx_ok h
  · rename_i hop; simp only [hop]; exact extx_ok h
  · rename_i hop; simp only [hop]; exact callx_ok h
  · rename_i hop; simp only [hop]; rw [amap_eq] at h; exact bldx_ok h
  · rename_i hop; simp only [hop]; rw [amap_eq] at h; exact bslx_ok h
  · rename_i hop; simp only [hop]; exact .sem h fun _ => rfl
  · rename_i hop; simp only [hop]; exact .sem h fun _ => rfl
  · rename_i hop; simp only [hop]; exact .sem h fun _ => rfl
  · rename_i hop; simp only [hop]; exact .semU h fun _ => rfl
  · rename_i hop; simp only [hop]; exact .semU h fun _ => rfl
  · rename_i hop; simp only [hop]; exact .sem h fun _ => rfl
  · rename_i hop; simp only [hop]; exact .sem h fun _ => rfl
  · rename_i hop; simp only [hop]; exact .semU h fun _ => rfl
  · rename_i hop; simp only [hop]; exact .sem h fun _ => rfl
  · exact h.elim
end Go.Sh
