/- The shallow form of one operation, and that it says what the operation does. No condition. -/
import Derived.Test.YtmnjhhgdhlgjfaaShA
namespace Go.Sh
open Go
set_option linter.unusedVariables false
set_option linter.unusedSimpArgs false

/-- what may become of an operation -/
structure Kont where
  val : Value → Prop
  load : TypeId → Addr → Prop
  box : Array Value → TypeId → Prop
  sem : Sem Value → Prop
  semU : Sem Unit → Prop
  call : FuncId → Array Value → Prop
  row : Array Value → TypeId → Nat → Prop
  yld : Nat → Array Value → Prop
  store : Addr → List Value → Prop
  wr : Bool := false

/-- the functions whose sums may pass their range (by the number of their temporaries) -/
def wrapN (n : Nat) : Bool := false

def arith (k : IntKind) (r : Int) (K : Kont) : Prop :=
  cond (k.signed && !K.wr) (Rng k r ∧ K.val (.int k r)) (K.val (.int k (k.wrap r)))
def cmpx (p : Prop) (K : Kont) : Prop := Spl p (K.val (.bool true)) (K.val (.bool false))
def ncmpx (p : Prop) (K : Kont) : Prop := Spl p (K.val (.bool false)) (K.val (.bool true))
/-- what the program does to compare two values with '==' in the general case -/
def binS (op : BinOp) (t : TypeId) (x y : Operand) (a b : Value) : Sem Value := do eqGuard op t x y a b; binOp op t a b

def intx (op : BinOp) (t : TypeId) (x y : Operand) (k : IntKind) (a : Int) (k' : IntKind) (b : Int) (K : Kont) : Prop :=
  match op with
  | .shl => K.sem (binS op t x y (.int k a) (.int k' b))
  | .shr => K.sem (binS op t x y (.int k a) (.int k' b))
  | .add => if k = k' then arith k (a + b) K else False
  | .sub => if k = k' then arith k (a - b) K else False
  | .mul => if k = k' then arith k (a * b) K else False
  | .quo => if k = k' then b ≠ 0 ∧ arith k (a.tdiv b) K else False
  | .rem => if k = k' then b ≠ 0 ∧ K.val (.int k (a.tmod b)) else False
  | .eql => if k = k' then cmpx (a = b) K else False
  | .neq => if k = k' then ncmpx (a = b) K else False
  | .lss => if k = k' then cmpx (a < b) K else False
  | .leq => if k = k' then cmpx (a ≤ b) K else False
  | .gtr => if k = k' then cmpx (a > b) K else False
  | .geq => if k = k' then cmpx (a ≥ b) K else False
  | op => if k = k' then K.val (.int k (bits op k a b)) else False

def strx (op : BinOp) (t : TypeId) (x y : Operand) (a b : ByteArray) (K : Kont) : Prop :=
  match op with
  | .add => ((a.data.toList.length + b.data.toList.length : Nat) : Int) ≤ 9223372036854775807 ∧ K.val (S (a.data.toList ++ b.data.toList))
  | .eql => cmpx (a.data.toList = b.data.toList) K
  | .neq => ncmpx (a.data.toList = b.data.toList) K
  | op => K.sem (binS op t x y (.string a) (.string b))

def boolx (P : Program) (op : BinOp) (t : TypeId) (x y : Operand) (a b : Bool) (K : Kont) : Prop :=
  match op, P.underlying t with
  | .eql, some .bool => K.val (.bool (a == b))
  | .neq, some .bool => K.val (.bool (!(a == b)))
  | op, _ => K.sem (binS op t x y (.bool a) (.bool b))

def binx (P : Program) (op : BinOp) (t : TypeId) (x y : Operand) (vx vy : Value) (K : Kont) : Prop :=
  match vx, vy with
  | .int k a, .int k' b => intx op t x y k a k' b K
  | .string a, .string b => strx op t x y a b K
  | .bool a, .bool b => boolx P op t x y a b K
  | vx, vy => K.sem (binS op t x y vx vy)

def unx (op : UnOp) (v : Value) (K : Kont) : Prop :=
  match op, v with
  | .not, .bool b => K.val (.bool (!b))
  | .neg, .int k n => arith k (0 - n) K
  | op, v => K.sem (Op.unary op v)

/-- does every number of one kind lie in another one? -/
def IntKind.into (s d : IntKind) : Bool := decide (d.min ≤ s.min) && decide (s.max ≤ d.max)
def cvx (P : Program) (src dst : TypeId) (v : Value) (K : Kont) : Prop :=
  match P.underlying dst, v with
  | some (.int k), .int s n => cond (IntKind.into s k) (Rng k n ∧ K.val (.int k n)) (K.val (.int k (k.wrap n)))
  | some .string, .string s => K.val (.string s)
  | _, v => K.sem (convert src dst v)

def lenx (P : Program) (t : TypeId) (args : Array Value) (ts : Array TypeId) (v : Value) (K : Kont) : Prop :=
  match P.underlying t, v with
  | some .string, .string s => K.val (.int .i64 s.data.toList.length)
  | some (.slice _), .slice _ n _ => K.val (.int .i64 n)
  | some (.array n _), _ => K.val (.int .i64 n)
  | _, v => K.sem (Builtin.len_ ts 0 args)

/-- the builtins that only make a value -/
def builtinS (b : Builtin) (ts : Array TypeId) (ty : TypeId) (consts : Array Bool) (args : Array Value) : Option (Sem Value) :=
  match b with
  | .append => some (Builtin.append_ ts ty args)
  | .cap => some (Builtin.cap_ ts ty args)
  | .copy => some (Builtin.copy_ ts ty args)
  | .delete => some (Builtin.delete_ ts ty args)
  | .len => some (Builtin.len_ ts ty args)
  | .max => some (Builtin.max_ ts ty args)
  | .min => some (Builtin.min_ ts ty args)
  | .clear => some (Builtin.clear_ ts ty args)
  | _ => none

def headV (l : List Value) (k : Value → Prop) : Prop :=
  match l with
  | a :: _ => k a
  | [] => False
def headT (l : List TypeId) (k : TypeId → Prop) : Prop :=
  match l with
  | a :: _ => k a
  | [] => False

def mmx (P : Program) (l : List Value) (ts : Array TypeId) (ty : TypeId) (args : Array Value) (mn : Bool) (K : Kont) : Prop :=
  match l with
  | [.int k a, .int k' b] => if k = k' then K.val (.int k (cond mn (if b < a then b else a) (if b > a then b else a))) else False
  | _ => cond mn (K.sem (Builtin.min_ ts ty args)) (K.sem (Builtin.max_ ts ty args))

def enterx (P : Program) (f : FuncId) (args : Array Value) (K : Kont) : Prop :=
  match P.funcs[f]? with
  | some fn => cond (fn.body.isSome && !(fn.name == "runtime.NumGoroutine")) (K.call f args) False
  | none => False

/-- an array's map, as a list's -/
def amap {α β : Type} (f : α → β) (a : Array α) : Array β := ⟨a.toList.map f⟩
theorem amap_eq {α β : Type} (f : α → β) (a : Array α) : amap f a = a.map f := Array.ext' (by simp [amap])

def funx (P : Program) (f : Value) (args : Array Value) (K : Kont) : Prop :=
  match f with
  | .func (.func f) first captured => enterx P f ⟨first.toList ++ args.toList ++ captured.toList⟩ K
  | .func (.yield l) first _ => K.yld l ⟨first.toList ++ args.toList⟩
  | _ => False

def callx (P : Program) (ρ : Operand → Value) (ty : TypeId) (c : Call) (K : Kont) : Prop :=
  match c.callee with
  | .builtin .len => headT c.argTypes.toList fun t => headV (amap ρ c.args).toList fun v => lenx P t (amap ρ c.args) c.argTypes v K
  | .builtin .min => mmx P (amap ρ c.args).toList c.argTypes ty (amap ρ c.args) true K
  | .builtin .max => mmx P (amap ρ c.args).toList c.argTypes ty (amap ρ c.args) false K
  | .builtin b =>
    match builtinS b c.argTypes ty (c.args.map fun | .const _ => true | _ => false) (amap ρ c.args) with
    | some m => K.sem m
    | none => False
  | .value f => funx P (ρ f) (amap ρ c.args) K
  | .invoke _ _ => False

/-- a bound of a slice expression -/
def bndx (v : Option Value) (dflt : Int) (k : Int → Prop) : Prop :=
  match v with
  | none => k dflt
  | some (.int _ i) => k i
  | _ => False
/-- the bytes from one place up to another one -/
def sub (l : List UInt8) (a b : Int) : List UInt8 := (l.drop a.toNat).take (b.toNat - a.toNat)
def slcx (P : Program) (t : TypeId) (v : Value) (lo hi mx : Option Value) (K : Kont) : Prop :=
  match P.underlying t, v, mx with
  | some .string, .string s, none =>
    bndx hi s.data.toList.length fun b => bndx lo 0 fun a => (0 ≤ a ∧ a ≤ b ∧ b ≤ (s.data.toList.length : Int)) ∧ K.val (S (sub s.data.toList a b))
  | some (.slice e), .slice base n c, none =>
    cond (P.info? e).isSome (bndx hi n fun b => bndx lo 0 fun a => (0 ≤ a ∧ a ≤ b ∧ b ≤ (c : Int)) ∧
      K.val (.slice (if c = a.toNat then base else base.map (·.add (a.toNat * P.cellsOf e))) (b.toNat - a.toNat) (c - a.toNat))) False
  | some (.slice e), .slice base n c, some (.int _ m) =>
    match hi with
    | some (.int _ b) =>
      cond (P.info? e).isSome (bndx lo 0 fun a => (0 ≤ a ∧ a ≤ b ∧ b ≤ m ∧ m ≤ (c : Int)) ∧
        K.val (.slice (if m.toNat = a.toNat then base else base.map (·.add (a.toNat * P.cellsOf e))) (b.toNat - a.toNat) (m.toNat - a.toNat))) False
    | _ => False
  | _, _, _ => K.sem (Instr.sliceAt t v lo hi mx)

def iax (P : Program) (t : TypeId) (x i : Value) (K : Kont) : Prop :=
  match P.underlying t, x, i with
  | some (.slice e), .slice base n _, .int _ i => cond (P.info? e).isSome ((0 ≤ i ∧ i < (n : Int)) ∧ vSome base fun a => K.val (.pointer (some (a.add (i.toNat * P.cellsOf e))))) False
  | some (.array n e), .pointer a, .int _ i => cond (P.info? e).isSome ((0 ≤ i ∧ i < (n : Int)) ∧ vSome a fun a => K.val (.pointer (some (a.add (i.toNat * P.cellsOf e))))) False
  | _, x, i => K.sem (Instr.indexAt t x i)
def ixx (P : Program) (t : TypeId) (x i : Value) (K : Kont) : Prop :=
  match P.underlying t, x, i with
  | some .string, .string s, .int _ i => (0 ≤ i ∧ i < (s.data.toList.length : Int)) ∧ K.val (.int .u8 ((s.data.toList.getD i.toNat 0).toNat : Int))
  | _, x, i => K.sem (Instr.index t x i)
def fax (P : Program) (s : TypeId) (x : Value) (f : Nat) (K : Kont) : Prop :=
  match P.underlying s, x with
  | some (.struct fs), .pointer a => vSome a fun a =>
    match fs.toList[f]? with
    | some fd => cond (Nat.beq (P.cellsOf fd.type) 0) (K.sem (Instr.fieldAt s (.pointer (some a)) f)) (K.val (.pointer (some (a.add fd.offset))))
    | none => False
  | _, x => K.sem (Instr.fieldAt s x f)
def isAggD (d : Option TypeDesc) : Bool :=
  match d with
  | some (.struct _) => true
  | some (.array _ _) => true
  | _ => false
def fldx (P : Program) (t : TypeId) (x : Value) (f : Nat) (K : Kont) : Prop :=
  match P.underlying t, x with
  | some (.struct fs), .agg cs =>
    match fs.toList[f]? with
    | some fd => cond (isAggD (P.underlying fd.type))
        (cond (P.info? fd.type).isSome (K.val (.agg ⟨(cs.toList.take (fd.offset + P.cellsOf fd.type)).drop fd.offset⟩)) False)
        (cond (P.underlying fd.type).isSome (match cs.toList[fd.offset]? with
          | some v => K.val v
          | none => False) False)
    | none => False
  | _, x => False
def zeroC (P : Program) (t : TypeId) : Option Value := (P.info? t).bind (·.zero)
/-- the cells of a struct's value that is written out -/
def bldx (P : Program) (t : TypeId) (ps : Array (Nat × Value)) (K : Kont) : Prop :=
  match P.underlying t, zeroC P t with
  | some (.struct fs), some z =>
    cond (fs.toList.all fun f => (P.info? f.type).isSome)
      (match Instr.fill ((fs.map fun f => (f.offset, P.cellsOf f.type))[·]?) z.cells ps.toList with
        | some cs => K.val (.agg cs)
        | none => False) False
  | some (.array _ e), some z =>
    cond (P.info? e).isSome
      (match Instr.fill (fun i => some (i * P.cellsOf e, P.cellsOf e)) z.cells ps.toList with
        | some cs => K.val (.agg cs)
        | none => False) False
  | _, _ => False
def bslx (P : Program) (t : TypeId) (n : Nat) (ps : Array (Nat × Value)) (K : Kont) : Prop :=
  match P.underlying t with
  | some (.slice e) =>
    match P.info? e with
    | some i =>
      match i.zero with
      | some z =>
        cond (Nat.ble (n * i.size) 16777216)
          (match Instr.fill (fun j => some (j * i.size, i.size)) ((Array.range (n * i.size)).map (z.cells[· % z.cells.size]!)) ps.toList with
            | some cs => K.row cs e n
            | none => False) False
      | none => False
    | none => False
  | _ => False
/-- a tuple's part -/
def vNth (l : List Value) (i : Nat) (k : Value → Prop) : Prop :=
  match l[i]? with
  | some v => k v
  | none => False
def extx (x : Value) (i : Nat) (K : Kont) : Prop := vTup x fun l => vNth l i K.val
def nilx (v : Value) (K : Kont) : Prop := vAddr v fun a => K.val (.pointer (some a))
def allocx (P : Program) (t : TypeId) (K : Kont) : Prop :=
  match P.info? t with
  | some i => match i.zero with
    | some v => K.box v.cells t
    | none => False
  | none => False

/-- THE SHALLOW FORM OF AN OPERATION -/
def opl (P : Program) (ρ : Operand → Value) (o : Oper) (K : Kont) : Prop :=
  match o.op with
  | .move x => K.val (ρ x)
  | .assign x => K.val (ρ x)
  | .pick c a b => vBool (ρ c) fun t => K.val (cond t (ρ a) (ρ b))
  | .alloc t => allocx P t K
  | .box t v => K.box (ρ v).cells t
  | .load t a => vAddr (ρ a) fun a => K.load t a
  | .store t a x => vAddr (ρ a) fun a => cond (Nat.beq (ρ x).cells.toList.length (P.cellsOf t) && (P.info? t).isSome && (ρ x).cells.toList.all oneC) (K.store a (ρ x).cells.toList) False
  | .nilCheck x => nilx (ρ x) K
  | .binOp op t x y _ => binx P op t x y (ρ x) (ρ y) K
  | .unOp op _ x => unx op (ρ x) K
  | .convert s d x => cond (P.underlying s).isSome (cvx P s d (ρ x) K) False
  | .makeFunc fn first captured => K.val (.func fn (amap ρ first) (amap ρ captured))
  | .fieldAddr s x f => fax P s (ρ x) f K
  | .indexAddr t x i => iax P t (ρ x) (ρ i) K
  | .index t x i => ixx P t (ρ x) (ρ i) K
  | .slice t x lo hi mx => slcx P t (ρ x) (lo.map ρ) (hi.map ρ) (mx.map ρ) K
  | .field t x f => fldx P t (ρ x) f K
  | .extract x i => extx (ρ x) i K
  | .call c => callx P ρ o.type c K
  | .build t ps => bldx P t (amap (fun (i, x) => (i, ρ x)) ps) K
  | .buildSlice t n ps => bslx P t n (amap (fun (i, x) => (i, ρ x)) ps) K
  | .makeMap t r => K.sem (Instr.makeMap t (r.map ρ))
  | .makeSlice t l c => K.sem (Instr.makeSlice t (ρ l) (ρ c))
  | .lookup t x i ok => K.sem (Instr.lookup t (ρ x) (ρ i) ok)
  | .mapUpdate t m k x => K.semU (Instr.mapUpdate t (ρ m) (ρ k) (ρ x))
  | .insert t m k x => K.semU (Instr.mapUpdate t (ρ m) (ρ k) (ρ x))
  | .range t x => K.sem (Instr.range t (ρ x))
  | .next it s => K.sem (Instr.next (ρ it) s o.type)
  | .ready g => K.semU (Instr.ready g)
  | .waits g => K.sem (Instr.waits g)
  | _ => False

end Go.Sh
