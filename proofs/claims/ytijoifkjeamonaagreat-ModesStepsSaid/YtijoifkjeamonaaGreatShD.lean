import Derived.RangeFuncIn
import Derived.LoopNIn
import Derived.Deep.Quiet
import Derived.KernelRfl
import Derived.Walk3
import Derived.RowKit
import Derived.Laws.Sem
import Derived.Lib.Strings
import Derived.Laws.StructEq
import Derived.Laws.Externs
namespace Go.Proofs
abbrev Bs:=List UInt8
end Go.Proofs
namespace Go.Sh
open Go
set_option linter.unusedVariables false
abbrev H:=Array Obj
abbrev OA:=Option Addr
abbrev KV:=Value->H->Prop
abbrev Ad (b:Nat):Addr:=⟨b,0,none⟩
def cell (h:H) (a:Addr):Option Value:=
 match h[a.block]? with
 | some (.cells c _ _)=>if a.spot.isSome then none else c[a.off]?
 | _=>none
def FJ (h:H) (a:Addr):Bool:=
 match h[a.block]? with
 | some (.cells _ _ (lo,hi))=>lo<=a.off&&a.off<hi
 | _=>false
def eE (h:H) (a:Addr) (v:Value):H:=
 h.modify a.block fun
  | .cells c elem fz=>.cells (if a.spot.isSome then c else c.setIfInBounds a.off v) elem fz
  | o=>o
theorem lj (w:World) (a:Addr):w.cell? a=cell w.heap a:=rfl
theorem I3 (w:World) (a:Addr):w.frozen? a=FJ w.heap a:=rfl
theorem PI (w:World) (a:Addr) (v:Value):(w.setCell a v).heap=eE w.heap a v:=rfl
structure bu (w w':World):Prop where
 tape:w'.tape=w.tape
 os:w'.os=w.os
 output:w'.output=w.output
theorem bu.refl (w:World):bu w w:=⟨rfl,rfl,rfl⟩
theorem bu.trans {a b c:World} (h:bu a b) (k:bu b c):bu a c:=⟨k.tape.trans h.tape,k.os.trans h.os,k.output.trans h.output⟩
def aZ (P:Program) (m:Sem Value) (h:H) (K:Value->H->Prop):Prop:=
 ∀w:World,w.heap=h->∃v w',m.run P w=.ok v w'/\bu w w'/\K v w'.heap
def LV (P:Program) (m:Sem Unit) (h:H) (K:H->Prop):Prop:=
 ∀w:World,w.heap=h->∃w',m.run P w=.ok () w'/\bu w w'/\K w'.heap
def afi (P:Program) (m:Sem Value) (h:H) (K:Value->Prop):Prop:=
 ∃v,K v/\∀w:World,w.heap=h->∃w',m.run P w=.ok v w'/\w'=w
def gQ (P:Program) (f:FuncId) (args:Array Value) (h:H) (K:Value->H->Prop):Prop:=
 ∀w:World,w.heap=h->Calls P f args w fun e w'=>∃v,e=.returned v/\bu w w'/\K v w'.heap
def Ux (P:Program) (f:FuncId) (args:Array Value) (h:H) (K:Value->Prop):Prop:=
 ∃v,K v/\gQ P f args h fun v' h'=>v'=v/\h'=h
def tS (P:Program) (l:Nat) (args:Array Value) (h:H) (K:Value->H->Prop):Prop:=
 ∀w:World,w.heap=h->∃fn tmps assign body,(Instr.yield l args).run P w=.ok (.round l fn tmps assign body) w/\
  RoundIn Fence.wide 0 P l fn tmps assign body w fun e w'=>∃v,e=.returned v/\bu w w'/\K v w'.heap
theorem aZ.mono {P:Program} {m:Sem Value} {h:H} {K K':Value->H->Prop} (hh:aZ P m h K) (hk:∀v h,K v h->K' v h):aZ P m h K':=
 fun w hw=>let ⟨v,w',r,o,k⟩:=hh w hw;⟨v,w',r,o,hk _ _ k⟩
theorem LV.mono {P:Program} {m:Sem Unit} {h:H} {K K':H->Prop} (hh:LV P m h K) (hk:∀h,K h->K' h):LV P m h K':=
 fun w hw=>let ⟨w',r,o,k⟩:=hh w hw;⟨w',r,o,hk _ k⟩
theorem gQ.mono {P:Program} {f:FuncId} {args:Array Value} {h:H} {K K':Value->H->Prop} (hh:gQ P f args h K) (hk:∀v h,K v h->K' v h):gQ P f args h K':=
 fun w hw=>(hh w hw).mono fun _ _ ⟨v,e,o,k⟩=>⟨v,e,o,hk _ _ k⟩
def aM (p A B:Prop):Prop:=(p->A)/\(¬p->B)
def bd (k:IntKind) (n:Int):Prop:=k.min<=n/\n<=k.max
def au (v:Value) (k:Bool->Prop):Prop:=
 match v with
 | .bool b=>k b
 | _=>False
def aL (kd:IntKind) (v:Value) (k:Int->Prop):Prop:=
 match v with
 | .int k' n=>if k'=kd then k n else False
 | _=>False
def gL (v:Value) (k:List UInt8->Prop):Prop:=
 match v with
 | .string s=>k s.data.toList
 | _=>False
def aB (v:Value) (k:Option Addr->Nat->Nat->Prop):Prop:=
 match v with
 | .slice b n c=>k b n c
 | _=>False
def kt (v:Value) (k:Option Addr->Prop):Prop:=
 match v with
 | .pointer a=>k a
 | _=>False
def LM (v:Value) (k:Option Nat->Prop):Prop:=
 match v with
 | .map r=>k r
 | _=>False
def ae (b:Option Addr) (k:Addr->Prop):Prop:=
 match b with
 | some a=>k a
 | none=>False
def uG (v:Value) (k:Addr->Prop):Prop:=
 match v with
 | .pointer a=>ae a k
 | _=>False
def ni (v:Value) (k:List Value->Prop):Prop:=
 match v with
 | .tuple s=>k s.toList
 | _=>False
def kV (v:Value) (k:List Value->Prop):Prop:=
 match v with
 | .agg s=>k s.toList
 | _=>False
def aG (l:List Value) (k:Value->List Value->Prop):Prop:=
 match l with
 | a::t=>k a t
 | []=>False
def cW (l:List Value) (p:Prop):Prop:=
 match l with
 | []=>p
 | _=>False
abbrev S (l:List UInt8):Value:=.string ⟨⟨l⟩⟩
def LX (d:Option TypeDesc) (v:Value) (k:Value->Prop):Prop:=
 match d with
 | some .bool=>au v fun b=>k (.bool b)
 | some (.int kd)=>aL kd v fun n=>k (.int kd n)
 | some .string=>gL v fun s=>k (S s)
 | some (.slice _)=>aB v fun b n c=>k (.slice b n c)
 | some (.pointer _)=>kt v fun a=>k (.pointer a)
 | some (.map _ _)=>LM v fun r=>k (.map r)
 | _=>k v
theorem By {d:Option TypeDesc} {v:Value} {k:Value->Prop} (h:LX d v k):k v:=by
 unfold LX at h
 split at h
 ·unfold au at h;split at h <;> first | exact h | exact h.elim
 ·unfold aL at h
  split at h
  ·split at h
   ·rename_i e;subst e;exact h
   ·exact h.elim
  ·exact h.elim
 ·unfold gL at h
  split at h
  ·exact h
  ·exact h.elim
 ·unfold aB at h
  split at h
  ·exact h
  ·exact h.elim
 ·unfold kt at h
  split at h
  ·exact h
  ·exact h.elim
 ·unfold LM at h
  split at h
  ·exact h
  ·exact h.elim
 ·exact h
def Ml:List (Option TypeDesc)->List Value->(List Value->Prop)->Prop
 | [],l,k=>cW l (k [])
 | d::ds,l,k=>aG l fun v t=>LX d v fun v=>Ml ds t fun t=>k (v::t)
theorem HI:∀{ds:List (Option TypeDesc)} {l:List Value} {k:List Value->Prop},Ml ds l k->k l
 | [],l,k,h=>by
  unfold Ml cW at h
  split at h
  ·exact h
  ·exact h.elim
 | d::ds,l,k,h=>by
  unfold Ml aG at h
  split at h
  ·rename_i v t
   have h2:=By h
   exact HI (k:=fun t=>k (v::t)) h2
  ·exact h.elim
def mJ (P:Program):Nat->TypeId->List (Option TypeDesc)
 | 0,_=>[]
 | d+1,t=>
  match P.underlying t with
  | some (.struct fs)=>fs.toList.flatMap fun f=>mJ P d f.type
  | some (.array n e)=>(List.range n).flatMap fun _=>mJ P d e
  | x=>[x]
def PU (v:Value) (k:Value->Prop):Prop:=au v fun b=>cond b (k (.bool true)) (k (.bool false))
theorem HJ {v:Value} {k:Value->Prop} (h:PU v k):k v:=by
 unfold PU au at h
 split at h
 ·rename_i b
  cases b <;> exact h
 ·exact h.elim
def PV (P:Program) (t:TypeId) (v:Value) (k:Value->Prop):Prop:=
 match P.underlying t with
 | some (.struct _)=>kV v fun l=>Ml (mJ P 9 t) l fun l=>k (.agg ⟨l⟩)
 | d=>LX d v k
theorem HK {P:Program} {t:TypeId} {v:Value} {k:Value->Prop} (h:PV P t v k):k v:=by
 unfold PV at h
 split at h
 ·unfold kV at h
  split at h
  ·exact HI (k:=fun l=>k (.agg ⟨l⟩)) h
  ·exact h.elim
 ·exact By h
def zW (P:Program):List TypeId->List Value->(List Value->Prop)->Prop
 | [],l,k=>cW l (k [])
 | t::ts,l,k=>aG l fun v u=>PV P t v fun v=>zW P ts u fun u=>k (v::u)
theorem DN {P:Program}:∀{ts:List TypeId} {l:List Value} {k:List Value->Prop},zW P ts l k->k l
 | [],l,k,h=>by
  unfold zW cW at h
  split at h
  ·exact h
  ·exact h.elim
 | t::ts,l,k,h=>by
  unfold zW aG at h
  split at h
  ·rename_i v u
   have h2:=HK h
   exact DN (k:=fun u=>k (v::u)) h2
  ·exact h.elim
def dec (P:Program) (t:TypeId) (v:Value) (k:Value->Prop):Prop:=
 match P.underlying t with
 | some .bool=>PU v k
 | some (.tuple ts)=>cond ts.toList.isEmpty (k v) (ni v fun l=>zW P ts.toList l fun l=>k (.tuple ⟨l⟩))
 | _=>PV P t v k
theorem ny {P:Program} {t:TypeId} {v:Value} {k:Value->Prop} (h:dec P t v k):k v:=by
 unfold dec at h
 split at h
 ·exact HJ h
 ·rename_i ts _
  cases hz:ts.toList.isEmpty with
  | true=>rw[hz] at h;exact h
  | false=>
   rw[hz] at h
   have h:ni v fun l=>zW P ts.toList l fun l=>k (.tuple ⟨l⟩):=h
   unfold ni at h
   split at h
   ·exact DN (k:=fun l=>k (.tuple ⟨l⟩)) h
   ·exact h.elim
 ·exact HK h
def fin (P:Program) (t:TypeId) (v:Value) (k:Value->Prop):Prop:=
 match P.underlying t with
 | some .bool=>PU v k
 | _=>k v
theorem nD {P:Program} {t:TypeId} {v:Value} {k:Value->Prop} (h:fin P t v k):k v:=by
 unfold fin at h
 split at h
 ·exact HJ h
 ·exact h
def I5 (d:Option TypeDesc) (h:H) (a:Addr) (k:Value->Prop):Prop:=
 match d with
 | some .bool=>∃b,cell h a=some (.bool b)/\k (.bool b)
 | some (.int kd)=>∃n,cell h a=some (.int kd n)/\k (.int kd n)
 | some .string=>∃s,cell h a=some (S s)/\k (S s)
 | some (.slice _)=>∃b n c,cell h a=some (.slice b n c)/\k (.slice b n c)
 | some (.pointer _)=>∃p,cell h a=some (.pointer p)/\k (.pointer p)
 | some (.map _ _)=>∃r,cell h a=some (.map r)/\k (.map r)
 | _=>∃v,cell h a=some v/\k v
theorem Ma {d:Option TypeDesc} {h:H} {a:Addr} {k:Value->Prop} (hh:I5 d h a k):∃v,cell h a=some v/\k v:=by
 unfold I5 at hh
 split at hh
 ·obtain⟨x,e,k⟩:=hh;exact⟨_,e,k⟩
 ·obtain⟨x,e,k⟩:=hh;exact⟨_,e,k⟩
 ·obtain⟨x,e,k⟩:=hh;exact⟨_,e,k⟩
 ·obtain⟨x,y,z,e,k⟩:=hh;exact⟨_,e,k⟩
 ·obtain⟨x,e,k⟩:=hh;exact⟨_,e,k⟩
 ·obtain⟨x,e,k⟩:=hh;exact⟨_,e,k⟩
 ·obtain⟨x,e,k⟩:=hh;exact⟨_,e,k⟩
def Om (h:H) (a:Addr):List (Option TypeDesc)->Nat->(List Value->Prop)->Prop
 | [],_,k=>k []
 | d::ds,i,k=>I5 d h (a.add i) fun v=>Om h a ds (i+1) fun l=>k (v::l)
def Ca (P:Program) (t:TypeId) (a:Addr) (h:H) (k:Value->Prop):Prop:=
 match P.underlying t with
 | some (.struct _)=>cond (Nat.beq (mJ P 9 t).length (P.cellsOf t)) (Om h a (mJ P 9 t) 0 fun l=>k (.agg ⟨l⟩)) False
 | some (.array _ _)=>cond (Nat.beq (mJ P 9 t).length (P.cellsOf t)) (Om h a (mJ P 9 t) 0 fun l=>k (.agg ⟨l⟩)) False
 | some d=>I5 (some d) h a k
 | none=>False
def IS (v:Value):Bool:=
 match v with
 | .agg _=>false
 | .tuple _=>false
 | _=>true
def aw (h:H) (cs:Array Value) (t:TypeId) (k:Addr->H->Prop):Prop:=k ⟨h.size,0,none⟩ (h.push (.cells cs t))
def bc (a:Addr):List Value->Nat->H->(H->Prop)->Prop
 | [],_,h,k=>k h
 | v::l,i,h,k=>(∃u,cell h (a.add i)=some u)/\FJ h (a.add i)=false/\bc a l (i+1) (eE h (a.add i) v) k
set_option linter.unusedSimpArgs false
structure fN where
 val:Value->Prop
 load:TypeId->Addr->Prop
 box:Array Value->TypeId->Prop
 iC:Sem Value->Prop
 rI:Sem Unit->Prop
 call:FuncId->Array Value->Prop
 row:Array Value->TypeId->Nat->Prop
 Uw:Nat->Array Value->Prop
 store:Addr->List Value->Prop
 wr:Bool:=false
def xl (n:Nat):Bool:=false
def arith (k:IntKind) (r:Int) (K:fN):Prop:=
 cond (k.signed&&!K.wr) (bd k r/\K.val (.int k r)) (K.val (.int k (k.wrap r)))
def DO (p:Prop) (K:fN):Prop:=aM p (K.val (.bool true)) (K.val (.bool false))
def HM (p:Prop) (K:fN):Prop:=aM p (K.val (.bool false)) (K.val (.bool true))
def dy (op:BinOp) (t:TypeId) (x y:Operand) (a b:Value):Sem Value:=do eqGuard op t x y a b;binOp op t a b
def ou (op:BinOp) (t:TypeId) (x y:Operand) (k:IntKind) (a:Int) (k':IntKind) (b:Int) (K:fN):Prop:=
 match op with
 | .shl=>K.iC (dy op t x y (.int k a) (.int k' b))
 | .shr=>K.iC (dy op t x y (.int k a) (.int k' b))
 | .add=>if k=k' then arith k (a+b) K else False
 | .sub=>if k=k' then arith k (a - b) K else False
 | .mul=>if k=k' then arith k (a*b) K else False
 | .quo=>if k=k' then b≠0/\arith k (a.tdiv b) K else False
 | .rem=>if k=k' then b≠0/\K.val (.int k (a.tmod b)) else False
 | .eql=>if k=k' then DO (a=b) K else False
 | .neq=>if k=k' then HM (a=b) K else False
 | .lss=>if k=k' then DO (a<b) K else False
 | .leq=>if k=k' then DO (a<=b) K else False
 | .gtr=>if k=k' then DO (a>b) K else False
 | .geq=>if k=k' then DO (a ≥ b) K else False
 | op=>if k=k' then K.val (.int k (bits op k a b)) else False
def ZS (op:BinOp) (t:TypeId) (x y:Operand) (a b:ByteArray) (K:fN):Prop:=
 match op with
 | .add=>((a.data.toList.length+b.data.toList.length:Nat):Int)<=9223372036854775807/\K.val (S (a.data.toList++b.data.toList))
 | .eql=>DO (a.data.toList=b.data.toList) K
 | .neq=>HM (a.data.toList=b.data.toList) K
 | op=>K.iC (dy op t x y (.string a) (.string b))
def Mm (P:Program) (op:BinOp) (t:TypeId) (x y:Operand) (a b:Bool) (K:fN):Prop:=
 match op,P.underlying t with
 | .eql,some .bool=>K.val (.bool (a == b))
 | .neq,some .bool=>K.val (.bool (!(a == b)))
 | op,_=>K.iC (dy op t x y (.bool a) (.bool b))
def UE (P:Program) (op:BinOp) (t:TypeId) (x y:Operand) (vx vy:Value) (K:fN):Prop:=
 match vx,vy with
 | .int k a,.int k' b=>ou op t x y k a k' b K
 | .string a,.string b=>ZS op t x y a b K
 | .bool a,.bool b=>Mm P op t x y a b K
 | vx,vy=>K.iC (dy op t x y vx vy)
def unx (op:UnOp) (v:Value) (K:fN):Prop:=
 match op,v with
 | .not,.bool b=>K.val (.bool (!b))
 | .neg,.int k n=>arith k (0 - n) K
 | op,v=>K.iC (Op.unary op v)
def IntKind.afz (s d:IntKind):Bool:=decide (d.min<=s.min)&&decide (s.max<=d.max)
def cvx (P:Program) (src dst:TypeId) (v:Value) (K:fN):Prop:=
 match P.underlying dst,v with
 | some (.int k),.int s n=>cond (IntKind.afz s k) (bd k n/\K.val (.int k n)) (K.val (.int k (k.wrap n)))
 | some .string,.string s=>K.val (.string s)
 | _,v=>K.iC (convert src dst v)
def UF (P:Program) (t:TypeId) (args:Array Value) (ts:Array TypeId) (v:Value) (K:fN):Prop:=
 match P.underlying t,v with
 | some .string,.string s=>K.val (.int .i64 s.data.toList.length)
 | some (.slice _),.slice _ n _=>K.val (.int .i64 n)
 | some (.array n _),_=>K.val (.int .i64 n)
 | _,v=>K.iC (Builtin.len_ ts 0 args)
def DP (b:Builtin) (ts:Array TypeId) (ty:TypeId) (consts:Array Bool) (args:Array Value):Option (Sem Value):=
 match b with
 | .append=>some (Builtin.append_ ts ty args)
 | .cap=>some (Builtin.cap_ ts ty args)
 | .copy=>some (Builtin.copy_ ts ty args)
 | .delete=>some (Builtin.delete_ ts ty args)
 | .len=>some (Builtin.len_ ts ty args)
 | .max=>some (Builtin.max_ ts ty args)
 | .min=>some (Builtin.min_ ts ty args)
 | .clear=>some (Builtin.clear_ ts ty args)
 | _=>none
def Mn (l:List Value) (k:Value->Prop):Prop:=
 match l with
 | a::_=>k a
 | []=>False
def Mo (l:List TypeId) (k:TypeId->Prop):Prop:=
 match l with
 | a::_=>k a
 | []=>False
def mmx (P:Program) (l:List Value) (ts:Array TypeId) (ty:TypeId) (args:Array Value) (mn:Bool) (K:fN):Prop:=
 match l with
 | [.int k a,.int k' b]=>if k=k' then K.val (.int k (cond mn (if b<a then b else a) (if b>a then b else a))) else False
 | _=>cond mn (K.iC (Builtin.min_ ts ty args)) (K.iC (Builtin.max_ ts ty args))
def HN (fn:Func) (args:Array Value) (K:fN):Prop:=
 cond (fn.body.isNone && !(fn.name == "runtime.NumGoroutine")) (match Extern.findNext fn, Extern.find fn with
  | none,some e=>K.iC (e args)
  | _,_=>False) False
def F0 (P:Program) (f:FuncId) (args:Array Value) (K:fN):Prop:=
 match P.funcs[f]? with
 | some fn => cond (fn.body.isSome && !(fn.name == "runtime.NumGoroutine")) (K.call f args) (HN fn args K)
 | none=>False
def mL {α β:Type} (f:α->β) (a:Array α):Array β:=⟨a.toList.map f⟩
theorem gp {α β:Type} (f:α->β) (a:Array α):mL f a=a.map f:=Array.ext' (by simp[mL])
def Us (P:Program) (f:Value) (args:Array Value) (K:fN):Prop:=
 match f with
 | .func (.func f) first captured=>F0 P f ⟨first.toList++args.toList++captured.toList⟩ K
 | .func (.yield l) first _=>K.Uw l ⟨first.toList++args.toList⟩
 | _=>False
def Mp (P:Program) (ρ:Operand->Value) (ty:TypeId) (c:Call) (K:fN):Prop:=
 match c.callee with
 | .builtin .len=>Mo c.argTypes.toList fun t=>Mn (mL ρ c.args).toList fun v=>UF P t (mL ρ c.args) c.argTypes v K
 | .builtin .min=>mmx P (mL ρ c.args).toList c.argTypes ty (mL ρ c.args) true K
 | .builtin .max=>mmx P (mL ρ c.args).toList c.argTypes ty (mL ρ c.args) false K
 | .builtin b=>
  match DP b c.argTypes ty (c.args.map fun | .const _=>true | _=>false) (mL ρ c.args) with
  | some m=>K.iC m
  | none=>False
 | .value f=>Us P (ρ f) (mL ρ c.args) K
 | .invoke _ _=>False
def yS (v:Option Value) (PY:Int) (k:Int->Prop):Prop:=
 match v with
 | none=>k PY
 | some (.int _ i)=>k i
 | _=>False
def sub (l:List UInt8) (a b:Int):List UInt8:=(l.drop a.toNat).take (b.toNat - a.toNat)
def UG (P:Program) (t:TypeId) (v:Value) (lo hi mx:Option Value) (K:fN):Prop:=
 match P.underlying t,v,mx with
 | some .string,.string s,none=>
  yS hi s.data.toList.length fun b=>yS lo 0 fun a=>(0<=a/\a<=b/\b<=(s.data.toList.length:Int))/\K.val (S (sub s.data.toList a b))
 | some (.slice e),.slice base n c,none=>
  cond (P.info? e).isSome (yS hi n fun b=>yS lo 0 fun a=>(0<=a/\a<=b/\b<=(c:Int))/\
   K.val (.slice (if c=a.toNat then base else base.map (·.add (a.toNat*P.cellsOf e))) (b.toNat - a.toNat) (c - a.toNat))) False
 | some (.slice e),.slice base n c,some (.int _ m)=>
  match hi with
  | some (.int _ b)=>
   cond (P.info? e).isSome (yS lo 0 fun a=>(0<=a/\a<=b/\b<=m/\m<=(c:Int))/\
    K.val (.slice (if m.toNat=a.toNat then base else base.map (·.add (a.toNat*P.cellsOf e))) (b.toNat - a.toNat) (m.toNat - a.toNat))) False
  | _=>False
 | _,_,_=>K.iC (Instr.sliceAt t v lo hi mx)
def iax (P:Program) (t:TypeId) (x i:Value) (K:fN):Prop:=
 match P.underlying t,x,i with
 | some (.slice e),.slice base n _,.int _ i=>cond (P.info? e).isSome ((0<=i/\i<(n:Int))/\ae base fun a=>K.val (.pointer (some (a.add (i.toNat*P.cellsOf e))))) False
 | some (.array n e),.pointer a,.int _ i=>cond (P.info? e).isSome ((0<=i/\i<(n:Int))/\ae a fun a=>K.val (.pointer (some (a.add (i.toNat*P.cellsOf e))))) False
 | _,x,i=>K.iC (Instr.indexAt t x i)
def ixx (P:Program) (t:TypeId) (x i:Value) (K:fN):Prop:=
 match P.underlying t,x,i with
 | some .string,.string s,.int _ i=>(0<=i/\i<(s.data.toList.length:Int))/\K.val (.int .u8 ((s.data.toList.getD i.toNat 0).toNat:Int))
 | _,x,i=>K.iC (Instr.index t x i)
def fax (P:Program) (s:TypeId) (x:Value) (f:Nat) (K:fN):Prop:=
 match P.underlying s,x with
 | some (.struct fs),.pointer a=>ae a fun a=>
  match fs.toList[f]? with
  | some fd=>cond (Nat.beq (P.cellsOf fd.type) 0) (K.iC (Instr.fieldAt s (.pointer (some a)) f)) (K.val (.pointer (some (a.add fd.offset))))
  | none=>False
 | _,x=>K.iC (Instr.fieldAt s x f)
def xm (d:Option TypeDesc):Bool:=
 match d with
 | some (.struct _)=>true
 | some (.array _ _)=>true
 | _=>false
def UH (P:Program) (t:TypeId) (x:Value) (f:Nat) (K:fN):Prop:=
 match P.underlying t,x with
 | some (.struct fs),.agg cs=>
  match fs.toList[f]? with
  | some fd=>cond (xm (P.underlying fd.type))
    (cond (P.info? fd.type).isSome (K.val (.agg ⟨(cs.toList.take (fd.offset+P.cellsOf fd.type)).drop fd.offset⟩)) False)
    (cond (P.underlying fd.type).isSome (match cs.toList[fd.offset]? with
     | some v=>K.val v
     | none=>False) False)
  | none=>False
 | _,x=>False
def Mq (P:Program) (t:TypeId):Option Value:=(P.info? t).bind (·.zero)
def UI (P:Program) (t:TypeId) (ps:Array (Nat × Value)) (K:fN):Prop:=
 match P.underlying t,Mq P t with
 | some (.struct fs),some z=>
  cond (fs.toList.all fun f=>(P.info? f.type).isSome)
   (match Instr.fill ((fs.map fun f=>(f.offset,P.cellsOf f.type))[·]?) z.cells ps.toList with
    | some cs=>K.val (.agg cs)
    | none=>False) False
 | some (.array _ e),some z=>
  cond (P.info? e).isSome
   (match Instr.fill (fun i=>some (i*P.cellsOf e,P.cellsOf e)) z.cells ps.toList with
    | some cs=>K.val (.agg cs)
    | none=>False) False
 | _,_=>False
def UJ (P:Program) (t:TypeId) (n:Nat) (ps:Array (Nat × Value)) (K:fN):Prop:=
 match P.underlying t with
 | some (.slice e)=>
  match P.info? e with
  | some i=>
   match i.zero with
   | some z=>
    cond (Nat.ble (n*i.size) 16777216)
     (match Instr.fill (fun j=>some (j*i.size,i.size)) ((Array.range (n*i.size)).map (z.cells[· % z.cells.size]!)) ps.toList with
      | some cs=>K.row cs e n
      | none=>False) False
   | none=>False
  | none=>False
 | _=>False
def ZT (l:List Value) (i:Nat) (k:Value->Prop):Prop:=
 match l[i]? with
 | some v=>k v
 | none=>False
def UK (x:Value) (i:Nat) (K:fN):Prop:=ni x fun l=>ZT l i K.val
def afE (v:Value) (K:fN):Prop:=uG v fun a=>K.val (.pointer (some a))
def F1 (P:Program) (t:TypeId) (K:fN):Prop:=
 match P.info? t with
 | some i=>match i.zero with
  | some v=>K.box v.cells t
  | none=>False
 | none=>False
def LY (P:Program) (ρ:Operand->Value) (o:Oper) (K:fN):Prop:=
 match o.op with
 | .move x=>K.val (ρ x)
 | .assign x=>K.val (ρ x)
 | .pick c a b=>au (ρ c) fun t=>K.val (cond t (ρ a) (ρ b))
 | .alloc t=>F1 P t K
 | .box t v=>K.box (ρ v).cells t
 | .load t a=>uG (ρ a) fun a=>K.load t a
 | .store t a x=>uG (ρ a) fun a=>cond (Nat.beq (ρ x).cells.toList.length (P.cellsOf t)&&(P.info? t).isSome&&(ρ x).cells.toList.all IS) (K.store a (ρ x).cells.toList) False
 | .nilCheck x=>afE (ρ x) K
 | .binOp op t x y _=>UE P op t x y (ρ x) (ρ y) K
 | .unOp op _ x=>unx op (ρ x) K
 | .convert s d x=>cond (P.underlying s).isSome (cvx P s d (ρ x) K) False
 | .makeFunc fn first captured=>K.val (.func fn (mL ρ first) (mL ρ captured))
 | .fieldAddr s x f=>fax P s (ρ x) f K
 | .indexAddr t x i=>iax P t (ρ x) (ρ i) K
 | .index t x i=>ixx P t (ρ x) (ρ i) K
 | .slice t x lo hi mx=>UG P t (ρ x) (lo.map ρ) (hi.map ρ) (mx.map ρ) K
 | .field t x f=>UH P t (ρ x) f K
 | .extract x i=>UK (ρ x) i K
 | .call c=>Mp P ρ o.type c K
 | .build t ps=>UI P t (mL (fun(i,x)=>(i,ρ x)) ps) K
 | .buildSlice t n ps=>UJ P t n (mL (fun(i,x)=>(i,ρ x)) ps) K
 | .makeMap t r=>K.iC (Instr.makeMap t (r.map ρ))
 | .makeSlice t l c=>K.iC (Instr.makeSlice t (ρ l) (ρ c))
 | .lookup t x i ok=>K.iC (Instr.lookup t (ρ x) (ρ i) ok)
 | .mapUpdate t m k x=>K.rI (Instr.mapUpdate t (ρ m) (ρ k) (ρ x))
 | .insert t m k x=>K.rI (Instr.mapUpdate t (ρ m) (ρ k) (ρ x))
 | .range t x=>K.iC (Instr.range t (ρ x))
 | .next it s=>K.iC (Instr.next (ρ it) s o.type)
 | .ready g=>K.rI (Instr.ready g)
 | .waits g=>K.iC (Instr.waits g)
 | _=>False
set_option linter.unusedSimpArgs false
variable {P:Program} {ρ:Operand->Value} {o:Oper} {K:fN}
def eF (P:Program) (K:fN) (s:Sem Next):Prop:=
 (∃v,K.val v/\∀w,s.run P w=.ok (.value v) w)∨
  (∃t a,K.load t a/\s=(do pure (.value (<-loadVar t a))))∨
  (∃cs t,K.box cs t/\∀w,s.run P w=.ok (.value (.pointer (some ⟨w.heap.size,0,none⟩))) (w.alloc (.cells cs t)))∨
  (∃m,K.iC m/\∀w,s.run P w=(do pure (.value (<-m)):Sem Next).run P w)∨
  (∃m,K.rI m/\∀w,s.run P w=(do m;pure .skip:Sem Next).run P w)∨
  (∃f args,K.call f args/\∀w,s.run P w=.ok (.enter f args) w)∨
  (∃cs e n,K.row cs e n/\∀w,s.run P w=.ok (.value (.slice (some ⟨w.heap.size,0,none⟩) n n)) (w.alloc (.cells cs e)))∨
  (∃l args,K.Uw l args/\∀w,s.run P w=(Instr.yield l args).run P w)∨
  (∃a l,K.store a l/\l.all IS=true/\∀w,s.run P w=(do storeCells a l;pure .skip:Sem Next).run P w)
variable {s:Sem Next}
theorem eF.val {v:Value} (h:K.val v) (e:∀w,s.run P w=.ok (.value v) w):eF P K s:=.inl ⟨v,h,e⟩
theorem eF.iC {m:Sem Value} (h:K.iC m) (e:∀w,s.run P w=(do pure (.value (<-m)):Sem Next).run P w):eF P K s:=.inr (.inr (.inr (.inl ⟨m,h,e⟩)))
theorem eF.rI {m:Sem Unit} (h:K.rI m) (e:∀w,s.run P w=(do m;pure .skip:Sem Next).run P w):eF P K s:=.inr (.inr (.inr (.inr (.inl ⟨m,h,e⟩))))
theorem eF.call {f:FuncId} {args:Array Value} (h:K.call f args) (e:∀w,s.run P w=.ok (.enter f args) w):eF P K s:=.inr (.inr (.inr (.inr (.inr (.inl ⟨f,args,h,e⟩)))))
theorem bS {m:Sem Value} {v:Value} {w:World} (h:m.run P w=.ok v w):(do pure (.value (<-m)):Sem Next).run P w=.ok (.value v) w:=by
 simp[Sem.run_bind,h]
theorem HO {k:IntKind} {n:Int} (h:bd k n):k.wrap n=n:=by
 obtain⟨h1,h2⟩:=h
 cases k <;> simp[IntKind.wrap,IntKind.min,IntKind.max,IntKind.bits,IntKind.signed] at*<;> (try split) <;> omega
theorem pt {k:IntKind} {r:Int} (h:arith k r K):K.val (.int k (k.wrap r)):=by
 unfold arith at h
 cases hk:(k.signed&&!K.wr) <;> rw[hk] at h
 ·exact h
 ·rw[HO h.1];exact h.2
theorem pY {p:Prop} {K:fN} (b:Bool) (e:b=true↔p) (h:DO p K):K.val (.bool b):=by
 unfold DO aM at h
 cases b with
 | true=>exact h.1 (e.1 rfl)
 | false=>exact h.2 fun hp=>by have:=e.2 hp;cases this
theorem DQ {p:Prop} {K:fN} (b:Bool) (e:b=true↔¬p) (h:HM p K):K.val (.bool b):=by
 unfold HM aM at h
 cases b with
 | true=>exact h.2 (e.1 rfl)
 | false=>
  by_cases hp:p
  ·exact h.1 hp
  ·have:=e.2 hp;cases this
theorem DR {op:BinOp} {t:TypeId} {x y:Operand} {k k':IntKind} {a b:Int} {w:World}:(eqGuard op t x y (.int k a) (.int k' b)).run P w=.ok () w:=by
 unfold eqGuard
 cases op <;> simp[Sem.run_bind]
theorem DS {op:BinOp} {t:TypeId} {x y:Operand} {a b:ByteArray} {w:World}:(eqGuard op t x y (.string a) (.string b)).run P w=.ok () w:=by
 unfold eqGuard
 cases op <;> simp[Sem.run_bind]
theorem Mr {op:BinOp} {t:TypeId} {x y:Operand} {k:IntKind} {a b:Int} {w:World}:(dy op t x y (.int k a) (.int k b)).run P w=(binOp op t (.int k a) (.int k b)).run P w:=by
 unfold dy
 rw[Sem.run_bind,DR]
 rfl
theorem Ms {op:BinOp} {t:TypeId} {x y:Operand} {a b:ByteArray} {w:World}:(dy op t x y (.string a) (.string b)).run P w=(binOp op t (.string a) (.string b)).run P w:=by
 unfold dy
 rw[Sem.run_bind,DS]
 rfl
theorem PZ {op:BinOp} {t:TypeId} {x y:Operand} {k k':IntKind} {a b:Int} (h:ou op t x y k a k' b K):
  eF P K (do pure (.value (<-dy op t x y (.int k a) (.int k' b)))):=by
 by_cases e:k=k'
 ·subst e
  have key:∀v,(∀w,(binOp op t (.int k a) (.int k b)).run P w=.ok v w)->K.val v->eF P K (do pure (.value (<-dy op t x y (.int k a) (.int k b)))):=
   fun v hv hk=>.val hk fun w=>bS (Mr.trans (hv w))
  cases op
  case shl=>exact .iC h fun _=>rfl
  case shr=>exact .iC h fun _=>rfl
  case add=>simp only[ou,if_true] at h;exact key _ (fun w=>by simp[binOp,Op.intArith]) (pt h)
  case sub=>simp only[ou,if_true] at h;exact key _ (fun w=>by simp[binOp,Op.intArith]) (pt h)
  case mul=>simp only[ou,if_true] at h;exact key _ (fun w=>by simp[binOp,Op.intArith]) (pt h)
  case quo=>simp only[ou,if_true] at h;exact key _ (fun w=>by simp[binOp,Op.intDiv,h.1]) (pt h.2)
  case rem=>simp only[ou,if_true] at h;exact key _ (fun w=>by simp[binOp,Op.intDiv,h.1]) h.2
  case eql=>simp only[ou,if_true] at h;exact key _ (fun w=>by simp[binOp,Op.intCmp]) (pY (a == b) (by simp) h)
  case neq=>simp only[ou,if_true] at h;exact key _ (fun w=>by simp[binOp,Op.intCmp]) (DQ (a != b) (by simp) h)
  case lss=>simp only[ou,if_true] at h;exact key _ (fun w=>by simp[binOp,Op.intCmp]) (pY (decide (a<b)) (by simp) h)
  case leq=>simp only[ou,if_true] at h;exact key _ (fun w=>by simp[binOp,Op.intCmp]) (pY (decide (a<=b)) (by simp) h)
  case gtr=>simp only[ou,if_true] at h;exact key _ (fun w=>by simp[binOp,Op.intCmp]) (pY (decide (a>b)) (by simp) h)
  case geq=>simp only[ou,if_true] at h;exact key _ (fun w=>by simp[binOp,Op.intCmp]) (pY (decide (a ≥ b)) (by simp) h)
  case and=>simp only[ou,if_true] at h;exact key _ (fun w=>by simp[binOp,Op.intBits,bits]) h
  case or=>simp only[ou,if_true] at h;exact key _ (fun w=>by simp[binOp,Op.intBits,bits]) h
  case xor=>simp only[ou,if_true] at h;exact key _ (fun w=>by simp[binOp,Op.intBits,bits]) h
  case andNot=>simp only[ou,if_true] at h;exact key _ (fun w=>by simp[binOp,Op.intBits,bits]) h
 ·cases op
  case shl=>exact .iC h fun _=>rfl
  case shr=>exact .iC h fun _=>rfl
  all_goals (simp only[ou,if_neg e] at h)
theorem P0 {op:BinOp} {t:TypeId} {x y:Operand} {a b:ByteArray} (h:ZS op t x y a b K):
  eF P K (do pure (.value (<-dy op t x y (.string a) (.string b)))):=by
 have key:∀v,(∀w,(binOp op t (.string a) (.string b)).run P w=.ok v w)->K.val v->eF P K (do pure (.value (<-dy op t x y (.string a) (.string b)))):=
  fun v hv hk=>.val hk fun w=>bS (Ms.trans (hv w))
 cases op
 case add=>
  obtain⟨h1,h2⟩:=h
  refine key (S (a.data.toList++b.data.toList)) (fun w=>?_) h2
  have hm:IntKind.i64.max=9223372036854775807:=by decide
  have e:¬((a.size+b.size:Nat):Int)>IntKind.i64.max:=by
   rw[hm]
   have ha:a.size=a.data.toList.length:=Lib.size_eq _
   have hb:b.size=b.data.toList.length:=Lib.size_eq _
   omega
  simp only[binOp,Op.stringOp,if_neg e]
  refine congrArg (fun v=>Result.ok v w) (congrArg Value.string ?_)
  exact ByteArray.ext (Array.ext' (by simp))
 case eql=>exact key (.bool (a.toList == b.toList)) (fun w=>rfl) (pY (a.toList == b.toList) (by rw[Lib.toList_data,Lib.toList_data,beq_iff_eq]) h)
 case neq=>exact key (.bool !(a.toList == b.toList)) (fun w=>rfl) (DQ (!(a.toList == b.toList)) (by rw[Lib.toList_data,Lib.toList_data,Bool.not_eq_true',beq_eq_false_iff_ne]) h)
 all_goals exact .iC h fun _=>rfl
theorem BE {op:BinOp} {t:TypeId} {x y:Operand} {a b:Bool} {w:World}:(eqGuard op t x y (.bool a) (.bool b)).run P w=.ok () w:=by
 unfold eqGuard
 cases op <;> simp[Sem.run_bind]
theorem Mt {op:BinOp} {t:TypeId} {x y:Operand} {a b:Bool} (h:Mm P op t x y a b K):eF P K (do pure (.value (<-dy op t x y (.bool a) (.bool b)))):=by
 have e:∀op w,(dy op t x y (.bool a) (.bool b)).run P w=(binOp op t (.bool a) (.bool b)).run P w:=fun op w=>by
  unfold dy
  rw[Sem.run_bind,BE]
  rfl
 unfold Mm at h
 split at h
 ·rename_i hu
  refine .val h fun w=>bS ((e _ w).trans ?_)
  simp only[binOp]
  simp[Op.equal,Op.maxDepth,run_equalIn_bool' w 9999 t a b hu]
 ·rename_i hu
  refine .val h fun w=>bS ((e _ w).trans ?_)
  simp only[binOp]
  simp[Op.equal,Op.maxDepth,run_equalIn_bool' w 9999 t a b hu]
 ·exact .iC h fun _=>rfl
theorem P5 {op:BinOp} {t:TypeId} {x y:Operand} {vx vy:Value} (h:UE P op t x y vx vy K):
  eF P K (do pure (.value (<-dy op t x y vx vy))):=by
 unfold UE at h
 split at h
 ·exact PZ h
 ·exact P0 h
 ·exact Mt h
 ·exact .iC h fun _=>rfl
theorem UL {op:UnOp} {v:Value} (h:unx op v K):eF P K (do pure (.value (<-Op.unary op v))):=by
 unfold unx at h
 split at h
 ·exact .val h fun w=>bS rfl
 ·exact .val (pt h) fun w=>bS rfl
 ·exact .iC h fun _=>rfl
theorem dc {t:TypeId} {d:TypeDesc} (h:P.underlying t=some d) (w:World):(underlying t).run P w=.ok d w:=by
 simp[underlying,Sem.run_bind,h]
theorem sP {t:TypeId} {i:TypeInfo} (h:P.info? t=some i) (w:World):(typeInfo t).run P w=.ok i w:=by
 simp[typeInfo,Sem.run_bind,h]
theorem gf {t:TypeId} {i:TypeInfo} (h:P.info? t=some i) (w:World):(sizeOf t).run P w=.ok i.size w:=by
 simp[sizeOf,Sem.run_bind,sP h]
theorem gM {t:TypeId} {i:TypeInfo} (h:P.info? t=some i):P.cellsOf t=i.size:=by simp[Program.cellsOf,h]
theorem DC {t:TypeId} {d:TypeDesc} (h:P.underlying t=some d):∃i,P.info? t=some i:=by
 unfold Program.underlying at h
 cases hi:P.info? t with
 | none=>rw[hi] at h;simp at h
 | some i=>exact⟨i,rfl⟩
theorem UM {s d:TypeId} {v:Value} (h:cvx P s d v K) (hs:∃ds,P.underlying s=some ds):eF P K (do pure (.value (<-convert s d v))):=by
 obtain⟨ds,hs⟩:=hs
 unfold cvx at h
 split at h
 ·rename_i k s' n hd
  have hr:∀w,(convert s d (.int s' n)).run P w=.ok (.int k (k.wrap n)) w:=fun w=>by
   unfold convert
   rw[Sem.run_bind,dc hs,Result.andThen_ok,Sem.run_bind,dc hd,Result.andThen_ok]
   cases ds <;> simp[Conv.intToInt]
  unfold cond at h
  split at h
  ·refine .val (v:=.int k n) h.2 fun w=>bS ?_
   rw[hr,HO h.1]
  ·exact .val h fun w=>bS (hr w)
 ·rename_i s' hd
  refine .val h fun w=>bS ?_
  unfold convert
  rw[Sem.run_bind,dc hs,Result.andThen_ok,Sem.run_bind,dc hd,Result.andThen_ok]
  cases ds <;> simp
 ·exact .iC h fun _=>rfl
theorem P6 {t:TypeId} {ty:TypeId} {args:Array Value} {ts:Array TypeId} {v:Value} (ht:ts[0]? =some t) (hv:args[0]? =some v) (h:UF P t args ts v K):
  eF P K (do pure (.value (<-Builtin.len_ ts ty args))):=by
 have hty:Builtin.len_ ts ty args=Builtin.len_ ts 0 args:=rfl
 unfold UF at h
 split at h
 ·rename_i s hu
  refine .val h fun w=>bS ?_
  unfold Builtin.len_
  simp only[ht,hv]
  rw[Sem.run_bind,dc hu,Result.andThen_ok]
  show Result.ok (Value.int .i64 (s.size:Int)) w=_
  rw[Lib.size_eq]
 ·rename_i e b n c hu
  refine .val h fun w=>bS ?_
  unfold Builtin.len_
  simp only[ht,hv]
  rw[Sem.run_bind,dc hu,Result.andThen_ok]
  simp[goInt]
 ·rename_i n e x hu
  refine .val h fun w=>bS ?_
  unfold Builtin.len_
  simp only[ht,hv]
  rw[Sem.run_bind,dc hu,Result.andThen_ok]
  simp[goInt]
 ·exact .iC h fun _=>rfl
theorem I6 {f:FuncId} {args:Array Value} (h:F0 P f args K):eF P K (callFunc f args):=by
 unfold F0 at h
 split at h
 ·rename_i fn hf
  unfold cond at h
  split at h
  ·rename_i hc
   simp only[Bool.and_eq_true,Bool.not_eq_true'] at hc
   refine .call h fun w=>?_
   unfold callFunc
   rw[Sem.run_bind,run_program,Result.andThen_ok]
   simp only[hf]
   have hn:fn.body.isNone=false:=by
    have:=hc.1
    cases hb:fn.body <;> rw[hb] at this <;> simp at this ⊢
   rw[if_neg (by rw[hc.2];simp),if_neg (by rw[hn];simp)]
   rfl
  ·unfold HN cond at h
   split at h
   ·rename_i hc
    simp only[Bool.and_eq_true,Bool.not_eq_true'] at hc
    split at h
    ·rename_i e hn he
     exact .iC h fun w=>by rw[run_callFunc_extern hf hc.2 hc.1 hn he,Sem.run_bind];rfl
    ·exact h.elim
   ·exact h.elim
 ·exact h.elim
theorem eF.of_run {s s':Sem Next} (e:∀w,s'.run P w=s.run P w) (hl:(∃t a,K.load t a/\s=(do pure (.value (<-loadVar t a))))->s'=s) (h:eF P K s):eF P K s':=by
 rcases h with ⟨v,h,r⟩ | hx | ⟨cs,t,h,r⟩ | ⟨m,h,r⟩ | ⟨m,h,r⟩ | ⟨f,args,h,r⟩ | ⟨cs,t,n,h,r⟩ | ⟨l,args,h,r⟩ | ⟨a,l,h,h1,r⟩
 ·exact .inl ⟨v,h,fun w=>(e w).trans (r w)⟩
 ·rw[hl hx];exact .inr (.inl hx)
 ·exact .inr (.inr (.inl ⟨cs,t,h,fun w=>(e w).trans (r w)⟩))
 ·exact .iC h fun w=>(e w).trans (r w)
 ·exact .rI h fun w=>(e w).trans (r w)
 ·exact .call h fun w=>(e w).trans (r w)
 ·exact .inr (.inr (.inr (.inr (.inr (.inr (.inl ⟨cs,t,n,h,fun w=>(e w).trans (r w)⟩))))))
 ·exact .inr (.inr (.inr (.inr (.inr (.inr (.inr (.inl ⟨l,args,h,fun w=>(e w).trans (r w)⟩)))))))
 ·exact .inr (.inr (.inr (.inr (.inr (.inr (.inr (.inr ⟨a,l,h,h1,fun w=>(e w).trans (r w)⟩)))))))
theorem ix {k:IntKind} {i:Int} {y:Nat} {c:BoundsCode} {w:World} (h0:0<=i) (h1:i<=(y:Int)):(Instr.sliceBound (.int k i) y c).run P w=.ok i.toNat w:=by
 unfold Instr.sliceBound
 simp[asIntOf,Sem.run_bind,h0,h1]
theorem sQ {v:Option Value} {d:Int} {k:Int->Prop} (h:yS v d k):(v=none/\k d)∨∃kd i,v=some (.int kd i)/\k i:=by
 unfold yS at h
 split at h
 ·exact .inl ⟨rfl,h⟩
 ·exact .inr ⟨_,_,rfl,h⟩
 ·exact h.elim
theorem xt {sl:Bool} {len cap:Nat} {lo hi:Option Value} {w:World} {a b:Int} {kl kh:IntKind}
  (hh:(hi=none/\b=(len:Int))∨hi=some (.int kh b)) (hl:(lo=none/\a=0)∨lo=some (.int kl a)) (h0:0<=a) (h1:a<=b) (h2:b<=(cap:Int)):
  (Instr.sliceBounds sl len cap lo hi none).run P w=.ok (a.toNat,b.toNat,cap) w:=by
 unfold Instr.sliceBounds
 rcases hh with ⟨rfl,rfl⟩ | rfl
 ·rcases hl with ⟨rfl,rfl⟩ | rfl
  ·simp[Sem.run_bind]
  ·simp[Sem.run_bind,ix h0 h1]
 ·rcases hl with ⟨rfl,rfl⟩ | rfl
  ·simp[Sem.run_bind,ix (Int.le_trans h0 h1) h2]
  ·have e:a<=(b.toNat:Int):=by omega
   simp[Sem.run_bind,ix (Int.le_trans h0 h1) h2,ix h0 e]
theorem F2 {sl:Bool} {len cap:Nat} {lo:Option Value} {w:World} {a b m:Int} {kl kh km:IntKind}
  (hl:(lo=none/\a=0)∨lo=some (.int kl a)) (h0:0<=a) (h1:a<=b) (h2:b<=m) (h3:m<=(cap:Int)):
  (Instr.sliceBounds sl len cap lo (some (.int kh b)) (some (.int km m))).run P w=.ok (a.toNat,b.toNat,m.toNat) w:=by
 unfold Instr.sliceBounds
 have e1:b<=(m.toNat:Int):=by omega
 rcases hl with ⟨rfl,rfl⟩ | rfl
 ·simp[Sem.run_bind,ix (by omega:0<=m) h3,ix (by omega:0<=b) e1]
 ·have e:a<=(b.toNat:Int):=by omega
  simp[Sem.run_bind,ix (by omega:0<=m) h3,ix (by omega:0<=b) e1,ix h0 e]
theorem P7 {t:TypeId} {v:Value} {lo hi mx:Option Value} (h:UG P t v lo hi mx K):eF P K (do pure (.value (<-Instr.sliceAt t v lo hi mx))):=by
 unfold UG at h
 split at h
 ·rename_i s hu
  have hs:(s.size:Int)=s.data.toList.length:=by rw[Lib.size_eq]
  have main:∀(a b:Int) (kl kh:IntKind),((hi=none/\b=(s.size:Int))∨hi=some (.int kh b))->((lo=none/\a=0)∨lo=some (.int kl a))->
    (0<=a/\a<=b/\b<=(s.data.toList.length:Int))/\K.val (S (sub s.data.toList a b))->eF P K (do pure (.value (<-Instr.sliceAt t (.string s) lo hi none))):=by
   intro a b kl kh hh hl hx
   obtain⟨⟨h0,h1,h2⟩,hk⟩:=hx
   refine .val hk fun w=>bS ?_
   unfold Instr.sliceAt
   rw[Sem.run_bind,dc hu,Result.andThen_ok]
   simp only
   unfold Instr.slice
   rw[Sem.run_bind,dc hu,Result.andThen_ok]
   simp only[Option.isSome_none,Bool.false_eq_true,if_false]
   simp only[Sem.run_bind,Sem.run_pure,Result.andThen_ok]
   rw[xt (kl:=kl) (kh:=kh) hh hl h0 h1 (by rw[hs];exact h2)]
   simp only[Result.andThen_ok]
   have e:s.extract a.toNat b.toNat=⟨⟨sub s.data.toList a b⟩⟩:=by
    refine ByteArray.ext (Array.ext' ?_)
    rw[Lib.extract_data]
    rfl
   rw[e]
  rcases sQ h with ⟨yG,h2⟩ | ⟨kh,b,yG,h2⟩ <;> rcases sQ h2 with ⟨F3,h3⟩ | ⟨kl,a,F3,h3⟩
  ·exact main _ _ .i64 .i64 (.inl ⟨yG,hs.symm⟩) (.inl ⟨F3,rfl⟩) h3
  ·exact main _ _ kl .i64 (.inl ⟨yG,hs.symm⟩) (.inr F3) h3
  ·exact main _ _ .i64 kh (.inr yG) (.inl ⟨F3,rfl⟩) h3
  ·exact main _ _ kl kh (.inr yG) (.inr F3) h3
 ·rename_i e base n c hu
  cases BF:P.info? e with
  | none=>rw[BF] at h;exact h.elim
  | some ie=>
  rw[BF] at h
  have h:(yS hi n fun b=>yS lo 0 fun a=>(0<=a/\a<=b/\b<=(c:Int))/\
   K.val (.slice (if c=a.toNat then base else base.map (·.add (a.toNat*P.cellsOf e))) (b.toNat - a.toNat) (c - a.toNat))):=h
  have main:∀(a b:Int) (kl kh:IntKind),((hi=none/\b=(n:Int))∨hi=some (.int kh b))->((lo=none/\a=0)∨lo=some (.int kl a))->
    (0<=a/\a<=b/\b<=(c:Int))/\K.val (.slice (if c=a.toNat then base else base.map (·.add (a.toNat*P.cellsOf e))) (b.toNat - a.toNat) (c - a.toNat))->eF P K (do pure (.value (<-Instr.sliceAt t (.slice base n c) lo hi none))):=by
   intro a b kl kh hh hl hx
   obtain⟨⟨h0,h1,h2⟩,hk⟩:=hx
   refine .val hk fun w=>bS ?_
   unfold Instr.sliceAt
   rw[Sem.run_bind,dc hu,Result.andThen_ok]
   simp only
   unfold Instr.slice
   rw[Sem.run_bind,dc hu,Result.andThen_ok]
   simp only[Sem.run_bind,Sem.run_pure,Result.andThen_ok]
   rw[xt (kl:=kl) (kh:=kh) hh hl h0 h1 h2]
   simp only[Result.andThen_ok]
   rw[gf BF,gM BF]
   rfl
  rcases sQ h with ⟨yG,h2⟩ | ⟨kh,b,yG,h2⟩ <;> rcases sQ h2 with ⟨F3,h3⟩ | ⟨kl,a,F3,h3⟩
  ·exact main _ _ .i64 .i64 (.inl ⟨yG,rfl⟩) (.inl ⟨F3,rfl⟩) h3
  ·exact main _ _ kl .i64 (.inl ⟨yG,rfl⟩) (.inr F3) h3
  ·exact main _ _ .i64 kh (.inr yG) (.inl ⟨F3,rfl⟩) h3
  ·exact main _ _ kl kh (.inr yG) (.inr F3) h3
 ·rename_i e base n c km m hu
  split at h
  ·rename_i kh b
   cases BF:P.info? e with
   | none=>rw[BF] at h;exact h.elim
   | some ie=>
   rw[BF] at h
   have h:(yS lo 0 fun a=>(0<=a/\a<=b/\b<=m/\m<=(c:Int))/\
    K.val (.slice (if m.toNat=a.toNat then base else base.map (·.add (a.toNat*P.cellsOf e))) (b.toNat - a.toNat) (m.toNat - a.toNat))):=h
   have main:∀(a:Int) (kl:IntKind),((lo=none/\a=0)∨lo=some (.int kl a))->
     (0<=a/\a<=b/\b<=m/\m<=(c:Int))/\K.val (.slice (if m.toNat=a.toNat then base else base.map (·.add (a.toNat*P.cellsOf e))) (b.toNat - a.toNat) (m.toNat - a.toNat))->
     eF P K (do pure (.value (<-Instr.sliceAt t (.slice base n c) lo (some (.int kh b)) (some (.int km m))))):=by
    intro a kl hl hx
    obtain⟨⟨h0,h1,h2,h3⟩,hk⟩:=hx
    refine .val hk fun w=>bS ?_
    unfold Instr.sliceAt
    rw[Sem.run_bind,dc hu,Result.andThen_ok]
    simp only
    unfold Instr.slice
    rw[Sem.run_bind,dc hu,Result.andThen_ok]
    simp only[Sem.run_bind,Sem.run_pure,Result.andThen_ok]
    rw[F2 (kl:=kl) (kh:=kh) (km:=km) hl h0 h1 h2 h3]
    simp only[Result.andThen_ok]
    rw[gf BF,gM BF]
    rfl
   rcases sQ h with ⟨F3,h3⟩ | ⟨kl,a,F3,h3⟩
   ·exact main _ .i64 (.inl ⟨F3,rfl⟩) h3
   ·exact main _ kl (.inr F3) h3
  ·exact h.elim
 ·exact .iC h fun _=>rfl
theorem UN {t:TypeId} {x i:Value} (h:iax P t x i K):eF P K (do pure (.value (<-Instr.indexAt t x i))):=by
 unfold iax at h
 split at h
 ·rename_i e base n c ki i hu
  cases BF:P.info? e with
  | none=>rw[BF] at h;exact h.elim
  | some ie=>
  rw[BF] at h
  obtain⟨⟨h0,h1⟩,hk⟩:(0<=i/\i<(n:Int))/\ae base fun a=>K.val (.pointer (some (a.add (i.toNat*P.cellsOf e)))):=h
  unfold ae at hk
  split at hk
  ·rename_i a
   refine .val hk fun w=>bS ?_
   unfold Instr.indexAt
   simp only[asIntOf,Sem.run_bind,Sem.run_pure,Result.andThen_ok,dc hu]
   rw[if_pos ⟨h0,h1⟩]
   simp only[Sem.run_bind,Sem.run_pure,Result.andThen_ok,gf BF,gM BF]
  ·exact hk.elim
 ·rename_i n e a ki i hu
  cases BF:P.info? e with
  | none=>rw[BF] at h;exact h.elim
  | some ie=>
  rw[BF] at h
  obtain⟨⟨h0,h1⟩,hk⟩:(0<=i/\i<(n:Int))/\ae a fun a=>K.val (.pointer (some (a.add (i.toNat*P.cellsOf e)))):=h
  unfold ae at hk
  split at hk
  case h_2=>exact hk.elim
  refine .val hk fun w=>bS ?_
  unfold Instr.indexAt
  simp only[asIntOf,Instr.sureAddr,Sem.run_bind,Sem.run_pure,Result.andThen_ok,dc hu]
  rw[if_pos ⟨h0,h1⟩]
  simp only[Sem.run_bind,Sem.run_pure,Result.andThen_ok,gf BF,gM BF]
 ·exact .iC h fun _=>rfl
theorem UO {t:TypeId} {x i:Value} (h:ixx P t x i K):eF P K (do pure (.value (<-Instr.index t x i))):=by
 unfold ixx at h
 split at h
 ·rename_i s ki i hu
  obtain⟨⟨h0,h1⟩,hk⟩:=h
  refine .val hk fun w=>bS ?_
  unfold Instr.index
  simp only[asIntOf,Sem.run_bind,Sem.run_pure,Result.andThen_ok,dc hu]
  have hb:s[i.toNat]? =some (s.data.toList.getD i.toNat 0):=by
   have cR:i.toNat<s.size:=by rw[Lib.size_eq];omega
   rw[getElem?_pos s i.toNat cR]
   have:s.data.toList[i.toNat]? =some s[i.toNat]:=by
    rw[List.getElem?_eq_getElem (by rw[<-Lib.size_eq];exact cR)]
    rfl
   rw[List.getD_eq_getElem?_getD,this]
   rfl
  rw[if_pos h0,hb]
  rfl
 ·exact .iC h fun _=>rfl
theorem UP {st:TypeId} {x:Value} {f:Nat} (h:fax P st x f K):eF P K (do pure (.value (<-Instr.fieldAt st x f))):=by
 unfold fax at h
 split at h
 ·rename_i fs a hu
  unfold ae at h
  split at h
  case h_2=>exact h.elim
  rename_i a
  split at h
  ·rename_i fd hf
   have hf:fs[f]? =some fd:=by rw[<-hf,Array.getElem?_toList]
   unfold cond at h
   split at h
   ·exact .iC h fun _=>rfl
   ·rename_i hz
    cases hi:P.info? fd.type with
    | none=>simp[Program.cellsOf,hi,Nat.beq] at hz
    | some i=>
    refine .val h fun w=>bS ?_
    unfold Instr.fieldAt
    simp only[Sem.run_bind,dc hu,Result.andThen_ok,hf,Instr.sureAddr,Sem.run_pure]
    unfold fieldPlace
    simp only[Sem.run_bind,gf hi,Result.andThen_ok]
    have bL:¬i.size=0:=by
     intro e
     rw[gM hi,e] at hz
     simp at hz
    rw[if_neg bL]
    rfl
  ·exact h.elim
 ·exact .iC h fun _=>rfl
set_option linter.unusedSimpArgs false
variable {P:Program} {ρ:Operand->Value} {o:Oper} {K:fN} {s:Sem Next}
theorem xu {m:Sem Value} {v:Value} {w w':World} (h:m.run P w=.ok v w'):(do pure (.value (<-m)):Sem Next).run P w=.ok (.value v) w':=by
 simp[Sem.run_bind,h]
theorem pU {t:TypeId} {d:TypeDesc} (h:P.underlying t=some d) (w:World):(isAgg t).run P w=.ok (xm (some d)) w:=by
 unfold isAgg
 rw[Sem.run_bind,dc h,Result.andThen_ok]
 cases d <;> rfl
theorem P8 {t:TypeId} {x:Value} {f:Nat} (h:UH P t x f K):eF P K (do pure (.value (<-Instr.field t x f))):=by
 unfold UH at h
 split at h
 ·rename_i fs cs hu
  split at h
  ·rename_i fd hf
   have hf':fs[f]? =some fd:=by rw[<-hf,Array.getElem?_toList]
   cases hd:P.underlying fd.type with
   | none=>
    rw[hd] at h
    exact h.elim
   | some d=>
   have ZU:∀w,(Instr.field t (.agg cs) f).run P w=(part fd.type cs fd.offset).run P w:=fun w=>by
    unfold Instr.field
    simp only[Sem.run_bind,dc hu,Result.andThen_ok,hf',Go.asAgg,Sem.run_pure]
   rw[hd] at h
   cases Sj:xm (some d) with
   | true=>
    rw[Sj] at h
    cases hi:P.info? fd.type with
    | none=>rw[hi] at h;exact h.elim
    | some i=>
    rw[hi] at h
    refine .val (v:=.agg ⟨(cs.toList.take (fd.offset+P.cellsOf fd.type)).drop fd.offset⟩) h fun w=>bS ?_
    rw[ZU]
    unfold part
    rw[Sem.run_bind,pU hd,Result.andThen_ok,Sj]
    simp only[if_true,Sem.run_bind,gf hi,Result.andThen_ok,Sem.run_pure]
    refine congrArg (fun v=>Result.ok v w) (congrArg Value.agg ?_)
    refine Array.ext' ?_
    simp[gM hi,List.drop_take]
   | false=>
    rw[Sj] at h
    have h:(match cs.toList[fd.offset]? with
     | some v=>K.val v
     | none=>False):=h
    split at h
    ·rename_i v hv
     refine .val h fun w=>bS ?_
     rw[ZU]
     unfold part
     rw[Sem.run_bind,pU hd,Result.andThen_ok,Sj]
     have Lm:cs[fd.offset]? =some v:=by rw[<-hv,Array.getElem?_toList]
     simp[Lm]
    ·exact h.elim
  ·exact h.elim
 ·exact h.elim
theorem P9 {x:Value} {i:Nat} (h:UK x i K):eF P K (do pure (.value (<-Instr.extract x i))):=by
 unfold UK ni at h
 split at h
 ·rename_i vs
  unfold ZT at h
  split at h
  ·rename_i v hv
   refine .val h fun w=>bS ?_
   have Lm:vs[i]? =some v:=by rw[<-hv,Array.getElem?_toList]
   simp[Instr.extract,Lm]
  ·exact h.elim
 ·exact h.elim
theorem run_places {fs:List Field} (h:fs.all (fun f=>(P.info? f.type).isSome)=true) (w:World):
  (fs.mapM fun f=>do pure (f.offset,<-sizeOf f.type):Sem (List (Nat × Nat))).run P w=.ok (fs.map fun f=>(f.offset,P.cellsOf f.type)) w:=by
 induction fs with
 | nil=>rfl
 | cons f fs ih=>
  simp only[List.all_cons,Bool.and_eq_true] at h
  obtain⟨h1,h2⟩:=h
  cases hi:P.info? f.type with
  | none=>rw[hi] at h1;cases h1
  | some i=>
  rw[List.mapM_cons]
  simp only[Sem.run_bind,gf hi,Result.andThen_ok,Sem.run_pure,ih h2,List.map_cons,gM hi]
theorem zX {t:TypeId} {z:Value} (h:Mq P t=some z) (w:World):(zeroValue t).run P w=.ok z w:=by
 unfold Mq at h
 cases hi:P.info? t with
 | none=>rw[hi] at h;cases h
 | some i=>
  rw[hi] at h
  have hz:i.zero=some z:=h
  simp[zeroValue,Sem.run_bind,sP hi,hz]
theorem Qb {t:TypeId} {ps:Array (Nat × Value)} (h:UI P t ps K):eF P K (do pure (.value (<-Instr.build t ps))):=by
 unfold UI at h
 split at h
 ·rename_i fs z hu hz
  unfold cond at h
  split at h
  ·rename_i bm
   split at h
   ·rename_i cs hf
    refine .val h fun w=>bS ?_
    unfold Instr.build
    rw[Sem.run_bind,zX hz,Result.andThen_ok,Sem.run_bind,dc hu,Result.andThen_ok]
    simp only
    have hp:(fs.mapM fun f=>do pure (f.offset,<-sizeOf f.type):Sem (Array (Nat × Nat))).run P w=.ok (fs.map fun f=>(f.offset,P.cellsOf f.type)) w:=by
     rw[<-Array.toArray_toList (xs:=fs),List.mapM_toArray]
     rw[Sem.run_map,run_places bm]
     simp only[Result.andThen_ok]
     exact congrArg (fun v=>Result.ok v w) (Array.ext' (by simp))
    rw[Sem.run_bind,hp,Result.andThen_ok]
    simp only[hf]
    rfl
   ·exact h.elim
  ·exact h.elim
 ·rename_i n e z hu hz
  unfold cond at h
  split at h
  ·rename_i bm
   cases hi:P.info? e with
   | none=>rw[hi] at bm;cases bm
   | some i=>
   split at h
   ·rename_i cs hf
    refine .val h fun w=>bS ?_
    unfold Instr.build
    rw[Sem.run_bind,zX hz,Result.andThen_ok,Sem.run_bind,dc hu,Result.andThen_ok]
    simp only
    rw[Sem.run_bind,gf hi,Result.andThen_ok]
    rw[gM hi] at hf
    simp only[hf]
    rfl
   ·exact h.elim
  ·exact h.elim
 ·exact h.elim
theorem Qc {t:TypeId} {n:Nat} {ps:Array (Nat × Value)} (h:UJ P t n ps K):eF P K (do pure (.value (<-Instr.buildSlice t n ps))):=by
 unfold UJ at h
 split at h
 ·rename_i e hu
  split at h
  ·rename_i i hi
   split at h
   ·rename_i z hz
    unfold cond at h
    split at h
    ·rename_i hle
     split at h
     ·rename_i cs hf
      refine .inr (.inr (.inr (.inr (.inr (.inr (.inl ⟨cs,e,n,h,fun w=>xu ?_⟩))))))
      unfold Instr.buildSlice
      rw[Sem.run_bind,dc hu,Result.andThen_ok]
      simp only
      rw[Sem.run_bind,gf hi,Result.andThen_ok]
      have afF:¬n*i.size>2 ^ 24:=by
       have:=Nat.le_of_ble_eq_true hle
       omega
      rw[if_neg afF]
      have hzr:(zeroValue e).run P w=.ok z w:=by
       simp[zeroValue,Sem.run_bind,sP hi,hz]
      by_cases h0:n*i.size=0
      ·simp only[h0,if_true,Sem.run_bind,Sem.run_pure,Result.andThen_ok]
       rw[h0] at hf
       have e0:∀g:Nat->Value,(Array.range 0).map g=#[]:=fun g=>by simp
       rw[e0] at hf
       simp only[e0,hf]
       rfl
      ·simp only[h0,if_false,Sem.run_bind,Sem.run_pure,Result.andThen_ok,hzr]
       simp only[hf]
       rfl
     ·exact h.elim
    ·exact h.elim
   ·exact h.elim
  ·exact h.elim
 ·exact h.elim
theorem Mu {l:List Value} {k:Value->Prop} (h:Mn l k):∃v t,l=v::t/\k v:=by
 unfold Mn at h
 split at h
 ·exact⟨_,_,rfl,h⟩
 ·exact h.elim
theorem Mv {l:List TypeId} {k:TypeId->Prop} (h:Mo l k):∃v t,l=v::t/\k v:=by
 unfold Mo at h
 split at h
 ·exact⟨_,_,rfl,h⟩
 ·exact h.elim
theorem Mw {l:List Value} {ts:Array TypeId} {ty:TypeId} {args:Array Value} {mn:Bool} (hl:args.toList=l) (h:mmx P l ts ty args mn K):
  eF P K (do pure (.value (<-cond mn (Builtin.min_ ts ty args) (Builtin.max_ ts ty args)))):=by
 unfold mmx at h
 split at h
 ·rename_i k a k' b
  split at h
  ·refine .val h fun w=>bS ?_
   cases mn <;> simp[Builtin.min_,Builtin.max_,hl,Builtin.min2,Builtin.max2]
  ·exact h.elim
 ·cases mn
  ·exact .iC h fun _=>rfl
  ·exact .iC h fun _=>rfl
theorem ZV {ρ:Operand->Value} {first captured:Array Value} {a:Array Operand}:(⟨first.toList++(mL ρ a).toList++captured.toList⟩:Array Value)=(first++a.map ρ)++captured:=
 Array.ext' (by simp[mL])
theorem ZW {ρ:Operand->Value} {first:Array Value} {a:Array Operand}:(⟨first.toList++(mL ρ a).toList⟩:Array Value)=first++a.map ρ:=
 Array.ext' (by simp[mL])
theorem Mx {ty:TypeId} {c:Call} (h:Mp P ρ ty c K):eF P K (do let d <-resolve ρ c ty;invoke d.target d.args):=by
 unfold Mp at h
 split at h
 ·rename_i hc
  obtain⟨t,ts,ht,h⟩:=Mv h
  obtain⟨v,vs,hv,h⟩:=Mu h
  have ht':c.argTypes[0]? =some t:=by rw[<-Array.getElem?_toList,ht];rfl
  have Lm:(c.args.map ρ)[0]? =some v:=by rw[<-gp,<-Array.getElem?_toList,hv];rfl
  rw[gp] at h
  refine eF.of_run (fun w=>?_) (fun⟨_,_,_,e⟩=>?_) (P6 (ty:=ty) ht' Lm h)
  ·simp[resolve,hc,invoke,builtin,gp]
  ·simp[resolve,hc,invoke,builtin,gp]
 ·rename_i hc
  refine eF.of_run (fun w=>?_) (fun⟨_,_,_,e⟩=>?_) (Mw (args:=mL ρ c.args) rfl h)
  ·simp[resolve,hc,invoke,builtin,gp]
  ·simp[resolve,hc,invoke,builtin,gp]
 ·rename_i hc
  refine eF.of_run (fun w=>?_) (fun⟨_,_,_,e⟩=>?_) (Mw (args:=mL ρ c.args) rfl h)
  ·simp[resolve,hc,invoke,builtin,gp]
  ·simp[resolve,hc,invoke,builtin,gp]
 ·rename_i b h1 h2 h3 hc
  split at h
  ·rename_i m hm
   refine .iC h fun w=>?_
   cases b <;> simp[DP] at hm <;> subst hm <;> simp[resolve,hc,invoke,builtin,gp]
  ·exact h.elim
 ·rename_i f hc
  unfold Us at h
  split at h
  ·rename_i g first captured hf
   rw[ZV] at h
   refine eF.of_run (fun w=>?_) (fun⟨_,_,_,e⟩=>?_) (I6 h)
   ·simp[resolve,hc,hf,Deferred.ofValue,invoke]
   ·simp[resolve,hc,hf,Deferred.ofValue,invoke]
  ·rename_i l first captured hf
   refine .inr (.inr (.inr (.inr (.inr (.inr (.inr (.inl ⟨l,_,h,fun w=>?_⟩)))))))
   simp[resolve,hc,hf,Deferred.ofValue,invoke,ZW]
  ·exact h.elim
 ·exact h.elim
theorem I7 {t:TypeId} (h:F1 P t K):eF P K (do pure (.value (<-Instr.alloc t true (.tuple #[])))):=by
 unfold F1 at h
 split at h
 ·rename_i i hi
  split at h
  ·rename_i z hz
   refine .inr (.inr (.inl ⟨z.cells,t,h,fun w=>xu ?_⟩))
   have hzr:(zeroValue t).run P w=.ok z w:=by simp[zeroValue,Sem.run_bind,sP hi,hz]
   unfold Instr.alloc
   rw[Sem.run_bind,hzr,Result.andThen_ok]
   rfl
  ·exact h.elim
 ·exact h.elim
theorem kE {v:Value} {k:Addr->Prop} (h:uG v k):∃a,v=.pointer (some a)/\k a:=by
 unfold uG ae at h
 split at h
 ·split at h
  ·exact⟨_,rfl,h⟩
  ·exact h.elim
 ·exact h.elim
theorem xo (h:LY P ρ o K):eF P K (execOp ρ o):=by
 unfold LY at h
 unfold execOp
 split at h
 ·rename_i eD;simp only[eD];exact .val h fun _=>rfl
 ·rename_i eD;simp only[eD];exact .val h fun _=>rfl
 ·rename_i eD
  simp only[eD]
  unfold au at h
  split at h
  ·rename_i b hb
   refine .val h fun w=>?_
   rw[hb]
   cases b <;> simp[Go.asBool,Sem.run_bind]
  ·exact h.elim
 ·rename_i eD;simp only[eD];exact I7 h
 ·rename_i t v eD
  simp only[eD]
  exact .inr (.inr (.inl ⟨_,t,h,fun w=>xu rfl⟩))
 ·rename_i t a eD
  simp only[eD]
  obtain⟨a',ha,h⟩:=kE h
  refine .inr (.inl ⟨t,a',h,?_⟩)
  rw[ha]
  rfl
 ·rename_i t a x eD
  simp only[eD]
  obtain⟨a',ha,h⟩:=kE h
  unfold cond at h
  split at h
  ·rename_i hc
   simp only[Bool.and_eq_true] at hc
   obtain⟨⟨B7,nj⟩,B5⟩:=hc
   refine .inr (.inr (.inr (.inr (.inr (.inr (.inr (.inr ⟨a',_,h,B5,fun w=>?_⟩)))))))
   cases hi:P.info? t with
   | none=>rw[hi] at nj;cases nj
   | some i=>
   have e1:=Nat.eq_of_beq_eq_true B7
   rw[gM hi,Array.length_toList] at e1
   rw[ha]
   simp only[Instr.storeAt,Instr.sureAddr,Sem.run_bind,Sem.run_pure,Result.andThen_ok,storeVar,gf hi]
   rw[if_neg (by rw[e1];simp)]
  ·exact h.elim
 ·rename_i x eD
  simp only[eD]
  obtain⟨a',ha,h⟩:=kE h
  rw[ha]
  exact .val h fun _=>rfl
 ·rename_i eD;simp only[eD];exact P5 h
 ·rename_i eD;simp only[eD];exact UL h
 ·rename_i s d x eD
  simp only[eD]
  cases hs:P.underlying s with
  | none=>rw[hs] at h;exact h.elim
  | some ds=>rw[hs] at h;exact UM h ⟨ds,hs⟩
 ·rename_i eD;simp only[eD];rw[gp,gp] at h;exact .val h fun _=>rfl
 ·rename_i eD;simp only[eD];exact UP h
 ·rename_i eD;simp only[eD];exact UN h
 ·rename_i eD;simp only[eD];exact UO h
 ·rename_i eD;simp only[eD];exact P7 h
 ·rename_i eD;simp only[eD];exact P8 h
 ·rename_i eD;simp only[eD];exact P9 h
 ·rename_i eD;simp only[eD];exact Mx h
 ·rename_i eD;simp only[eD];rw[gp] at h;exact Qb h
 ·rename_i eD;simp only[eD];rw[gp] at h;exact Qc h
 ·rename_i eD;simp only[eD];exact .iC h fun _=>rfl
 ·rename_i eD;simp only[eD];exact .iC h fun _=>rfl
 ·rename_i eD;simp only[eD];exact .iC h fun _=>rfl
 ·rename_i eD;simp only[eD];exact .rI h fun _=>rfl
 ·rename_i eD;simp only[eD];exact .rI h fun _=>rfl
 ·rename_i eD;simp only[eD];exact .iC h fun _=>rfl
 ·rename_i eD;simp only[eD];exact .iC h fun _=>rfl
 ·rename_i eD;simp only[eD];exact .rI h fun _=>rfl
 ·rename_i eD;simp only[eD];exact .iC h fun _=>rfl
 ·exact h.elim
end Go.Sh
