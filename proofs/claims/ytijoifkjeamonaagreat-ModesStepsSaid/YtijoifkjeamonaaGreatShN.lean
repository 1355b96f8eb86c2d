import Derived.Test.YtijoifkjeamonaaGreatShD
import Derived.Orders
import Derived.RangeFuncLeaves
namespace Go.Sh
open Go
set_option linter.unusedVariables false
set_option linter.unusedSimpArgs false
structure Env where
 v:Nat->Value
 ds:List Deferred
def Env.upd (g:Env) (d:Option Nat) (x:Value):Env:=
 match d with
 | some i=>⟨fun j=>cond (Nat.beq j i) x (g.v j),g.ds⟩
 | none=>g
def lD (n:Nat) (g:Env) (x:Operand):Value:=
 match x with
 | .tmp t=>cond (Nat.blt t n) (g.v t) undef
 | .const v=>v
 | .global k=>.pointer (some ⟨k,0,none⟩)
 | .func f=>.func (.func f) #[] #[]
structure dV (n:Nat) (a:Act) (g:Env):Prop where
 ds:a.defers=g.ds
 size:a.tmps.size=n
 tmp:∀i,i<n->a.tmps.getD i undef=g.v i
theorem pS {a b:Nat} (h:Nat.blt a b=true):a<b:=by rwa[Nat.blt_eq] at h
theorem LU {a b:Nat} (h:Nat.blt a b=false):¬a<b:=fun hl=>by
 have h2:Nat.blt a b=true:=by rwa[Nat.blt_eq]
 rw[h] at h2
 cases h2
theorem dV.eval {n:Nat} {a:Act} {g:Env} (h:dV n a g):a.eval=lD n g:=by
 funext x
 cases x with
 | tmp t=>
  show a.tmps.getD t undef=cond (Nat.blt t n) (g.v t) undef
  cases hb:Nat.blt t n with
  | true=>exact h.tmp t (pS hb)
  | false=>
   have hn:¬t<n:=fun hl=>LU hb hl
   rw[<-h.size] at hn
   simp[Array.getD,hn]
 | const v=>rfl
 | global k=>rfl
 | func f=>rfl
theorem dV.put {n:Nat} {a:Act} {g:Env} (h:dV n a g) (d:Option Nat) (v:Value):dV n (a.put d v) (g.upd d v):=by
 cases d with
 | none=>exact h
 | some i=>
  refine⟨h.ds,by simp[Act.put,h.size],fun j hj=>?_⟩
  show(a.tmps.setIfInBounds i v).getD j undef=cond (Nat.beq j i) v (g.v j)
  cases hb:Nat.beq j i with
  | true=>
   have e:j=i:=Nat.eq_of_beq_eq_true hb
   subst e
   simp[Array.getD,h.size,hj]
  | false=>
   have e:i≠j:=fun e=>by
    subst e
    have:Nat.beq i i=true:=Nat.beq_refl i
    rw[hb] at this;cases this
   have:=h.tmp j hj
   have hs:(a.tmps.setIfInBounds i v)[j]? =a.tmps[j]? :=Array.getElem?_setIfInBounds_ne e
   simp only[Array.getD_eq_getD_getElem?] at this ⊢
   rw[hs];exact this
def qX (n:Nat) (ops:List Oper) (g:Env) (o:Oper):Bool:=
 match o.guard with
 | none=>true
 | some (j,want)=>
  match ops[j]? with
  | some oj=>
   match oj.dst with
   | some d=>cond (Nat.blt d n) (match g.v d with | .bool b=>b == want | _=>false) false
   | none=>false
  | none=>false
theorem sO {n:Nat} {ops:Array Oper} {a:Act} {g:Env} {o:Oper} (h:dV n a g):Region.wanted o (yielded ops a.tmps)=qX n ops.toList g o:=by
 unfold Region.wanted qX
 cases hg:o.guard with
 | none=>rfl
 | some jw=>
  obtain⟨j,want⟩:=jw
  simp only
  unfold yielded
  rw[Array.getElem?_toList]
  cases hj:ops[j]? with
  | none=>rfl
  | some oj=>
   simp only[Option.bind_some]
   cases hd:oj.dst with
   | none=>rfl
   | some d=>
    simp only[Option.bind_some]
    cases hb:Nat.blt d n with
    | true=>
     have cR:d<n:=pS hb
     have ht:=h.tmp d cR
     have hs:a.tmps[d]? =some (g.v d):=by
      rw[Array.getElem?_eq_getElem (by rw[h.size];exact cR)]
      have:a.tmps.getD d undef=a.tmps[d]'(by rw[h.size];exact cR):=by simp[Array.getD,h.size,cR]
      rw[<-ht,this]
     rw[hs]
     cases g.v d <;> simp[cond]
    | false=>
     have hn:¬d<n:=fun hl=>LU hb hl
     have hs:a.tmps[d]? =none:=Array.getElem?_eq_none (by rw[h.size];exact Nat.le_of_not_lt hn)
     rw[hs]
     rfl
def Ht (P:Program) (ty:TypeId) (h:H) (next:KV) (wr:Bool:=false):fN where
 wr:=wr
 val v:=fin P ty v fun v=>next v h
 load t a:=Ca P t a h fun v=>fin P ty v fun v=>next v h
 box cs t:=aw h cs t fun a h'=>next (.pointer (some a)) h'
 iC m:=aZ P m h fun v h'=>dec P ty v fun v=>next v h'
 rI m:=LV P m h fun h'=>next undef h'
 call f args:=gQ P f args h fun v h'=>dec P ty v fun v=>next v h'
 row cs e n:=aw h cs e fun a h'=>next (.slice (some a) n n) h'
 Uw l args:=tS P l args h fun v h'=>dec P ty v fun v=>next v h'
 store a l:=bc a l 0 h fun h'=>next undef h'
def LW (P:Program) (ty:TypeId) (h:H) (next:Value->Prop) (wr:Bool:=false):fN where
 wr:=wr
 val v:=fin P ty v next
 load t a:=Ca P t a h fun v=>fin P ty v next
 box _ _:=False
 iC m:=afi P m h fun v=>dec P ty v next
 rI _:=False
 call f args:=Ux P f args h fun v=>dec P ty v next
 row _ _ _:=False
 Uw _ _:=False
 store _ _:=False
def Uy (P:Program) (o:Oper) (v:Value) (k:Value->Prop):Prop:=
 match o.op with
 | .call c=>
  match c.callee with
  | .value _=>dec P o.type v k
  | _=>k v
 | .range _ _=>uG v fun a=>k (.pointer (some a))
 | .extract _ _=>LX (P.underlying o.type) v k
 | _=>k v
theorem FP {P:Program} {o:Oper} {v:Value} {k:Value->Prop} (h:Uy P o v k):k v:=by
 unfold Uy at h
 split at h
 ·split at h
  ·exact ny h
  ·exact h
 ·obtain⟨a,rfl,h⟩:=kE h
  exact h
 ·exact By h
 ·exact h
def IW (P:Program) (n:Nat) (ops:List Oper) (next:Env->H->Prop):List Oper->Env->H->Prop
 | [],g,h=>next g h
 | o::rest,g,h=>cond (qX n ops g o)
   (LY P (lD n g) o (Ht P o.type h (fun v h'=>Uy P o v fun v=>IW P n ops next rest (g.upd o.dst v) h') (xl n)))
   (IW P n ops next rest (g.upd o.dst undef) h)
def Uq (P:Program) (n:Nat) (ops:List Oper) (next:Env->H->Prop) (h:H):List Oper->Env->Prop
 | [],g=>next g h
 | o::rest,g=>cond (qX n ops g o)
   (LY P (lD n g) o (LW P o.type h (fun v=>Uy P o v fun v=>Uq P n ops next h rest (g.upd o.dst v)) (xl n)))
   (Uq P n ops next h rest (g.upd o.dst undef))
set_option linter.unusedSimpArgs false
variable {P:Program}
def Fr (ro:Option Nat):Fence:={Fence.wide with round:=ro}
theorem xj {ro:Option Nat} {n:Nat} {f:FuncId} {args:Array Value} {w:World} {R:Ending->World->Prop} (h:Calls P f args w R):CallsIn (Fr ro) n P f args w R:=
 (callsIn_wide (n:=n)).2 h
abbrev de:=Exit->Env->H->Prop
def lift (n:Nat) (w0:World) (Q:de):Exit->Act->World->Prop
 | .outgrown,_,_=>False
 | .panic _,_,_=>False
 | e,a,w=>∃g,dV n a g/\Q e g w.heap/\bu w0 w
def PH (ro:Option Nat) (P:Program) (s:Sem Next) (w:World) (R:Value->World->Prop):Prop:=
 match s.run P w with
 | .ok (.value v) w'=>R v w'
 | .ok .skip w'=>R undef w'
 | .ok (.enter f args) w'=>Calls P f args w' fun e DB=>∃v,e=.returned v/\R v DB
 | .ok (.round l f tmps assign body) w'=>RoundIn Fence.wide 0 P l f tmps assign body w' fun e DB=>∃v,e=.returned v/\R v DB
 | _=>False
theorem LZ {h:H} {a:Addr}:∀{ds:List (Option TypeDesc)} {i:Nat} {k:List Value->Prop},Om h a ds i k->
  ∃l:List Value,l.length=ds.length/\k l/\∀j v,l[j]? =some v->cell h (a.add (i+j))=some v
 | [],i,k,hh=>⟨[],rfl,hh,fun j v hv=>by simp at hv⟩
 | d::ds,i,k,hh=>by
  obtain⟨v,hc,hd⟩:=Ma hh
  obtain⟨l,hl,hk,bm⟩:=LZ hd
  refine⟨v::l,by simp[hl],hk,fun j u hu=>?_⟩
  cases j with
  | zero=>simp at hu;subst hu;exact hc
  | succ j=>
   have:=bm j u (by simpa using hu)
   rw[show i+(j+1)=i+1+j by omega]
   exact this
theorem Mb (w:World) (a:Addr) (v:Value) (h:cell w.heap a=some v):(load a).run P w=.ok v w:=by
 have h':w.cell? a=some v:=h
 simp[run_load,h']
theorem run_loadCells {w:World} {a:Addr}:∀(l:List Value) (i:Nat) (acc:Array Value),(∀j v,l[j]? =some v->cell w.heap (a.add (i+j))=some v)->
  (loadCellsFrom a i l.length acc).run P w=.ok (acc++l.toArray) w
 | [],i,acc,h=>by simp[loadCellsFrom]
 | v::l,i,acc,h=>by
  have h0:=h 0 v rfl
  rw[Nat.add_zero] at h0
  simp only[List.length_cons,loadCellsFrom,Sem.run_bind,Mb w _ v h0,Result.andThen_ok]
  rw[run_loadCells l (i+1) (acc.push v) fun j u hu=>by
   have:=h (j+1) u (by simpa using hu)
   rwa[show i+(j+1)=i+1+j by omega] at this]
  simp
theorem xh {t:TypeId} {a:Addr} {h:H} {k:Value->Prop} (hh:Ca P t a h k):∃v,k v/\∀w:World,w.heap=h->(loadVar t a).run P w=.ok v w:=by
 have agg:∀d,P.underlying t=some d->xm (some d)=true->(cond (Nat.beq (mJ P 9 t).length (P.cellsOf t)) (Om h a (mJ P 9 t) 0 fun l=>k (.agg ⟨l⟩)) False)->
   ∃v,k v/\∀w:World,w.heap=h->(loadVar t a).run P w=.ok v w:=by
  intro d hd Sj hl
  cases hb:Nat.beq (mJ P 9 t).length (P.cellsOf t) with
  | false=>rw[hb] at hl;exact hl.elim
  | true=>
  rw[hb] at hl
  have hlen:=Nat.eq_of_beq_eq_true hb
  have hl:Om h a (mJ P 9 t) 0 fun l=>k (.agg ⟨l⟩):=hl
  obtain⟨l,hll,hk,bm⟩:=LZ hl
  obtain⟨i,hi⟩:=DC hd
  refine⟨.agg ⟨l⟩,hk,fun w hw=>?_⟩
  unfold loadVar
  rw[Sem.run_bind,pU hd,Result.andThen_ok,Sj]
  simp only[if_true,Sem.run_bind,gf hi,Result.andThen_ok,Sem.run_pure]
  have e:i.size=l.length:=by rw[hll,hlen,gM hi]
  rw[e]
  unfold loadCells
  rw[run_loadCells l 0 #[] fun j v hv=>by rw[hw];exact bm j v hv]
  simp
 unfold Ca at hh
 split at hh
 ·rename_i fs hd;exact agg _ hd rfl hh
 ·rename_i n e hd;exact agg _ hd rfl hh
 ·rename_i d hs ha hd
  obtain⟨v,hc,hk⟩:=Ma hh
  refine⟨v,hk,fun w hw=>?_⟩
  unfold loadVar
  have Sj:xm (some d)=false:=by
   cases d <;> first | rfl | exact absurd rfl (hs _) | exact absurd rfl (ha _ _)
  rw[Sem.run_bind,pU hd,Result.andThen_ok,Sj]
  simp only[Bool.false_eq_true,if_false]
  exact Mb w a v (by rw[hw];exact hc)
 ·exact hh.elim
theorem FQ {a:Addr}:∀{l:List Value} {i:Nat} {h:H} {k:H->Prop},bc a l i h k->l.all IS=true->∀w:World,w.heap=h->
  ∃w',(storeCells a l i).run P w=.ok () w'/\bu w w'/\k w'.heap
 | [],i,h,k,hx,_,w,hw=>⟨w,rfl,bu.refl w,by rw[hw];exact hx⟩
 | v::l,i,h,k,hx,h1,w,hw=>by
  obtain⟨⟨u,hu⟩,hf,hx⟩:=hx
  simp only[List.all_cons,Bool.and_eq_true] at h1
  obtain⟨w',hr,ho,hk⟩:=FQ hx h1.2 (w.setCell (a.add i) v) (by rw[PI,hw])
  refine⟨w',?_,⟨ho.tape,ho.os,ho.output⟩,hk⟩
  have hc:w.cell? (a.add i)=some u:=by rw[lj,hw];exact hu
  have hz:w.frozen? (a.add i)=false:=by rw[I3,hw];exact hf
  have hs:(store (a.add i) v).run P w=.ok () (w.setCell (a.add i) v):=by
   cases v <;> first
    | (simp[Go.store,Sem.run,hc,hz];done)
    | (exact absurd h1.1 (by simp[IS]))
  show((do Go.store (a.add i) v;storeCells a l (i+1)):Sem Unit).run P w=_
  rw[Sem.run_bind,hs,Result.andThen_ok]
  exact hr
theorem Mc {ty:TypeId} {h:H} {next:KV} {wr:Bool} {s:Sem Next} (hs:eF P (Ht P ty h next wr) s) (ro:Option Nat) (w:World) (hw:w.heap=h):
  PH ro P s w fun v w'=>bu w w'/\next v w'.heap:=by
 unfold PH
 rcases hs with ⟨v,hk,r⟩ | ⟨t,a,hk,r⟩ | ⟨cs,t,hk,r⟩ | ⟨m,hk,r⟩ | ⟨m,hk,r⟩ | ⟨f,args,hk,r⟩ | ⟨cs,e,n,hk,r⟩ | ⟨l,args,hk,r⟩ | ⟨a,l,hk,h1,r⟩
 ·rw[r w]
  exact⟨bu.refl w,by rw[hw];exact nD (k:=fun v=>next v h) hk⟩
 ·have hk:Ca P t a h (fun v=>fin P ty v fun v=>next v h):=hk
  obtain⟨v,hk,hr⟩:=xh hk
  rw[r,bS (hr w hw)]
  exact⟨bu.refl w,by rw[hw];exact nD (k:=fun v=>next v h) hk⟩
 ·rw[r w]
  refine⟨⟨rfl,rfl,rfl⟩,?_⟩
  subst hw
  exact hk
 ·obtain⟨v,w',hr,ho,hd⟩:=hk w hw
  rw[r w]
  simp only[Sem.run_bind,hr,Result.andThen_ok,Sem.run_pure]
  exact⟨ho,ny hd⟩
 ·obtain⟨w',hr,ho,hd⟩:=hk w hw
  rw[r w]
  simp only[Sem.run_bind,hr,Result.andThen_ok,Sem.run_pure]
  exact⟨ho,hd⟩
 ·rw[r w]
  exact(hk w hw).mono fun e DB ⟨v,he,ho,hd⟩=>⟨v,he,ho,ny hd⟩
 ·rw[r w]
  refine⟨⟨rfl,rfl,rfl⟩,?_⟩
  subst hw
  exact hk
 ·obtain⟨fn,tmps,assign,body,hr,Bl⟩:=hk w hw
  rw[r w,hr]
  exact Bl.mono fun e DB ⟨v,he,ho,hd⟩=>⟨v,he,ho,ny hd⟩
 ·have hk:bc a l 0 h fun h'=>next undef h':=hk
  obtain⟨w',hr,ho,hd⟩:=FQ hk h1 w hw
  rw[r w,Sem.run_bind,hr,Result.andThen_ok,Sem.run_pure]
  exact⟨ho,hd⟩
theorem DE {ρ:Operand->Value} {o:Oper} {K:fN} (h:LY P ρ o K):∀c,o.op≠.defer c:=by
 intro c e
 unfold LY at h
 rw[e] at h
 exact h
theorem xn {ro:Option Nat} {o:Oper} {a:Act} {w:World} {R:Value->World->Prop} {next:Act->World->Prop} {Q:Exit->Act->World->Prop}
  (jO:∀c,o.op≠.defer c) (h:PH ro P (execOp a.eval o) w R) (hn:∀v w',R v w'->next (a.put o.dst v) w'):o.wpIn (Fr ro) 0 P a w next Q:=by
 refine⟨fun _ _=>trivial,?_⟩
 rw[show(Fr ro).round=ro from rfl,Oper.semAt_eq ro a.eval o jO]
 unfold PH at h
 generalize (execOp a.eval o).run P w=r at h ⊢
 cases r with
 | halt x w'=>exact h.elim
 | ok nx w'=>
  cases nx with
  | value v=>exact hn _ _ h
  | skip=>exact hn _ _ h
  | enter f args=>
   refine⟨(fun hd=>by cases hd),xj (h.mono fun e DB ⟨v,he,hr⟩=>?_)⟩
   subst he
   exact hn _ _ hr
  | round l f tmps assign body=>
   refine⟨(fun hd=>by cases hd),?_⟩
   have h2:RoundIn (Fr ro) 0 P l f tmps assign body w' fun e DB=>∃v,e=.returned v/\R v DB:=h
   exact h2.mono fun e DB ⟨v,he,hr⟩=>by subst he;exact hn _ _ hr
  | _=>exact h.elim
theorem Bq {ro:Option Nat} {n:Nat} {ops:Array Oper} {next:Env->H->Prop} {Q:de} (hQ:∀g h,next g h->Q .normal g h) (w0:World):
  ∀(l:List Oper) (k:Nat) (g:Env) (h:H) (a:Act) (w:World),(∀j,l[j]? =ops[k+j]?)->IW P n ops.toList next l g h->w.heap=h->bu w0 w->dV n a g->
   wpOpsIn (Fr ro) 0 P ops (lift n w0 Q) (List.range' k l.length) a w
 | [],k,g,h,a,w,hl,hx,hw,ho,ha=>by
  subst hw
  exact⟨g,ha,hQ _ _ hx,ho⟩
 | o::l,k,g,h,a,w,hl,hx,hw,ho,ha=>by
  have h0:ops[k]? =some o:=by simpa using (hl 0).symm
  have hl':∀j,l[j]? =ops[k+1+j]? :=fun j=>by
   have:=hl (j+1)
   rwa[List.getElem?_cons_succ,show k+(j+1)=k+1+j by omega] at this
  rw[List.length_cons,List.range'_succ]
  simp only[wpOpsIn,h0]
  rw[sO ha]
  unfold IW at hx
  cases ZM:qX n ops.toList g o with
  | true=>
   rw[ZM] at hx
   simp only[if_true]
   have hx:LY P (lD n g) o (Ht P o.type h (fun v h'=>Uy P o v fun v=>IW P n ops.toList next l (g.upd o.dst v) h') (xl n)):=hx
   rw[<-ha.eval] at hx
   refine xn (DE hx) (Mc (xo hx) ro w hw) fun v w' ⟨B9,hn⟩=>?_
   exact Bq hQ w0 l (k+1) _ _ _ _ hl' (FP hn) rfl (ho.trans B9) (ha.put o.dst v)
  | false=>
   rw[ZM] at hx
   simp only[Bool.false_eq_true,if_false]
   exact⟨fun _ _=>trivial,Bq hQ w0 l (k+1) _ _ _ _ hl' hx hw ho (ha.put o.dst undef)⟩
set_option linter.unusedSimpArgs false
variable {P:Program}
def PJ (h:H) (w0 w:World):Prop:=w.heap=h/\bu w0 w
theorem Md {ty:TypeId} {h:H} {next:Value->Prop} {wr:Bool} {s:Sem Next} (hs:eF P (LW P ty h next wr) s) (w0:World):
  ∃v,next v/\∀w,PJ h w0 w->Oper.quietUpon P (PJ h w0) w v (s.run P w):=by
 rcases hs with ⟨v,hk,r⟩ | ⟨t,a,hk,r⟩ | ⟨cs,t,hk,r⟩ | ⟨m,hk,r⟩ | ⟨m,hk,r⟩ | ⟨f,args,hk,r⟩ | ⟨cs,e,n,hk,r⟩ | ⟨l,args,hk,r⟩ | ⟨a,l,hk,h1,r⟩
 ·exact⟨v,nD hk,fun w hw=>by rw[r w];exact⟨rfl,rfl⟩⟩
 ·have hk:Ca P t a h (fun v=>fin P ty v next):=hk
  obtain⟨v,hk,hr⟩:=xh hk
  exact⟨v,nD hk,fun w hw=>by rw[r,bS (hr w hw.1)];exact⟨rfl,rfl⟩⟩
 ·exact hk.elim
 ·obtain⟨v,hd,bm⟩:=hk
  refine⟨v,ny hd,fun w hw=>?_⟩
  obtain⟨w',hr,e⟩:=bm w hw.1
  subst e
  rw[r w']
  simp only[Sem.run_bind,hr,Result.andThen_ok,Sem.run_pure]
  exact⟨rfl,rfl⟩
 ·exact hk.elim
 ·obtain⟨v,hd,hc⟩:=hk
  refine⟨v,ny hd,fun w hw=>?_⟩
  rw[r w]
  refine⟨rfl,(hc w hw.1).mono fun e DB ⟨v',he,ho,hv,hh⟩=>?_⟩
  subst hv
  exact⟨he,hh,hw.2.trans ho⟩
 ·exact hk.elim
 ·exact hk.elim
 ·exact hk.elim
theorem FR {n:Nat} {ops:Array Oper} {next:Env->H->Prop} {h:H} (w0:World) {Qa:Act->Prop} (hQ:∀g a,dV n a g->next g h->Qa a):
  ∀(l:List Oper) (g:Env) (a:Act),Uq P n ops.toList next h l g->dV n a g->wpQuiet P ops (PJ h w0) Qa l a
 | [],g,a,hx,ha=>hQ g a ha hx
 | o::l,g,a,hx,ha=>by
  unfold wpQuiet
  rw[sO ha]
  unfold Uq at hx
  cases ZM:qX n ops.toList g o with
  | true=>
   rw[ZM] at hx
   simp only[if_true]
   have hx:LY P (lD n g) o (LW P o.type h (fun v=>Uy P o v fun v=>Uq P n ops.toList next h l (g.upd o.dst v)) (xl n)):=hx
   rw[<-ha.eval] at hx
   obtain⟨v,hn,bm⟩:=Md (xo hx) w0
   exact⟨v,fun w hw=>bm w hw,FR w0 hQ l _ _ (FP hn) (ha.put o.dst v)⟩
  | false=>
   rw[ZM] at hx
   simp only[Bool.false_eq_true,if_false]
   exact FR w0 hQ l _ _ hx (ha.put o.dst undef)
theorem cK {ro:Option Nat} {ops:Array Oper} {Q:Exit->Act->World->Prop} (hq:¬LetsOut Q) (jO:∀(i:Nat) (o:Oper) c,ops[i]? =some o->o.op≠.defer c):
  ∀(l:List Nat) (a:Act) (w:World),wpOps P ops Q l a w->wpOpsIn (Fr ro) 0 P ops Q l a w
 | [],a,w,h=>h
 | i::l,a,w,h=>by
  simp only[wpOps] at h
  simp only[wpOpsIn]
  cases hi:ops[i]? with
  | none=>
   rw[hi] at h
   exact cK hq jO l a w h
  | some o=>
   rw[hi] at h
   simp only at h ⊢
   by_cases hw:Region.wanted o (yielded ops a.tmps)=true
   ·simp only[hw,if_true] at h ⊢
    rcases h with h | ⟨_,h⟩
    ·refine⟨fun _ _=>trivial,?_⟩
     rw[show(Fr ro).round=ro from rfl,Oper.semAt_eq ro a.eval o (fun c=>jO i o c hi)]
     unfold Oper.wp at h
     generalize (execOp a.eval o).run P w=r at h ⊢
     cases r with
     | halt x w'=>cases x <;> first | exact h | exact h.elim
     | ok nx w'=>
      cases nx with
      | value v=>exact cK hq jO l _ _ h
      | skip=>exact cK hq jO l _ _ h
      | defer d=>exact cK hq jO l _ _ h
      | enter f args=>
       refine⟨(fun hd=>by cases hd),xj (Calls.mono h fun e DB he=>?_)⟩
       cases e with
       | returned v=>exact cK hq jO l _ _ he
       | panicked ch=>exact he
       | outgrown=>exact he
      | row row args=>
       refine⟨(fun hd=>by cases hd),fun c cs _=>?_⟩
       obtain⟨v,DB,hr,hs⟩:=h c cs
       exact⟨v,DB,cK hq jO l _ _ hr,stepsIn_wide.2 hs⟩
      | _=>exact h.elim
    ·exact absurd h hq
   ·simp only[hw,Bool.false_eq_true,if_false] at h ⊢
    exact⟨fun _ _=>trivial,cK hq jO l _ _ h⟩
def fS (l:List Oper):Bool:=l.all fun o=>match o.op with | .defer _=>false | _=>true
theorem kD {ops:Array Oper} (h:fS ops.toList=true):∀(i:Nat) (o:Oper) c,ops[i]? =some o->o.op≠.defer c:=by
 intro i o c hi e
 have hm:o ∈ ops.toList:=by
  rw[<-Array.getElem?_toList] at hi
  exact List.mem_of_getElem? hi
 have:=(List.all_eq_true.1 h) o hm
 rw[e] at this
 cases this
theorem kz {n:Nat} {w0:World} {Q:de}:¬LetsOut (lift n w0 Q):=fun⟨_,_,h⟩=>h
theorem LG {ro:Option Nat} {n id:Nat} {ops:Array Oper} {Q:de} {g:Env} {h:H} (hm:P.follows .mixedOrders=true)
  (hB:Region.lexB .any ops=true) (jO:fS ops.toList=true) (hx:Uq P n ops.toList (Q .normal) h ops.toList g) (w0 w:World) (a:Act)
  (hw:w.heap=h) (ho:bu w0 w) (ha:dV n a g):(Code.region id ops true).wpIn (Fr ro) 0 P (lift n w0 Q) a w:=by
 refine wpIn_region_draw fun t=>?_
 refine cK kz (kD jO) _ _ _ ?_
 simp only[Region.schedule,hm,Bool.true_or,if_true]
 refine wpAny_sound ops.size t _ a _ ?_
 simp only[Region.lexB,Bool.and_eq_true] at hB
 have hC:PJ h w0 {w with drawn:=w.drawn+1}:=⟨hw,ho.tape,ho.os,ho.output⟩
 refine wpAny_of_quiet (C:=PJ h w0) (Q:=fun a'=>∀w',PJ h w0 w'->lift n w0 Q .normal a' w') (fun _ w' Pt h=>h w' Pt) _ _ _ _ hC ?_
 have hq:wpQuiet P ops (PJ h w0) (fun a'=>∀w',PJ h w0 w'->lift n w0 Q .normal a' w') ops.toList a:=
  FR w0 (fun g' a' Ol hn w' Pt=>⟨g',Ol,by rw[Pt.1];exact hn,Pt.2⟩) _ _ _ hx ha
 have:=wpAnyQ_lex (C:=PJ h w0) (md:=.any) hB.1 ops.toList 0 (Array.replicate ops.size false) a (by simp) (by simpa using hB.2) hq
 simpa using this
def fM (ro:Option Nat) (P:Program) (n:Nat) (c:Code) (Q:de) (g:Env) (h:H):Prop:=
 ∀(w0 w:World) (a:Act),w.heap=h->bu w0 w->dV n a g->c.wpIn (Fr ro) 0 P (lift n w0 Q) a w
def qV (next:Env->H->Prop) (Q:de):de
 | .normal,g,h=>next g h
 | e,g,h=>Q e g h
def xf (id:Nat) (Q:de):de
 | .exit PK,g,h=>cond (Nat.beq PK id) (Q .normal g h) (Q (.exit PK) g h)
 | e,g,h=>Q e g h
theorem I4 {n:Nat} {w0:World} {Q Q':de} (hq:∀e g h,Q e g h->Q' e g h):∀e a w,lift n w0 Q e a w->lift n w0 Q' e a w:=by
 intro e a w h
 cases e <;> first | exact h | (obtain⟨g,ha,hx,ho⟩:=h;exact⟨g,ha,hq _ _ _ hx,ho⟩)
theorem fM.mono {ro:Option Nat} {n:Nat} {c:Code} {Q Q':de} {g:Env} {h:H} (hx:fM ro P n c Q g h) (hq:∀e g h,Q e g h->Q' e g h):fM ro P n c Q' g h:=
 fun w0 w a hw ho ha=>wpIn_mono (hx w0 w a hw ho ha) (I4 hq)
section rules
variable {ro:Option Nat} {n:Nat} {Q:de} {g:Env} {h:H}
theorem LF (hx:Q .normal g h):fM ro P n .skip Q g h:=fun w0 w a hw ho ha=>wpIn_skip ⟨g,ha,by rw[hw];exact hx,ho⟩
theorem IY {l:Nat} (hx:Q .normal g h):fM ro P n (.label l) Q g h:=fun w0 w a hw ho ha=>wpIn_label ⟨g,ha,by rw[hw];exact hx,ho⟩
theorem LH {id:Nat} (hx:Q (.exit id) g h):fM ro P n (.exit id) Q g h:=fun w0 w a hw ho ha=>wpIn_exit ⟨g,ha,by rw[hw];exact hx,ho⟩
theorem LI {l:Nat} (hx:Q (.goto l) g h):fM ro P n (.goto l) Q g h:=fun w0 w a hw ho ha=>wpIn_goto ⟨g,ha,by rw[hw];exact hx,ho⟩
theorem PB (hx:Q .ret g h):fM ro P n .ret Q g h:=fun w0 w a hw ho ha=>wpIn_ret ⟨g,ha,by rw[hw];exact hx,ho⟩
theorem Hs {x y:Code} (hx:fM ro P n x (qV (fM ro P n y Q) Q) g h):fM ro P n (.seq x y) Q g h:=fun w0 w a hw ho ha=>
 wpIn_seq (wpIn_mono (hx w0 w a hw ho ha) fun e a' w' he=>by
  cases e <;> first
   | exact he
   | (obtain⟨g',Ol,IB,B9⟩:=he;exact IB w0 w' a' rfl B9 Ol))
theorem Du {c:Operand} {x y:Code} {b:Bool} (hc:lD n g c=.bool b) (hx:cond b (fM ro P n x Q g h) (fM ro P n y Q g h)):fM ro P n (.cond c x y) Q g h:=
 fun w0 w a hw ho ha=>wpIn_cond (t:=b) (by rw[ha.eval];exact hc) (by cases b <;> exact hx w0 w a hw ho ha)
theorem zO {id:Nat} {c:Code} (hx:fM ro P n c (xf id Q) g h):fM ro P n (.block id c) Q g h:=fun w0 w a hw ho ha=>
 wpIn_block (wpIn_mono (hx w0 w a hw ho ha) fun e a' w' he=>by
  cases e with
  | exit PK=>
   obtain⟨g',Ol,IB,B9⟩:=he
   show(if PK=id then _ else _)
   have IB:cond (Nat.beq PK id) (Q .normal g' w'.heap) (Q (.exit PK) g' w'.heap):=IB
   by_cases e:PK=id
   ·rw[if_pos e]
    rw[e,Nat.beq_refl] at IB
    exact⟨g',Ol,IB,B9⟩
   ·rw[if_neg e]
    have hb:Nat.beq PK id=false:=by
     cases hb:Nat.beq PK id with
     | false=>rfl
     | true=>exact absurd (Nat.eq_of_beq_eq_true hb) e
    rw[hb] at IB
    exact⟨g',Ol,IB,B9⟩
  | _=>exact he)
theorem LO {c:Code} (R:Nat->Env->H->Prop) (h0:∀g h,¬R 0 g h) (hs:∀k g h,R (k+1) g h->fM ro P n c (qV (R k) Q) g h) (k:Nat) (hx:R k g h):
  fM ro P n (.loop c) Q g h:=fun w0 w a hw ho ha=>by
 refine wpIn_loop_rounds k ?_
 induction k generalizing g h w a with
 | zero=>exact absurd hx (h0 _ _)
 | succ k ih=>
  refine wpIn_mono (hs k g h hx w0 w a hw ho ha) fun e a' w' he=>?_
  cases e <;> first
   | exact he
   | (obtain⟨g',Ol,IB,B9⟩:=he;exact ih IB w' a' rfl B9 Ol)
end rules
set_option linter.unusedSimpArgs false
variable {P:Program}
def bG (h h':H):Prop:=h.size<=h'.size/\∀(b:Nat) (o:Obj),h[b]? =some o->h'[b]? =some o
theorem bG.refl (h:H):bG h h:=⟨Nat.le_refl _,fun _ _ e=>e⟩
theorem bG.trans {a b c:H} (h:bG a b) (k:bG b c):bG a c:=⟨Nat.le_trans h.1 k.1,fun i o e=>k.2 i o (h.2 i o e)⟩
theorem bG.push (h:H) (o:Obj):bG h (h.push o):=
 ⟨by simp,fun b o' e=>by
  have cR:b<h.size:=(Array.getElem?_eq_some_iff.1 e).1
  rw[Array.getElem?_push_lt cR,<-e,Array.getElem?_eq_getElem cR]⟩
theorem bG.cell {h h':H} {a:Addr} {v:Value} (e:bG h h') (hc:cell h a=some v):cell h' a=some v:=by
 unfold Sh.cell at*
 cases hb:h[a.block]? with
 | none=>rw[hb] at hc;cases hc
 | some o=>rw[hb] at hc;rw[e.2 _ _ hb];exact hc
def sK (P:Program) (m:Sem Value) (h:H) (K:Value->Prop):Prop:=
 ∃v,K v/\∀w:World,bG h w.heap->m.run P w=.ok v w
def iw (P:Program) (o:Oper):Bool:=
 match o.op with
 | .alloc _=>true
 | .box _ _=>true
 | .buildSlice _ _ _=>true
 | .store _ _ _=>true
 | .makeMap _ _=>true
 | .makeSlice _ _ _=>true
 | .mapUpdate _ _ _ _=>true
 | .insert _ _ _ _=>true
 | .range _ _=>true
 | .next _ _=>true
 | .ready _=>true
 | .waits _=>true
 | .convert s d _=>match P.underlying d,P.underlying s with
  | some (.int _),_=>false
  | some .string,some (.slice _)=>false
  | _,_=>true
 | .call c=>match c.callee with
  | .builtin .len=>false
  | .builtin .cap=>false
  | .builtin .min=>false
  | .builtin .max=>false
  | _=>true
 | _=>false
def yP (P:Program) (o:Oper):Bool:=
 match o.op with
 | .convert _ d _=>match P.underlying d with
  | some .string=>true
  | _=>false
 | .load _ _=>true
 | .binOp _ _ _ _ _=>true
 | .index _ _ _=>true
 | .lookup _ _ _ _=>true
 | _=>false
def Sk (P:Program) (ty:TypeId) (next:Value->Prop) (wr:Bool:=false):fN where
 wr:=wr
 val v:=fin P ty v next
 load _ _:=False
 box _ _:=False
 iC _:=False
 rI _:=False
 call _ _:=False
 row _ _ _:=False
 Uw _ _:=False
 store _ _:=False
def Sm (P:Program) (ty:TypeId) (h:H) (next:Value->Prop) (wr:Bool:=false):fN where
 wr:=wr
 val v:=fin P ty v next
 load t a:=Ca P t a h fun v=>fin P ty v next
 box _ _:=False
 iC m:=sK P m h fun v=>dec P ty v next
 rI _:=False
 call _ _:=False
 row _ _ _:=False
 Uw _ _:=False
 store _ _:=False
def Sn (P:Program) (ty:TypeId) (h:H) (next:KV) (wr:Bool:=false):fN where
 wr:=wr
 val v:=fin P ty v fun v=>next v h
 load t a:=Ca P t a h fun v=>fin P ty v fun v=>next v h
 box cs t:=aw h cs t fun a h'=>next (.pointer (some a)) h'
 iC m:=aZ P m h fun v h'=>dec P ty v fun v=>next v h'
 rI m:=LV P m h fun h'=>next undef h'
 call f args:=gQ P f args h fun v h'=>dec P ty v fun v=>next v h'
 row cs e n:=aw h cs e fun a h'=>next (.slice (some a) n n) h'
 Uw _ _:=False
 store a l:=bc a l 0 h fun h'=>next undef h'
def FT (P:Program) (n:Nat) (ops:List Oper) (D:Nat->Nat->Bool) (next:Env->H->Prop):List Nat->List Nat->Env->H->Prop
 | [],_,g,h=>next g h
 | i::rest,rb,g,h=>
  match ops[i]? with
  | none=>False
  | some o=>
   cond (iw P o)
    (cond (qX n ops g o)
     (LY P (lD n g) o (Sn P o.type h (fun v h'=>Uy P o v fun v=>cond (rb.any fun r=>!D i r) (bG h h'/\FT P n ops D next rest rb (g.upd o.dst v) h') (FT P n ops D next rest rb (g.upd o.dst v) h')) (xl n)))
     (FT P n ops D next rest rb (g.upd o.dst undef) h))
    (cond (qX n ops g o)
     (cond (yP P o)
      (LY P (lD n g) o (Sm P o.type h (fun v=>FT P n ops D next rest (i::rb) (g.upd o.dst v) h) (xl n)))
      (LY P (lD n g) o (Sk P o.type (fun v=>FT P n ops D next rest rb (g.upd o.dst v) h) (xl n))))
     (FT P n ops D next rest (cond (yP P o) (i::rb) rb) (g.upd o.dst undef) h))
structure kF (P:Program) (ops:Array Oper) (D:Nat->Nat->Bool) (ord:List Nat):Prop where
 nd:ord.Nodup
 mem:∀i,i<ops.size->i ∈ ord
 lt:∀i ∈ ord,i<ops.size
 clo:∀(i:Nat) (o:Oper) (k:Nat),ops[i]? =some o->D i k=true->∃e ∈ o.after,Region.binds .any e=true/\(e.on=k∨D e.on k=true)
 dir:∀(i:Nat) (o:Oper),ops[i]? =some o->∀e ∈ o.after,Region.binds .any e=true->D i e.on=true
 On:∀A i B,ord=A++i::B->∀k,D i k=true->k ∈ A
 Uz:∀A i B,ord=A++i::B->∀k ∈ A,∀o,ops[k]? =some o->iw P o=true->D i k=true
 dst:∀(i k:Nat) (oi ok:Oper) (d:Nat),ops[i]? =some oi->ops[k]? =some ok->i≠k->oi.dst=some d->ok.dst≠some d/\(d ∈ ok.looksAt ops->D k i=true∨D i k=true)
 sel:∀(j:Nat) (o:Oper) cs b,ops[j]? =some o->o.op≠.select cs b
theorem zU {ops:Array Oper} {o:Oper} {a b:Act} (hs:∀cs c,o.op≠.select cs c) (h:∀t ∈ o.looksAt ops,a.tmps[t]? =b.tmps[t]?):
  execOp a.eval o=execOp b.eval o/\Region.wanted o (yielded ops a.tmps)=Region.wanted o (yielded ops b.tmps):=by
 constructor
 ·refine execOp_congr o hs fun x hx=>?_
  cases x with
  | tmp t=>
   have:=h t (List.mem_append_left _ (List.mem_filterMap.2 ⟨.tmp t,by simpa using hx,rfl⟩))
   show a.tmps.getD t undef=b.tmps.getD t undef
   simp only[Array.getD_eq_getD_getElem?,this]
  | _=>rfl
 ·unfold Region.wanted
  cases hg:o.guard with
  | none=>rfl
  | some jw=>
   obtain⟨j,w⟩:=jw
   simp only
   have e:yielded ops a.tmps j=yielded ops b.tmps j:=by
    unfold yielded
    cases hj:(ops[j]?).bind (·.dst) with
    | none=>rfl
    | some d=>
     simp only[Option.bind_some]
     rw[h d (List.mem_append_right _ (by rw[hg];simp[hj]))]
   rw[e]
section
variable {ops:Array Oper} {D:Nat->Nat->Bool} {ord:List Nat} {n:Nat} {next:Env->H->Prop}
structure vo (P:Program) (ops:Array Oper) (D:Nat->Nat->Bool) (a0 an:Act) (i:Nat) (h:H):Prop where
 is:∃(o:Oper) (ai:Act) (v:Value),ops[i]? =some o/\iw P o=false/\
  (∀t ∈ o.looksAt ops,((∃k ok,D i k=true/\ops[k]? =some ok/\ok.dst=some t)->ai.tmps[t]? =an.tmps[t]?)/\((¬∃k ok,D i k=true/\ops[k]? =some ok/\ok.dst=some t)->ai.tmps[t]? =a0.tmps[t]?))/\
  (Region.wanted o (yielded ops ai.tmps)=true->∀w:World,(yP P o=true->bG h w.heap)->(execOp ai.eval o).run P w=.ok (.value v) w)/\
  (Region.wanted o (yielded ops ai.tmps)=false->v=undef)/\
  (∀d,o.dst=some d->d<an.tmps.size->an.tmps[d]? =some v)
structure Norm (P:Program) (n:Nat) (ops:Array Oper) (D:Nat->Nat->Bool) (ord:List Nat) (next:Env->H->Prop) (a0:Act) (done rem rb:List Nat) (an:Act) (g:Env) (h:H):Prop where
 split:ord=done++rem
 form:FT P n ops.toList D next rem rb g h
 agree:dV n an g
 size:an.tmps.size=a0.tmps.size
 defers:an.defers=a0.defers
 vM:∀t,(∀k ∈ done,∀ok,ops[k]? =some ok->ok.dst≠some t)->an.tmps[t]? =a0.tmps[t]?
 rbs:∀k ∈ done,∀ok,ops[k]? =some ok->iw P ok=false->yP P ok=true->k ∈ rb
theorem Me {ty:TypeId} {next:Value->Prop} {wr:Bool} {s:Sem Next} (hs:eF P (Sk P ty next wr) s):∃v,next v/\∀w,s.run P w=.ok (.value v) w:=by
 rcases hs with ⟨v,hk,r⟩ | ⟨t,a,hk,r⟩ | ⟨cs,t,hk,r⟩ | ⟨m,hk,r⟩ | ⟨m,hk,r⟩ | ⟨f,args,hk,r⟩ | ⟨cs,e,n,hk,r⟩ | ⟨l,args,hk,r⟩ | ⟨a,l,hk,h1,r⟩
 ·exact⟨v,nD hk,r⟩
 all_goals exact hk.elim
theorem DF {d:Option TypeDesc} {h:H} {a:Addr} {k k':Value->Prop} (qS:∀v,k v->k' v) (hl:I5 d h a k):I5 d h a k':=by
 unfold I5 at*
 split at hl
 all_goals (first
  | (obtain⟨x,Ps,hq⟩:=hl;exact⟨x,Ps,qS _ hq⟩)
  | (obtain⟨x,y,z,Ps,hq⟩:=hl;exact⟨x,y,z,Ps,qS _ hq⟩))
theorem xp:∀{ds:List (Option TypeDesc)} {i:Nat} {h:H} {a:Addr} {k k':List Value->Prop},(∀v,k v->k' v)->Om h a ds i k->Om h a ds i k':=by
 intro ds
 induction ds with
 | nil=>intro i h a k k' qS hl;exact qS _ hl
 | cons d ds ih2=>intro i h a k k' qS hl;exact DF (fun v hv=>ih2 (fun l hl=>qS _ hl) hv) hl
theorem HA {d:Option TypeDesc} {a:Addr} {k:Value->Prop} {h h':H} (e:bG h h') (hl:I5 d h a k):I5 d h' a k:=by
 unfold I5 at*
 split at hl
 all_goals (first
  | (obtain⟨x,hc,hk⟩:=hl;exact⟨x,e.cell hc,hk⟩)
  | (obtain⟨x,y,z,hc,hk⟩:=hl;exact⟨x,y,z,e.cell hc,hk⟩))
theorem HB {d:Option TypeDesc} {a:Addr} {k:Value->Prop} {h:H} (hl:I5 d h a k):∃v,k v/\I5 d h a fun v'=>v'=v:=by
 unfold I5 at*
 split at hl
 all_goals (first
  | (obtain⟨x,Ps,hk⟩:=hl;exact⟨_,hk,x,Ps,rfl⟩)
  | (obtain⟨x,y,z,Ps,hk⟩:=hl;exact⟨_,hk,x,y,z,Ps,rfl⟩))
theorem HC:∀{ds:List (Option TypeDesc)} {i:Nat} {k:List Value->Prop} {h:H} {a:Addr},Om h a ds i k->∃l,k l/\∀h',bG h h'->Om h' a ds i fun l'=>l'=l:=by
 intro ds
 induction ds with
 | nil=>intro i k h a hl;exact⟨[],hl,fun _ _=>rfl⟩
 | cons d ds ih=>
  intro i k h a hl
  obtain⟨v,hk,h1⟩:=HB hl
  obtain⟨l,dJ,bm⟩:=ih hk
  refine⟨v::l,dJ,fun h2 e2=>?_⟩
  exact DF (fun v' Lm=>xp (fun l' hl'=>by rw[Lm,hl']) (bm h2 e2)) (HA e2 h1)
theorem PL {t:TypeId} {a:Addr} {h:H} {k:Value->Prop} (hh:Ca P t a h k):∃v,k v/\∀w:World,bG h w.heap->(loadVar t a).run P w=.ok v w:=by
 have mk:∀v,k v->(∀h',bG h h'->Ca P t a h' fun v'=>v'=v)->∃v,k v/\∀w:World,bG h w.heap->(loadVar t a).run P w=.ok v w:=by
  intro v hk hx
  refine⟨v,hk,fun w hw=>?_⟩
  obtain⟨v',e,hr⟩:=xh (hx _ hw)
  subst e
  exact hr w rfl
 unfold Ca at hh
 split at hh
 ·rename_i fs hd
  cases hb:Nat.beq (mJ P 9 t).length (P.cellsOf t) with
  | false=>rw[hb] at hh;exact hh.elim
  | true=>
   rw[hb] at hh
   obtain⟨l,hk,bm⟩:=HC hh
   refine mk _ hk fun h' e=>?_
   unfold Ca
   rw[hd]
   simp only[hb,cond]
   exact xp (fun l' e=>by rw[e]) (bm h' e)
 ·rename_i m e hd
  cases hb:Nat.beq (mJ P 9 t).length (P.cellsOf t) with
  | false=>rw[hb] at hh;exact hh.elim
  | true=>
   rw[hb] at hh
   obtain⟨l,hk,bm⟩:=HC hh
   refine mk _ hk fun h' e=>?_
   unfold Ca
   rw[hd]
   simp only[hb,cond]
   exact xp (fun l' e=>by rw[e]) (bm h' e)
 ·rename_i d hs ha hd
  obtain⟨v,hk,h1⟩:=HB hh
  refine mk v hk fun h' e=>?_
  unfold Ca
  rw[hd]
  cases d
  case struct fs=>exact absurd rfl (hs _)
  case array m e=>exact absurd rfl (ha _ _)
  all_goals exact HA e h1
 ·exact hh.elim
theorem Mf {ty:TypeId} {h:H} {next:Value->Prop} {wr:Bool} {s:Sem Next} (hs:eF P (Sm P ty h next wr) s):∃v,next v/\∀w:World,bG h w.heap->s.run P w=.ok (.value v) w:=by
 rcases hs with ⟨v,hk,r⟩ | ⟨t,a,hk,r⟩ | ⟨cs,t,hk,r⟩ | ⟨m,hk,r⟩ | ⟨m,hk,r⟩ | ⟨f,args,hk,r⟩ | ⟨cs,e,n,hk,r⟩ | ⟨l,args,hk,r⟩ | ⟨a,l,hk,h1,r⟩
 ·exact⟨v,nD hk,fun w _=>r w⟩
 ·have hk:Ca P t a h (fun v=>fin P ty v next):=hk
  obtain⟨v,hk,hr⟩:=PL hk
  exact⟨v,nD hk,fun w hw=>by rw[r,bS (hr w hw)]⟩
 ·exact hk.elim
 ·obtain⟨v,hd,bm⟩:=hk
  exact⟨v,ny hd,fun w hw=>by rw[r w];exact bS (bm w hw)⟩
 all_goals exact hk.elim
theorem mem_toList {i:Nat} {o:Oper} (h:ops[i]? =some o):ops.toList[i]? =some o:=by rw[Array.getElem?_toList];exact h
theorem Norm.one (hp:kF P ops D ord) {a0 an:Act} {done rem rb:List Nat} {i:Nat} {g:Env} {h:H} {o:Oper} (ho:ops[i]? =some o) (bL:iw P o=false)
  (hN:Norm P n ops D ord next a0 done (i::rem) rb an g h):
  ∃DG g' Bz,Norm P n ops D ord next a0 (done++ [i]) rem Bz DG g' h/\vo P ops D a0 DG i h/\(∀k ∈ done,vo P ops D a0 an k h->vo P ops D a0 DG k h)/\
   (∀t k ok,k ∈ done->ops[k]? =some ok->ok.dst=some t->DG.tmps[t]? =an.tmps[t]?)/\(∀r ∈ Bz,r ∈ rb∨r=i):=by
 have FU:i ∉ done:=by
  have:=hp.nd
  rw[hN.split] at this
  exact fun hm=>(List.nodup_append.1 this).2.2 i hm i (by simp) rfl
 have hf:=hN.form
 unfold FT at hf
 rw[mem_toList ho] at hf
 simp only[bL,cond] at hf
 have main:∃v Bz,(FT P n ops.toList D next rem Bz (g.upd o.dst v) h)/\(yP P o=true->i ∈ Bz)/\(∀r ∈ rb,r ∈ Bz)/\(∀r ∈ Bz,r ∈ rb∨r=i)/\
   (Region.wanted o (yielded ops an.tmps)=true->∀w:World,(yP P o=true->bG h w.heap)->(execOp an.eval o).run P w=.ok (.value v) w)/\(Region.wanted o (yielded ops an.tmps)=false->v=undef):=by
  rw[sO hN.agree]
  cases hw:qX n ops.toList g o with
  | true=>
   rw[hw] at hf
   simp only at hf
   cases hr:yP P o with
   | true=>
    rw[hr] at hf
    simp only at hf
    rw[<-hN.agree.eval] at hf
    obtain⟨v,hn,ku⟩:=Mf (xo hf)
    exact⟨v,i::rb,hn,fun _=>by simp,fun r hr=>by simp[hr],fun r hr=>(by simp at hr;exact hr.symm),fun _ w hx=>ku w (hx rfl),(fun hx=>by cases hx)⟩
   | false=>
    rw[hr] at hf
    simp only at hf
    rw[<-hN.agree.eval] at hf
    obtain⟨v,hn,ku⟩:=Me (xo hf)
    exact⟨v,rb,hn,(fun hx=>by cases hx),fun r hr=>hr,fun r hr=>.inl hr,fun _ w _=>ku w,(fun hx=>by cases hx)⟩
  | false=>
   rw[hw] at hf
   simp only at hf
   cases hr:yP P o with
   | true=>
    rw[hr] at hf
    exact⟨undef,i::rb,hf,fun _=>by simp,fun r hr=>by simp[hr],fun r hr=>(by simp at hr;exact hr.symm),(fun hx=>by cases hx),fun _=>rfl⟩
   | false=>
    rw[hr] at hf
    exact⟨undef,rb,hf,(fun hx=>by cases hx),fun r hr=>hr,fun r hr=>.inl hr,(fun hx=>by cases hx),fun _=>rfl⟩
 obtain⟨v,Bz,ZN,afk,afl,afm,ku,Ts⟩:=main
 have keep:∀t k ok,k ∈ done->ops[k]? =some ok->ok.dst=some t->(an.put o.dst v).tmps[t]? =an.tmps[t]? :=by
  intro t k ok hk gw hd
  cases Cb:o.dst with
  | none=>rfl
  | some d=>
   have FV:i≠k:=fun e=>FU (e▸hk)
   have:=(hp.dst i k o ok d ho gw FV Cb).1
   have PM:d≠t:=fun e=>this (by rw[hd,e])
   show(an.tmps.setIfInBounds d v)[t]? =_
   rw[Array.getElem?_setIfInBounds_ne PM]
 have hA:ord=done++i::rem:=hN.split
 refine⟨an.put o.dst v,g.upd o.dst v,Bz,⟨?_,ZN,hN.agree.put _ _,?_,?_,?_,?_⟩,?_,?_,keep,afm⟩
 ·rw[hA];simp
 ·rw[<-hN.size];cases o.dst <;> simp[Act.put]
 ·rw[<-hN.defers];cases o.dst <;> rfl
 ·intro t ht
  have h1:an.tmps[t]? =a0.tmps[t]? :=hN.vM t fun k hk=>ht k (by simp[hk])
  rw[<-h1]
  cases Cb:o.dst with
  | none=>rfl
  | some d=>
   have PM:d≠t:=fun e=>ht i (by simp) o ho (by rw[Cb,e])
   show(an.tmps.setIfInBounds d v)[t]? =_
   rw[Array.getElem?_setIfInBounds_ne PM]
 ·intro k hk ok gw he hr
  simp only[List.mem_append,List.mem_singleton] at hk
  rcases hk with hk | rfl
  ·exact afl _ (hN.rbs k hk ok gw he hr)
  ·rw[ho] at gw;cases gw;exact afk hr
 ·refine⟨o,an,v,ho,bL,fun t ht=>⟨fun⟨k,ok,hD,gw,hd⟩=>?_,fun dk=>?_⟩,ku,Ts,?_⟩
  ·exact(keep t k ok (hp.On done i rem hA k hD) gw hd).symm
  ·refine hN.vM t fun k hk ok gw hd=>?_
   have FV:k≠i:=fun e=>FU (e▸hk)
   rcases (hp.dst k i ok o t gw ho FV hd).2 ht with h1 | h1
   ·exact dk ⟨k,ok,h1,gw,hd⟩
   ·obtain⟨A,B,FW⟩:=List.append_of_mem hk
    have:i ∈ A:=hp.On A k (B++i::rem) (by rw[hA,FW];simp) i h1
    exact FU (by rw[FW];simp[this])
  ·intro d hd cR
   rw[hd]
   show(an.tmps.setIfInBounds d v)[d]? =some v
   have afn:d<an.tmps.size:=by rw[hd] at cR;simpa [Act.put] using cR
   simp[Array.getElem?_setIfInBounds,afn]
 ·rintro k hk ⟨ok,ak,vk,gw,FX,Sp,hrk,huk,hvk⟩
  refine⟨ok,ak,vk,gw,FX,fun t ht=>⟨fun⟨j,oj,hD,G5,hd⟩=>?_,(Sp t ht).2⟩,hrk,huk,?_⟩
  ·rw[(Sp t ht).1 ⟨j,oj,hD,G5,hd⟩]
   obtain⟨A,B,FW⟩:=List.append_of_mem hk
   have hjA:j ∈ A:=hp.On A k (B++i::rem) (by rw[hA,FW];simp) j hD
   exact(keep t j oj (by rw[FW];simp[hjA]) G5 hd).symm
  ·intro d hd cR
   rw[keep d k ok hk gw hd]
   exact hvk d hd (by cases Cb:o.dst <;> rw[Cb] at cR <;> simpa [Act.put] using cR)
end
set_option linter.unusedSimpArgs false
variable {P:Program}
section
variable {ops:Array Oper} {D:Nat->Nat->Bool} {ord:List Nat} {n:Nat} {next:Env->H->Prop}
theorem vo.put (hp:kF P ops D ord) {a0 an:Act} {A B:List Nat} {i:Nat} {h h':H} {o:Oper} {v:Value} (ho:ops[i]? =some o) (hA:ord=A++i::B)
  {k:Nat} (hk:k ∈ A) (he:∀ok,ops[k]? =some ok->yP P ok=true->bG h h') (hP:vo P ops D a0 an k h):vo P ops D a0 (an.put o.dst v) k h':=by
 have hi:i ∉ A:=by
  have:=hp.nd
  rw[hA] at this
  exact fun hm=>(List.nodup_append.1 this).2.2 i hm i (by simp) rfl
 have keep:∀t k ok,k ∈ A->ops[k]? =some ok->ok.dst=some t->(an.put o.dst v).tmps[t]? =an.tmps[t]? :=by
  intro t k ok hk gw hd
  cases Cb:o.dst with
  | none=>rfl
  | some d=>
   have FV:i≠k:=fun e=>hi (e▸hk)
   have:=(hp.dst i k o ok d ho gw FV Cb).1
   have PM:d≠t:=fun e=>this (by rw[hd,e])
   show(an.tmps.setIfInBounds d v)[t]? =_
   rw[Array.getElem?_setIfInBounds_ne PM]
 obtain⟨ok,ak,vk,gw,FX,Sp,hrk,huk,hvk⟩:=hP
 refine⟨ok,ak,vk,gw,FX,fun t ht=>⟨fun⟨j,oj,hD,G5,hd⟩=>?_,(Sp t ht).2⟩,fun hw w hx=>hrk hw w fun hr=>(he ok gw hr).trans (hx hr),huk,?_⟩
 ·rw[(Sp t ht).1 ⟨j,oj,hD,G5,hd⟩]
  obtain⟨A1,A2,FW⟩:=List.append_of_mem hk
  have hjA:j ∈ A1:=hp.On A1 k (A2++i::B) (by rw[hA,FW];simp) j hD
  exact(keep t j oj (by rw[FW];simp[hjA]) G5 hd).symm
 ·intro d hd cR
  rw[keep d k ok hk gw hd]
  exact hvk d hd (by cases Cb:o.dst <;> rw[Cb] at cR <;> simpa [Act.put] using cR)
theorem Norm.Uz (hp:kF P ops D ord) {a0 an:Act} {done rem rb rb2:List Nat} {i:Nat} {g g2:Env} {h h2 h':H} {o:Oper} {v:Value} (ho:ops[i]? =some o) (he:iw P o=true)
  (hN:Norm P n ops D ord next a0 done (i::rem) rb an g h) (hf:FT P n ops.toList D next rem rb (g.upd o.dst v) h'):
  Norm P n ops D ord next a0 (done++ [i]) rem rb (an.put o.dst v) (g.upd o.dst v) h':=by
 have hA:ord=done++i::rem:=hN.split
 refine⟨by rw[hA];simp,hf,hN.agree.put _ _,?_,?_,?_,?_⟩
 ·rw[<-hN.size];cases o.dst <;> simp[Act.put]
 ·rw[<-hN.defers];cases o.dst <;> rfl
 ·intro t ht
  have h1:an.tmps[t]? =a0.tmps[t]? :=hN.vM t fun k hk=>ht k (by simp[hk])
  rw[<-h1]
  cases Cb:o.dst with
  | none=>rfl
  | some d=>
   have PM:d≠t:=fun e=>ht i (by simp) o ho (by rw[Cb,e])
   show(an.tmps.setIfInBounds d v)[t]? =_
   rw[Array.getElem?_setIfInBounds_ne PM]
 ·intro k hk ok gw FX hr
  simp only[List.mem_append,List.mem_singleton] at hk
  rcases hk with hk | rfl
  ·exact hN.rbs k hk ok gw FX hr
  ·rw[ho] at gw;cases gw;rw[he] at FX;cases FX
theorem Norm.adv (hp:kF P ops D ord) {a0:Act}:∀{rem done rb:List Nat} {an:Act} {g:Env} {h:H},Norm P n ops D ord next a0 done rem rb an g h->
  ∃tz vp Bz DG g',Norm P n ops D ord next a0 (done++tz) vp Bz DG g' h/\(∀i t,vp=i::t->∃o,ops[i]? =some o/\iw P o=true)/\
   (∀k ∈ tz,∃o,ops[k]? =some o/\iw P o=false)/\(∀k ∈ tz,vo P ops D a0 DG k h)/\(∀k ∈ done,vo P ops D a0 an k h->vo P ops D a0 DG k h)/\
   (∀t k ok,k ∈ done->ops[k]? =some ok->ok.dst=some t->DG.tmps[t]? =an.tmps[t]?)
 | [],done,rb,an,g,h,hN=>⟨[],[],rb,an,g,by simpa using hN,(by intro i t e;cases e),by simp,by simp,fun _ _ hP=>hP,fun _ _ _ _ _ _=>rfl⟩
 | i::rem,done,rb,an,g,h,hN=>by
  have hi:i ∈ ord:=by rw[hN.split];simp
  obtain⟨o,ho⟩:∃o,ops[i]? =some o:=⟨_,Array.getElem?_eq_getElem (hp.lt i hi)⟩
  cases he:iw P o with
  | true=>exact⟨[],i::rem,rb,an,g,by simpa using hN,(by intro i' t e;cases e;exact⟨o,ho,he⟩),by simp,by simp,fun _ _ hP=>hP,fun _ _ _ _ _ _=>rfl⟩
  | false=>
   obtain⟨an1,g1,rb1,ZG,hP1,hK1,hT1,_⟩:=hN.one hp ho he
   obtain⟨tz,vp,Bz,DG,g',hN',hh,hm,ZO,hK,hT⟩:=ZG.adv hp
   refine⟨i::tz,vp,Bz,DG,g',by simpa using hN',hh,?_,?_,?_,?_⟩
   ·intro k hk
    rcases List.mem_cons.1 hk with rfl | hk
    ·exact⟨o,ho,he⟩
    ·exact hm k hk
   ·intro k hk
    rcases List.mem_cons.1 hk with rfl | hk
    ·exact hK _ (by simp) hP1
    ·exact ZO k hk
   ·intro k hk hP
    exact hK k (by simp[hk]) (hK1 k hk hP)
   ·intro t k ok hk gw hd
    rw[hT t k ok (by simp[hk]) gw hd,hT1 t k ok hk gw hd]
structure Inv (P:Program) (n:Nat) (ops:Array Oper) (D:Nat->Nat->Bool) (ord:List Nat) (next:Env->H->Prop) (a0:Act) (w0:World) (aK:Array Bool) (a:Act) (w:World)
  (done rem rb:List Nat) (an:Act) (g:Env):Prop where
 norm:Norm P n ops D ord next a0 done rem rb an g w.heap
 head:∀i t,rem=i::t->∃o,ops[i]? =some o/\iw P o=true
 outer:bu w0 w
 DH:aK.size=ops.size
 l1:∀k,aK.getD k false=true->k ∈ done
 l2:∀k ∈ done,∀o,ops[k]? =some o->iw P o=true->aK.getD k false=true
 l3:∀k j,aK.getD k false=true->D k j=true->aK.getD j false=true
 xq:a.tmps.size=a0.tmps.size
 UA:a.defers=a0.defers
 t2:∀k o d,aK.getD k false=true->ops[k]? =some o->o.dst=some d->a.tmps[d]? =an.tmps[d]?
 t3:∀t,(∀k o,aK.getD k false=true->ops[k]? =some o->o.dst≠some t)->a.tmps[t]? =a0.tmps[t]?
 UB:∀k ∈ done,aK.getD k false=false->vo P ops D a0 an k w.heap
theorem vT {l1 l2:List Nat} {i:Nat} (h:(l1++l2).Nodup) (h1:i ∈ l1) (h2:i ∈ l2):False:=(List.nodup_append.1 h).2.2 i h1 i h2 rfl
theorem mK {aK:Array Bool} {i k:Nat} (hk:(aK.setIfInBounds i true).getD k false=true):k=i∨aK.getD k false=true:=by
 by_cases e:k=i
 ·exact .inl e
 ·rw[getD_set_ne false (Ne.symm e)] at hk;exact .inr hk
theorem tW {aK:Array Bool} {i k:Nat} (hk:(aK.setIfInBounds i true).getD k false=false):aK.getD k false=false:=by
 cases h:aK.getD k false with
 | false=>rfl
 | true=>rw[getD_set_true h] at hk;cases hk
theorem PN {aK:Array Bool} {i:Nat} (h:aK.getD i true=false):aK.getD i false=false:=by
 simp only[Array.getD_eq_getD_getElem?] at*
 cases hl:aK[i]? with
 | none=>rfl
 | some b=>rw[hl] at h;exact h
theorem pV {a:Act} {o:Oper} {v:Value} {t:Nat} (h:o.dst≠some t):(a.put o.dst v).tmps[t]? =a.tmps[t]? :=by
 cases Cb:o.dst with
 | none=>rfl
 | some d=>
  have PM:d≠t:=fun e=>h (by rw[Cb,e])
  show(a.tmps.setIfInBounds d v)[t]? =_
  rw[Array.getElem?_setIfInBounds_ne PM]
theorem BA {a:Act} {o:Oper} {v:Value} {d:Nat} (h:o.dst=some d) (cR:d<a.tmps.size):(a.put o.dst v).tmps[d]? =some v:=by
 rw[h]
 show(a.tmps.setIfInBounds d v)[d]? =some v
 simp[Array.getElem?_setIfInBounds,cR]
theorem pr {a:Act} {d:Option Nat} {v:Value}:(a.put d v).tmps.size=a.tmps.size:=by cases d <;> simp[Act.put]
theorem HE {a:Act} {d:Option Nat} {v:Value}:(a.put d v).defers=a.defers:=by cases d <;> rfl
def HF (P:Program) (s:Sem Next) (w:World) (R:Value->World->Prop):Prop:=
 match s.run P w with
 | .ok (.value v) w'=>R v w'
 | .ok .skip w'=>R undef w'
 | .ok (.enter f args) w'=>Calls P f args w' fun e DB=>∃v,e=.returned v/\R v DB
 | _=>False
theorem Mg {ty:TypeId} {h:H} {next:KV} {wr:Bool} {s:Sem Next} (hs:eF P (Sn P ty h next wr) s) (w:World) (hw:w.heap=h):
  HF P s w fun v w'=>bu w w'/\next v w'.heap:=by
 unfold HF
 rcases hs with ⟨v,hk,r⟩ | ⟨t,a,hk,r⟩ | ⟨cs,t,hk,r⟩ | ⟨m,hk,r⟩ | ⟨m,hk,r⟩ | ⟨f,args,hk,r⟩ | ⟨cs,e,n,hk,r⟩ | ⟨l,args,hk,r⟩ | ⟨a,l,hk,h1,r⟩
 ·rw[r w]
  exact⟨bu.refl w,by rw[hw];exact nD (k:=fun v=>next v h) hk⟩
 ·have hk:Ca P t a h (fun v=>fin P ty v fun v=>next v h):=hk
  obtain⟨v,hk,hr⟩:=xh hk
  rw[r,bS (hr w hw)]
  exact⟨bu.refl w,by rw[hw];exact nD (k:=fun v=>next v h) hk⟩
 ·rw[r w]
  refine⟨⟨rfl,rfl,rfl⟩,?_⟩
  subst hw
  exact hk
 ·obtain⟨v,w',hr,ho,hd⟩:=hk w hw
  rw[r w]
  simp only[Sem.run_bind,hr,Result.andThen_ok,Sem.run_pure]
  exact⟨ho,ny hd⟩
 ·obtain⟨w',hr,ho,hd⟩:=hk w hw
  rw[r w]
  simp only[Sem.run_bind,hr,Result.andThen_ok,Sem.run_pure]
  exact⟨ho,hd⟩
 ·rw[r w]
  exact(hk w hw).mono fun e DB ⟨v,he,ho,hd⟩=>⟨v,he,ho,ny hd⟩
 ·rw[r w]
  refine⟨⟨rfl,rfl,rfl⟩,?_⟩
  subst hw
  exact hk
 ·exact hk.elim
 ·have hk:bc a l 0 h fun h'=>next undef h':=hk
  obtain⟨w',hr,ho,hd⟩:=FQ hk h1 w hw
  rw[r w,Sem.run_bind,hr,Result.andThen_ok,Sem.run_pure]
  exact⟨ho,hd⟩
theorem DJ {o:Oper} {a:Act} {w:World} {R:Value->World->Prop} {K:Act->World->Prop} {Q:Exit->Act->World->Prop} (h:HF P (execOp a.eval o) w R)
  (hn:∀v w',R v w'->K (a.put o.dst v) w'):o.wp P a w K Q:=by
 unfold Oper.wp
 unfold HF at h
 generalize (execOp a.eval o).run P w=r at h ⊢
 cases r with
 | halt x w'=>exact h.elim
 | ok nx w'=>
  cases nx with
  | value v=>exact hn _ _ h
  | skip=>exact hn _ _ h
  | enter f args=>
   refine Calls.mono h fun e DB ⟨v,he,hr⟩=>?_
   subst he
   exact hn _ _ hr
  | _=>exact h.elim
end
set_option linter.unusedSimpArgs false
variable {P:Program}
section
variable {ops:Array Oper} {D:Nat->Nat->Bool} {ord:List Nat} {n:Nat} {next:Env->H->Prop}
theorem Inv.UC {a0:Act} {w0 w:World} {aK:Array Bool} {a an:Act} {done rem rb:List Nat} {g:Env} (hp:kF P ops D ord)
  (hI:Inv P n ops D ord next a0 w0 aK a w done rem rb an g) {i:Nat} (hi:i ∈ Region.ready .any ops aK):
  aK.getD i false=false/\∃o,ops[i]? =some o/\∀k,D i k=true->aK.getD k false=true:=by
 obtain⟨h0,o,ho,bm⟩:=mem_ready.1 hi
 refine⟨PN h0,o,ho,fun k hk=>?_⟩
 obtain⟨e,he,hb,mA⟩:=hp.clo i o k ho hk
 have hl:=bm e he hb
 rcases mA with rfl | hD
 ·exact hl
 ·exact hI.l3 _ _ hl hD
theorem Inv.step {a0:Act} {w0 w:World} {aK:Array Bool} {a an:Act} {done rem rb:List Nat} {g:Env} (hp:kF P ops D ord)
  (hI:Inv P n ops D ord next a0 w0 aK a w done rem rb an g) {i:Nat} (hi:i ∈ Region.ready .any ops aK)
  {K:Act->World->Prop} {Q:Exit->Act->World->Prop}
  (hK:∀a' w',(∃ZP vp Bz DG g',Inv P n ops D ord next a0 w0 (aK.setIfInBounds i true) a' w' ZP vp Bz DG g')->K a' w'):
  wpOp P ops Q i K a w:=by
 obtain⟨bQ,o,ho,hD⟩:=hI.UC hp hi
 have cR:i<ops.size:=(Array.getElem?_eq_some_iff.1 ho).1
 have UD:(aK.setIfInBounds i true).getD i false=true:=by simp[hI.DH,cR]
 have Mh:=hp.mem i cR
 have jO:=hp.nd
 rw[hI.norm.split] at Mh jO
 have look:∀(b:Act),(∀t ∈ o.looksAt ops,(∀k ok,D i k=true->ops[k]? =some ok->ok.dst=some t->b.tmps[t]? =an.tmps[t]?)/\
   ((¬∃k ok,D i k=true/\ops[k]? =some ok/\ok.dst=some t)->b.tmps[t]? =a0.tmps[t]?))->∀t ∈ o.looksAt ops,a.tmps[t]? =b.tmps[t]? :=by
  intro b hb t ht
  by_cases hex:∃k ok,D i k=true/\ops[k]? =some ok/\ok.dst=some t
  ·obtain⟨k,ok,hk,gw,hd⟩:=hex
   rw[(hb t ht).1 k ok hk gw hd]
   exact hI.t2 k ok t (hD k hk) gw hd
  ·rw[(hb t ht).2 hex]
   refine hI.t3 t fun k ok hk gw hd=>?_
   have bL:k≠i:=fun e=>by rw[e,bQ] at hk;cases hk
   rcases (hp.dst k i ok o t gw ho bL hd).2 ht with h1 | h1
   ·exact hex ⟨k,ok,h1,gw,hd⟩
   ·have:=hI.l3 k i hk h1
    rw[bQ] at this;cases this
 have t3':∀(v:Value) (t:Nat),(∀k ok,(aK.setIfInBounds i true).getD k false=true->ops[k]? =some ok->ok.dst≠some t)->(a.put o.dst v).tmps[t]? =a0.tmps[t]? :=by
  intro v t ht
  rw[pV (ht i o UD ho)]
  exact hI.t3 t fun k ok hk gw=>ht k ok (getD_set_true hk) gw
 have l3':∀k j,(aK.setIfInBounds i true).getD k false=true->D k j=true->(aK.setIfInBounds i true).getD j false=true:=by
  intro k j hk JK
  rcases mK hk with rfl | hk
  ·exact getD_set_true (hD j JK)
  ·exact getD_set_true (hI.l3 k j hk JK)
 cases he:iw P o with
 | false=>
  have Hz:i ∈ done:=by
   rcases List.mem_append.1 Mh with h1 | h1
   ·exact h1
   ·exfalso
    cases hr:rem with
    | nil=>rw[hr] at h1;cases h1
    | cons j t=>
     obtain⟨oj,G5,PO⟩:=hI.head j t hr
     rw[hr] at h1 jO
     rcases List.mem_cons.1 h1 with rfl | h1
     ·rw[ho] at G5;cases G5;rw[he] at PO;cases PO
     ·obtain⟨A,B,FW⟩:=List.append_of_mem h1
      have:D i j=true:=hp.Uz (done++j::A) i B (by rw[hI.norm.split,hr,FW];simp) j (by simp) oj G5 PO
      exact vT jO (hI.l1 j (hD j this)) (by simp)
  obtain⟨o',ai,v,B9,_,Sp,ku,Ts,afu⟩:=hI.UB i Hz bQ
  rw[ho] at B9;cases B9
  have bm:=look ai fun t ht=>⟨fun k ok hk gw hd=>(Sp t ht).1 ⟨k,ok,hk,gw,hd⟩,fun dk=>(Sp t ht).2 dk⟩
  obtain⟨hex,hwt⟩:=zU (fun cs c=>hp.sel i o cs c ho) bm
  have fin:K (a.put o.dst v) w:=by
   refine hK _ _ ⟨done,rem,rb,an,g,hI.norm,hI.head,hI.outer,by simp[hI.DH],?_,?_,l3',by rw[pr,hI.xq],by rw[HE,hI.UA],?_,t3' v,?_⟩
   ·intro k hk
    rcases mK hk with rfl | hk
    ·exact Hz
    ·exact hI.l1 k hk
   ·intro k hk ok gw FX;exact getD_set_true (hI.l2 k hk ok gw FX)
   ·intro k ok d hk gw hd
    by_cases e:k=i
    ·subst e
     rw[ho] at gw;cases gw
     by_cases hl:d<an.tmps.size
     ·rw[afu d hd hl]
      exact BA hd (by rw[hI.xq,<-hI.norm.size];exact hl)
     ·rw[Array.getElem?_eq_none (by rw[pr,hI.xq,<-hI.norm.size];exact Nat.le_of_not_lt hl),Array.getElem?_eq_none (Nat.le_of_not_lt hl)]
    ·rcases mK hk with e2 | hk
     ·exact absurd e2 e
     ·rw[pV (fun Cb=>(hp.dst k i ok o d gw ho e hd).1 Cb)]
      exact hI.t2 k ok d hk gw hd
   ·intro k hk dJ
    exact hI.UB k hk (tW dJ)
  unfold wpOp
  rw[ho]
  simp only
  by_cases hw:Region.wanted o (yielded ops a.tmps)=true
  ·rw[if_pos hw]
   refine .inl ?_
   unfold Oper.wp
   rw[hex,ku (by rw[<-hwt];exact hw) w fun _=>bG.refl _]
   exact fin
  ·rw[if_neg hw]
   have hv:=Ts (by rw[<-hwt];simpa using hw)
   rw[<-hv]
   exact fin
 | true=>
  have Mi:i ∉ done:=fun hd=>by
   have:=hI.l2 i hd o ho he
   rw[bQ] at this;cases this
  obtain⟨t,hr⟩:∃t,rem=i::t:=by
   rcases List.mem_append.1 Mh with h1 | h1
   ·exact absurd h1 Mi
   ·cases hr:rem with
    | nil=>rw[hr] at h1;cases h1
    | cons j t=>
     obtain⟨oj,G5,PO⟩:=hI.head j t hr
     rw[hr] at h1 jO
     rcases List.mem_cons.1 h1 with rfl | h1
     ·exact⟨t,rfl⟩
     ·exfalso
      obtain⟨A,B,FW⟩:=List.append_of_mem h1
      have:D i j=true:=hp.Uz (done++j::A) i B (by rw[hI.norm.split,hr,FW];simp) j (by simp) oj G5 PO
      exact vT jO (hI.l1 j (hD j this)) (by simp)
  subst hr
  have hA:ord=done++i::t:=hI.norm.split
  have bm:=look an fun t' ht=>⟨fun _ _ _ _ _=>rfl,fun dk=>hI.norm.vM t' fun k hk ok gw hd=>by
   have bL:k≠i:=fun e=>Mi (e▸hk)
   rcases (hp.dst k i ok o t' gw ho bL hd).2 ht with h1 | h1
   ·exact dk ⟨k,ok,h1,gw,hd⟩
   ·obtain⟨A,B,FW⟩:=List.append_of_mem hk
    have:i ∈ A:=hp.On A k (B++i::t) (by rw[hA,FW];simp) i h1
    exact Mi (by rw[FW];simp[this])⟩
  obtain⟨hex,hwt⟩:=zU (fun cs c=>hp.sel i o cs c ho) bm
  have fin:∀(v:Value) (w':World),bu w w'->FT P n ops.toList D next t rb (g.upd o.dst v) w'.heap->(∀r ∈ rb,D i r=false->bG w.heap w'.heap)->K (a.put o.dst v) w':=by
   intro v w' PQ hf afv
   have ZG:=Norm.Uz (rb2:=[]) (g2:=g) (h2:=w.heap) hp ho he hI.norm hf
   have hP1:∀k ∈ done,aK.getD k false=false->vo P ops D a0 (an.put o.dst v) k w'.heap:=fun k hk dJ=>
    vo.put hp ho hA hk (fun ok gw Bl=>by
     cases FX:iw P ok with
     | true=>
      have:=hI.l2 k hk ok gw FX
      rw[dJ] at this;cases this
     | false=>
      refine afv k (hI.norm.rbs k hk ok gw FX Bl) ?_
      cases hDk:D i k with
      | false=>rfl
      | true=>have:=hD k hDk;rw[dJ] at this;cases this) (hI.UB k hk dJ)
   obtain⟨tz,vp,Bz,DG,g',hN2,hh,hm,ZO,ZB,hT⟩:=ZG.adv hp
   have afw:(done++ [i]++tz++vp).Nodup:=by
    have:=hp.nd
    rw[hN2.split] at this
    exact this
   have hinm:∀k ∈ tz,aK.getD k false=false:=fun k hk=>by
    cases dJ:aK.getD k false with
    | false=>rfl
    | true=>
     have h1:=hI.l1 k dJ
     exact(vT (i:=k) (l1:=done++ [i]) (l2:=tz++vp) (by simpa using afw) (by simp[h1]) (by simp[hk])).elim
   refine hK _ _ ⟨done++ [i]++tz,vp,Bz,DG,g',hN2,hh,hI.outer.trans PQ,by simp[hI.DH],?_,?_,l3',by rw[pr,hI.xq],by rw[HE,hI.UA],?_,t3' v,?_⟩
   ·intro k hk
    rcases mK hk with rfl | hk
    ·simp
    ·simp[hI.l1 k hk]
   ·intro k hk ok gw FX
    rcases List.mem_append.1 hk with hk | hk
    ·rcases List.mem_append.1 hk with hk | hk
     ·exact getD_set_true (hI.l2 k hk ok gw FX)
     ·rw[List.mem_singleton] at hk;subst hk;exact UD
    ·obtain⟨Iw,ZQ,ZR⟩:=hm k hk
     rw[gw] at ZQ;cases ZQ;rw[FX] at ZR;cases ZR
   ·intro k ok d hk gw hd
    by_cases e:k=i
    ·subst e
     rw[ho] at gw;cases gw
     rw[hT d k o (by simp) ho hd]
     by_cases hl:d<an.tmps.size
     ·rw[BA hd hl]
      exact BA hd (by rw[hI.xq,<-hI.norm.size];exact hl)
     ·rw[Array.getElem?_eq_none (by rw[pr,hI.xq,<-hI.norm.size];exact Nat.le_of_not_lt hl),Array.getElem?_eq_none (by rw[pr];exact Nat.le_of_not_lt hl)]
    ·rcases mK hk with e2 | hk
     ·exact absurd e2 e
     ·have Cb:=(hp.dst k i ok o d gw ho e hd).1
      rw[pV Cb,hT d k ok (by simp[hI.l1 k hk]) gw hd,pV Cb]
      exact hI.t2 k ok d hk gw hd
   ·intro k hk dJ
    rcases List.mem_append.1 hk with hk | hk
    ·rcases List.mem_append.1 hk with hk | hk
     ·exact ZB k (by simp[hk]) (hP1 k hk (tW dJ))
     ·rw[List.mem_singleton] at hk;subst hk;rw[UD] at dJ;cases dJ
    ·exact ZO k hk
  have hf:=hI.norm.form
  unfold FT at hf
  rw[mem_toList ho] at hf
  simp only[he,cond] at hf
  unfold wpOp
  rw[ho]
  simp only
  rw[hwt,sO hI.norm.agree]
  cases hw:qX n ops.toList g o with
  | true=>
   rw[hw] at hf
   simp only at hf
   rw[if_pos rfl]
   refine .inl ?_
   rw[<-hI.norm.agree.eval] at hf
   have hE:=Mg (xo hf) w rfl
   rw[<-hex] at hE
   refine DJ hE fun v w' hvw=>?_
   have hn:=FP hvw.2
   have PQ:=hvw.1
   cases hb:rb.any fun r=>!D i r with
   | true=>
    rw[hb] at hn
    exact fin v w' PQ hn.2 fun _ _ _=>hn.1
   | false=>
    rw[hb] at hn
    refine fin v w' PQ hn fun r hr hDr=>?_
    have:(rb.any fun r=>!D i r)=true:=List.any_eq_true.2 ⟨r,hr,by rw[hDr];rfl⟩
    rw[hb] at this;cases this
  | false=>
   rw[hw] at hf
   simp only[Bool.false_eq_true,if_false]
   exact fin undef w (bu.refl w) hf fun _ _ _=>bG.refl _
theorem Inv.none {a0:Act} {w0 w:World} {aK:Array Bool} {a an:Act} {done rem rb:List Nat} {g:Env} (hp:kF P ops D ord)
  (hI:Inv P n ops D ord next a0 w0 aK a w done rem rb an g) (hr:Region.ready .any ops aK=[]):∃g,dV n a g/\next g w.heap/\bu w0 w:=by
 have all:∀(B A:List Nat),ord=A++B->(∀k ∈ A,aK.getD k false=true)->∀k ∈ ord,aK.getD k false=true:=by
  intro B
  induction B with
  | nil=>intro A e hA k hk;rw[e] at hk;simp at hk;exact hA k hk
  | cons i B ih=>
   intro A e hA
   refine ih (A++ [i]) (by rw[e];simp) fun k hk=>?_
   rcases List.mem_append.1 hk with hk | hk
   ·exact hA k hk
   ·rw[List.mem_singleton] at hk
    subst hk
    have cR:=hp.lt k (by rw[e];simp)
    cases hl:aK.getD k false with
    | true=>rfl
    | false=>
     exfalso
     have:k ∈ Region.ready .any ops aK:=by
      refine mem_ready.2 ⟨?_,ops[k],Array.getElem?_eq_getElem cR,fun e' he' hb=>?_⟩
      ·simp only[Array.getD_eq_getD_getElem?] at hl ⊢
       rw[Array.getElem?_eq_getElem (by rw[hI.DH];exact cR)] at hl ⊢
       exact hl
      ·exact hA _ (hp.On A k B e _ (hp.dir k _ (Array.getElem?_eq_getElem cR) e' he' hb))
     rw[hr] at this;cases this
 have bm:=all ord [] rfl (fun k hk=>by cases hk)
 have afx:rem=[]:=by
  cases h:rem with
  | nil=>rfl
  | cons j t=>
   exfalso
   have hs:=hI.norm.split
   rw[h] at hs
   have jO:=hp.nd
   rw[hs] at jO
   exact vT jO (hI.l1 j (bm j (by rw[hs];simp))) (by simp)
 have hf:=hI.norm.form
 rw[afx] at hf
 refine⟨g,?_,hf,hI.outer⟩
 have LS:=hI.norm.agree
 have heq:∀t:Nat,a.tmps[t]? =an.tmps[t]? :=by
  intro t
  by_cases hex:∃k ok,aK.getD k false=true/\ops[k]? =some ok/\ok.dst=some t
  ·obtain⟨k,ok,hk,gw,hd⟩:=hex
   exact hI.t2 k ok t hk gw hd
  ·rw[hI.t3 t fun k ok hk gw hd=>hex ⟨k,ok,hk,gw,hd⟩]
   refine(hI.norm.vM t fun k hk ok gw hd=>hex ⟨k,ok,bm k ?_,gw,hd⟩).symm
   rw[hI.norm.split];simp[hk]
 refine⟨by rw[hI.UA,<-hI.norm.defers];exact LS.ds,by rw[hI.xq,<-hI.norm.size];exact LS.size,fun j hj=>?_⟩
 have:=LS.tmp j hj
 simp only[Array.getD_eq_getD_getElem?] at this ⊢
 rw[heq j];exact this
theorem DL {l:List Nat} {p q:Nat->Bool} {i:Nat} (hi:i ∈ l) (hp:p i=true) (hq:q i=false) (TV:∀k,q k=true->p k=true):(l.filter q).length<(l.filter p).length:=by
 induction l with
 | nil=>cases hi
 | cons x l ih=>
  have le:(l.filter q).length<=(l.filter p).length:=by
   have e:l.filter q=(l.filter p).filter q:=by
    rw[List.filter_filter]
    refine List.filter_congr fun k _=>?_
    cases hk:q k with
    | false=>simp
    | true=>simp[TV k hk]
   rw[e];exact List.length_filter_le _ _
  rcases List.mem_cons.1 hi with rfl | hi
  ·rw[List.filter_cons,List.filter_cons,hp,hq]
   simp;omega
  ·have:=ih hi
   cases hx:q x with
   | true=>simp[List.filter_cons,hx,TV x hx];omega
   | false=>
    cases Ey:p x with
    | true=>simp[List.filter_cons,hx,Ey];omega
    | false=>simp[List.filter_cons,hx,Ey];omega
theorem xr (hp:kF P ops D ord) {a0:Act} {w0:World} {Q:de} (hQ:∀g h,next g h->Q .normal g h):∀(fuel:Nat) (aK:Array Bool) (a:Act) (w:World),
  (∃done rem rb an g,Inv P n ops D ord next a0 w0 aK a w done rem rb an g)->(ord.filter fun k=>!aK.getD k false).length<=fuel->wpAny P .any ops (lift n w0 Q) fuel aK a w
 | 0,aK,a,w,⟨done,rem,rb,an,g,hI⟩,hc=>by
  have hr:Region.ready .any ops aK=[]:=by
   cases h:Region.ready .any ops aK with
   | nil=>rfl
   | cons i t=>
    exfalso
    obtain⟨h0,o,ho,_⟩:=hI.UC (i:=i) hp (by rw[h];simp)
    have hm:i ∈ ord.filter fun k=>!aK.getD k false:=List.mem_filter.2 ⟨hp.mem i (Array.getElem?_eq_some_iff.1 ho).1,by rw[h0];rfl⟩
    have:=List.length_pos_of_mem hm
    omega
  obtain⟨g,ha,hn,ho⟩:=hI.none hp hr
  exact⟨hr,g,ha,hQ _ _ hn,ho⟩
 | fuel+1,aK,a,w,⟨done,rem,rb,an,g,hI⟩,hc=>by
  refine⟨fun hr=>?_,fun i hi=>?_⟩
  ·obtain⟨g,ha,hn,ho⟩:=hI.none hp hr
   exact⟨g,ha,hQ _ _ hn,ho⟩
  ·refine hI.step hp hi fun a' w' hI'=>xr hp hQ fuel _ _ _ hI' ?_
   obtain⟨h0,o,ho,_⟩:=hI.UC hp hi
   have cR:=(Array.getElem?_eq_some_iff.1 ho).1
   have:=DL (l:=ord) (p:=fun k=>!aK.getD k false) (q:=fun k=>!(aK.setIfInBounds i true).getD k false) (i:=i) (hp.mem i cR) (by simp only[h0,Bool.not_false])
    (by simp[hI.DH,cR]) (fun k hk=>by simp only[Bool.not_eq_true'] at hk ⊢;exact tW hk)
   omega
theorem Hr (hp:kF P ops D ord) {g:Env} {a:Act} {w0 w:World} {Q:de} (hQ:∀g h,next g h->Q .normal g h) (hx:FT P n ops.toList D next ord [] g w.heap) (ha:dV n a g) (ho:bu w0 w)
  (hs:ord.length<=ops.size):wpAny P .any ops (lift n w0 Q) ops.size (Array.replicate ops.size false) a w:=by
 have hN0:Norm P n ops D ord next a [] ord [] a g w.heap:=⟨rfl,hx,ha,rfl,rfl,fun _ _=>rfl,fun k hk=>by cases hk⟩
 obtain⟨tz,vp,Bz,DG,g',hN2,hh,hm,ZO,_,_⟩:=hN0.adv hp
 have dk:∀k,(Array.replicate ops.size false).getD k false=false:=fun k=>by
  simp only[Array.getD_eq_getD_getElem?,Array.getElem?_replicate]
  split <;> rfl
 refine xr hp hQ _ _ a w ⟨[]++tz,vp,Bz,DG,g',hN2,hh,ho,by simp,?_,?_,?_,rfl,rfl,?_,fun _ _=>rfl,?_⟩ (Nat.le_trans (List.length_filter_le _ _) hs)
 ·intro k hk;rw[dk] at hk;cases hk
 ·intro k hk o gw he
  obtain⟨o2,PF,he2⟩:=hm k (by simpa using hk)
  rw[gw] at PF;cases PF;rw[he] at he2;cases he2
 ·intro k j hk;rw[dk] at hk;cases hk
 ·intro k o d hk;rw[dk] at hk;cases hk
 ·intro k hk _;exact ZO k (by simpa using hk)
theorem Mj {ro:Option Nat} {id:Nat} {Q:de} {g:Env} {h:H} (hm:P.follows .mixedOrders=true)
  (hp:kF P ops D ord) (hs:ord.length<=ops.size) (jO:fS ops.toList=true) (hx:FT P n ops.toList D (Q .normal) ord [] g h) (w0 w:World) (a:Act)
  (hw:w.heap=h) (ho:bu w0 w) (ha:dV n a g):(Code.region id ops true).wpIn (Fr ro) 0 P (lift n w0 Q) a w:=by
 refine wpIn_region_draw fun t=>?_
 refine cK kz (kD jO) _ _ _ ?_
 simp only[Region.schedule,hm,Bool.true_or,if_true]
 refine wpAny_sound ops.size t _ a _ ?_
 exact Hr (next:=Q .normal) hp (fun _ _ h=>h) (by subst hw;exact hx) ha ⟨ho.tape,ho.os,ho.output⟩ hs
end
set_option linter.unusedSimpArgs false
variable {P:Program}
def LA (ms:List Nat) (o:Oper):Nat:=o.after.toList.foldl (fun m e=>cond (Region.binds .any e) (m||| (1<<<e.on)||| ms.getD e.on 0) m) 0
def lz:List Oper->List Nat->List Nat
 | [],ms=>ms
 | o::l,ms=>lz l (ms++ [LA ms o])
def Se (ms:List Nat) (s i k:Nat):Bool:=cond (Nat.blt k s) ((ms.getD i 0).testBit k) false
def FY (P:Program) (ops:List Oper) (ms:List Nat) (A:Nat) (Uz:Bool):List Nat->Option Nat
 | []=>none
 | i::l=>
  match ops[i]? with
  | none=>none
  | some o=>cond (!A.testBit i&&Nat.beq (ms.getD i 0&&& A) (ms.getD i 0)&&(Uz||!iw P o)) (some i) (FY P ops ms A Uz l)
def HG (P:Program) (ops:List Oper) (ms:List Nat):Nat->Nat->List Nat
 | 0,_=>[]
 | f+1,A=>
  match FY P ops ms A false (List.range ops.length) with
  | some i=>i::HG P ops ms f (A||| (1<<<i))
  | none=>
   match FY P ops ms A true (List.range ops.length) with
   | some i=>i::HG P ops ms f (A||| (1<<<i))
   | none=>[]
def FZ (i:Nat) (l:List Nat):Bool:=l.any fun j=>Nat.beq j i
theorem HH {i:Nat} {l:List Nat} (h:FZ i l=true):i ∈ l:=by
 obtain⟨j,hj,e⟩:=List.any_eq_true.1 h
 rw[<-Nat.eq_of_beq_eq_true e];exact hj
def BB:List Nat->Bool
 | []=>true
 | i::l=>!FZ i l&&BB l
theorem zV:∀{l:List Nat},BB l=true->l.Nodup
 | [],_=>List.nodup_nil
 | i::l,h=>by
  simp only[BB,Bool.and_eq_true,Bool.not_eq_true'] at h
  refine List.nodup_cons.2 ⟨fun hm=>?_,zV h.2⟩
  have:FZ i l=true:=List.any_eq_true.2 ⟨i,hm,Nat.beq_refl i⟩
  rw[h.1] at this;cases this
def allI (l:List Oper) (k:Nat) (p:Nat->Oper->Bool):Bool:=
 match l with
 | []=>true
 | o::l=>p k o&&allI l (k+1) p
theorem pX {p:Nat->Oper->Bool}:∀{l:List Oper} {k:Nat},allI l k p=true->∀j o,l[j]? =some o->p (k+j) o=true
 | [],k,h,j,o,hj=>by simp at hj
 | x::l,k,h,j,o,hj=>by
  simp only[allI,Bool.and_eq_true] at h
  cases j with
  | zero=>simp at hj;subst hj;exact h.1
  | succ j=>
   have:=pX h.2 j o (by simpa using hj)
   rwa[show k+1+j=k+(j+1) by omega] at this
def PT (P:Program) (ops:List Oper) (D:Nat->Nat->Bool):List Nat->List Nat->Bool
 | _,[]=>true
 | A,i::l=>
  allI ops 0 (fun k _=>!D i k||FZ k A)&&
  A.all (fun k=>match ops[k]? with | some o=>!iw P o||D i k | none=>true)&&PT P ops D (i::A) l
theorem BC {ops:List Oper} {D:Nat->Nat->Bool}:∀{l A0:List Nat},PT P ops D A0 l=true->∀A i B,l=A++i::B->
  (∀k,k<ops.length->D i k=true->k ∈ A∨k ∈ A0)/\(∀k,(k ∈ A∨k ∈ A0)->∀o,ops[k]? =some o->iw P o=true->D i k=true)
 | [],A0,h,A,i,B,e=>by simp at e
 | x::l,A0,h,A,i,B,e=>by
  simp only[PT,Bool.and_eq_true] at h
  cases A with
  | nil=>
   simp at e
   obtain⟨rfl,rfl⟩:=e
   refine⟨fun k hk hD=>.inr ?_,fun k hk o ho he=>?_⟩
   ·have:=pX h.1.1 k ops[k] (List.getElem?_eq_getElem hk)
    simp only[Nat.zero_add,hD,Bool.not_true,Bool.false_or] at this
    exact HH this
   ·have:=(List.all_eq_true.1 h.1.2) k (by simpa using hk)
    rw[ho] at this
    simpa [he] using this
  | cons y A=>
   simp at e
   obtain⟨rfl,e⟩:=e
   obtain⟨h1,h2⟩:=BC h.2 A i B e
   refine⟨fun k hk hD=>?_,fun k hk=>h2 k ?_⟩
   ·rcases h1 k hk hD with h | h
    ·exact .inl (by simp[h])
    ·rcases List.mem_cons.1 h with rfl | h
     ·exact .inl (by simp)
     ·exact .inr h
   ·rcases hk with h | h
    ·rcases List.mem_cons.1 h with rfl | h
     ·exact .inr (by simp)
     ·exact .inl h
    ·exact .inr (by simp[h])
def Sq (o:Oper):Bool:=
 match o.op with
 | .select _ _=>true
 | _=>false
def Mk (P:Program) (ops:List Oper) (D:Nat->Nat->Bool) (ord:List Nat):Bool:=
 BB ord&&Nat.beq ord.length ops.length&&ord.all (fun i=>Nat.blt i ops.length)&&allI ops 0 (fun i _=>FZ i ord)&&
 PT P ops D [] ord&&
 allI ops 0 (fun i o=>!Sq o&&
  o.after.toList.all (fun e=>!Region.binds .any e||(Nat.blt e.on ops.length&&D i e.on))&&
  allI ops 0 (fun k ok=>!D i k||o.after.toList.any (fun e=>Region.binds .any e&&(Nat.beq e.on k||D e.on k)))&&
  (match o.dst with
   | none=>true
   | some d=>allI ops 0 (fun k ok=>Nat.beq i k||((match ok.dst with | some d'=>!Nat.beq d' d | none=>true)&&(!FZ d (ok.looksAt ops.toArray)||D k i||D i k)))))
theorem kG {ops:Array Oper} {i:Nat} {o:Oper} (h:ops[i]? =some o):ops.toList[i]? =some o:=by rw[Array.getElem?_toList];exact h
theorem Dr {ops:Array Oper} {D:Nat->Nat->Bool} {ord:List Nat} (hD:∀i k,D i k=true->k<ops.size) (h:Mk P ops.toList D ord=true):kF P ops D ord/\ord.length<=ops.size:=by
 simp only[Mk,Bool.and_eq_true] at h
 obtain⟨⟨⟨⟨⟨h1,h2⟩,h3⟩,h4⟩,h5⟩,h6⟩:=h
 have hs:∀i (o:Oper),ops[i]? =some o->i<ops.size:=fun i o h=>(Array.getElem?_eq_some_iff.1 h).1
 have h6':=fun i o (ho:ops[i]? =some o)=>pX h6 i o (kG ho)
 refine⟨⟨zV h1,?_,?_,?_,?_,?_,?_,?_,?_⟩,?_⟩
 ·intro i hi
  have:=pX h4 i ops[i] (kG (Array.getElem?_eq_getElem hi))
  rw[Nat.zero_add] at this
  exact HH this
 ·intro i hi
  have:=(List.all_eq_true.1 h3) i hi
  have:=pS this
  simpa using this
 ·intro i o k ho hDk
  have hk:=hD i k hDk
  have:=h6' i o ho
  simp only[Bool.and_eq_true,Nat.zero_add] at this
  have:=pX this.1.2 k ops[k] (kG (Array.getElem?_eq_getElem hk))
  simp only[Nat.zero_add,hDk,Bool.not_true,Bool.false_or] at this
  obtain⟨e,he,hb⟩:=List.any_eq_true.1 this
  simp only[Bool.and_eq_true,Bool.or_eq_true] at hb
  exact⟨e,by simpa using he,hb.1,hb.2.imp Nat.eq_of_beq_eq_true id⟩
 ·intro i o ho e he hb
  have:=h6' i o ho
  simp only[Bool.and_eq_true,Nat.zero_add] at this
  have:=(List.all_eq_true.1 this.1.1.2) e (by simpa using he)
  rw[hb] at this
  simp only[Bool.not_true,Bool.false_or,Bool.and_eq_true] at this
  exact this.2
 ·intro A i B e k hk
  have:=(BC h5 A i B e).1 k (by simpa using hD i k hk) hk
  simpa using this
 ·intro A i B e k hk o ho he
  exact(BC h5 A i B e).2 k (.inl hk) o (kG ho) he
 ·intro i k oi ok d hoi gw bL hd
  have:=h6' i oi hoi
  simp only[Bool.and_eq_true,Nat.zero_add] at this
  have:=this.2
  rw[hd] at this
  have:=pX this k ok (kG gw)
  have hb:Nat.beq i k=false:=by
   cases hb:Nat.beq i k with
   | false=>rfl
   | true=>exact absurd (Nat.eq_of_beq_eq_true hb) bL
  simp only[Nat.zero_add,hb,Bool.false_or,Bool.and_eq_true] at this
  refine⟨fun e=>?_,fun hm=>?_⟩
  ·have h1:=this.1
   rw[e] at h1
   simp at h1
  ·have h2:=this.2
   have hmb:FZ d (ok.looksAt ops.toList.toArray)=true:=List.any_eq_true.2 ⟨d,by simpa using hm,Nat.beq_refl d⟩
   rw[hmb] at h2
   simpa using h2
 ·intro j o cs b ho e
  have:=h6' j o ho
  simp only[Bool.and_eq_true,Nat.zero_add,Bool.not_eq_true'] at this
  have:=this.1.1.1
  unfold Sq at this
  rw[e] at this
  cases this
 ·have:=Nat.eq_of_beq_eq_true h2
  simp at this
  omega
theorem LB {ms:List Nat} {s i k:Nat} (h:Se ms s i k=true):k<s:=by
 unfold Se at h
 cases hb:Nat.blt k s with
 | true=>exact pS hb
 | false=>rw[hb] at h;cases h
def xe (P:Program) (n:Nat) (ops:List Oper) (ms:List Nat) (next:Env->H->Prop) (g:Env) (h:H):Prop:=
 FT P n ops (Se ms ops.length) next (HG P ops ms ops.length 0) [] g h
def iT (P:Program) (ops:List Oper) (ms:List Nat):Bool:=Mk P ops (Se ms ops.length) (HG P ops ms ops.length 0)&&fS ops
theorem IX {ro:Option Nat} {n id:Nat} {ops:Array Oper} {Q:de} {g:Env} {h:H} (hm:P.follows .mixedOrders=true)
  (hp:iT P ops.toList (lz ops.toList [])=true) (hx:xe P n ops.toList (lz ops.toList []) (Q .normal) g h) (w0 w:World) (a:Act)
  (hw:w.heap=h) (ho:bu w0 w) (ha:dV n a g):(Code.region id ops true).wpIn (Fr ro) 0 P (lift n w0 Q) a w:=by
 simp only[iT,Bool.and_eq_true] at hp
 obtain⟨h1,h2⟩:=Dr (fun i k hk=>by have:=LB hk;simpa using this) hp.1
 exact Mj hm h1 h2 hp.2 hx w0 w a hw ho ha
end Go.Sh
