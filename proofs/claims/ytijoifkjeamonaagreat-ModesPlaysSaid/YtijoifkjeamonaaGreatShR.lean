import Derived.Test.YtijoifkjeamonaaGreatShJ
namespace Go.Sh
open Go
set_option linter.unusedVariables false
inductive Kd where
 | i (k:IntKind)
 | b
 | s
 | l
 | p
 | m
 | a
 | r
inductive Sl where
 | o (i:Nat) (k:Kd)
 | g (i:Nat) (ks:List Kd)
@[reducible] def KT (R:Type):Kd->Type
 | .i _=>Int->R
 | .b=>Bool->R
 | .s=>List UInt8->R
 | .l=>OA->Nat->Nat->R
 | .p=>OA->R
 | .m=>Option Nat->R
 | .a=>Addr->R
 | .r=>Value->R
@[reducible] def Se (R:Type):List Kd->Type
 | []=>R
 | k::ks=>KT (Se R ks) k
@[reducible] def TK:List Sl->Type
 | []=>H->Prop
 | .o _ k::l=>KT (TK l) k
 | .g _ ks::l=>Se (TK l) ks
def dK {R:Type}:(k:Kd)->Value->KT R k->(R->Prop)->Prop
 | .i kd,v,K,c=>aL kd v fun x=>c (K x)
 | .b,v,K,c=>au v fun x=>c (K x)
 | .s,v,K,c=>gU v fun x=>c (K x)
 | .l,v,K,c=>aA v fun b n m=>c (K b n m)
 | .p,v,K,c=>lr v fun x=>c (K x)
 | .m,v,K,c=>LD v fun x=>c (K x)
 | .a,v,K,c=>uP v fun x=>c (K x)
 | .r,v,K,c=>c (K v)
def U6 {R:Type}:(ks:List Kd)->List Value->Se R ks->(R->Prop)->Prop
 | [],l,K,c=>dc l (c K)
 | k::ks,l,K,c=>aH l fun e t=>dK k e K fun K'=>U6 ks t K' c
def dL (g:Env) (h:H):(l:List Sl)->TK l->Prop
 | [],K=>K h
 | .o i k::l,K=>dK k (g.v i) K fun K'=>dL g h l K'
 | .g i ks::l,K=>lv (g.v i) fun t=>U6 ks t K fun K'=>dL g h l K'
def DK (l:List Sl) (K:TK l) (g:Env) (h:H):Prop:=LC g.ds (dL g h l K)
def eK {R:Type}:(k:Kd)->KT R k->(R->Value->Prop)->Prop
 | .i kd,K,c=>∀{x:Int},c (K x) (.int kd x)
 | .b,K,c=>∀{x:Bool},c (K x) (.bool x)
 | .s,K,c=>∀{x:List UInt8},c (K x) (S x)
 | .l,K,c=>∀{b:OA} {n m:Nat},c (K b n m) (.slice b n m)
 | .p,K,c=>∀{x:OA},c (K x) (.pointer x)
 | .m,K,c=>∀{x:Option Nat},c (K x) (.map x)
 | .a,K,c=>∀{x:Addr},c (K x) (.pointer (some x))
 | .r,K,c=>∀{x:Value},c (K x) x
def ZK {R:Type}:(ks:List Kd)->Se R ks->(R->List Value->Prop)->Prop
 | [],K,c=>c K []
 | k::ks,K,c=>eK k K fun K' v=>ZK ks K' fun K'' vs=>c K'' (v::vs)
def EL (g:Env) (h:H) (p:Prop):(l:List Sl)->TK l->HL->Prop
 | [],K,acc=>mQ g acc->K h->p
 | .o i k::l,K,acc=>eK k K fun K' v=>EL g h p l K' ((i,v)::acc)
 | .g i ks::l,K,acc=>ZK ks K fun K' vs=>EL g h p l K' ((i,.agg ⟨vs⟩)::acc)
theorem MD {R:Type} {c:R->Prop} {d:R->Value->Prop}:∀{k:Kd} {v:Value} {K:KT R k},dK k v K c->eK k K d->∃K',c K'/\d K' v
 | .i kd,v,K,hq,f=>by obtain⟨x,rfl,q⟩:=Ho hq;exact⟨_,q,f⟩
 | .b,v,K,hq,f=>by obtain⟨x,rfl,q⟩:=DA hq;exact⟨_,q,f⟩
 | .s,v,K,hq,f=>by
  have hq:gU v fun x=>c (K x):=hq
  obtain⟨x,rfl,q⟩:=Hp hq
  exact⟨_,q,f⟩
 | .l,v,K,hq,f=>by obtain⟨b,n,m,rfl,q⟩:=zL hq;exact⟨_,q,f⟩
 | .p,v,K,hq,f=>by obtain⟨x,rfl,q⟩:=Hq hq;exact⟨_,q,f⟩
 | .m,v,K,hq,f=>by obtain⟨x,rfl,q⟩:=Hr hq;exact⟨_,q,f⟩
 | .a,v,K,hq,f=>by obtain⟨x,rfl,q⟩:=kO hq;exact⟨_,q,f⟩
 | .r,v,K,hq,f=>⟨_,hq,f⟩
theorem Ga {R:Type} {c:R->Prop}:∀{ks:List Kd} {d:R->List Value->Prop} {t:List Value} {K:Se R ks},U6 ks t K c->ZK ks K d->∃K',c K'/\d K' t
 | [],d,t,K,hq,f=>by obtain⟨rfl,q⟩:=xo hq;exact⟨K,q,f⟩
 | k::ks,d,t,K,hq,f=>by
  obtain⟨e,t2,rfl,q⟩:=ql hq
  obtain⟨K1,q1,f1⟩:=MD q f
  exact Ga (d:=fun K'' vs=>d K'' (e::vs)) q1 f1
theorem ME {g:Env} {h:H} {p:Prop}:∀{l:List Sl} {K:TK l} {acc:HL},dL g h l K->mQ g acc->EL g h p l K acc->p
 | [],K,acc,hq,ha,f=>f ha hq
 | .o i k::l,K,acc,hq,ha,f=>by
  obtain⟨K1,q,f1⟩:=MD hq f
  exact ME (acc:=(i,g.v i)::acc) q ⟨rfl,ha⟩ f1
 | .g i ks::l,K,acc,hq,ha,f=>by
  obtain⟨t,e,q⟩:=Bq hq
  obtain⟨K1,q1,f1⟩:=Ga q f
  exact ME (acc:=(i,.agg ⟨t⟩)::acc) q1 ⟨e,ha⟩ f1
theorem D0 {l:List Sl} {K:TK l} {g:Env} {h:H} {p:Prop} (hq:DK l K g h) (f:EL g h p l K []):p:=ME (Dz hq).2 (Dz hq).1 f
theorem mQ.snoc {g:Env} {i:Nat} {v:Value}:∀{l:HL},mQ g l->g.v i=v->mQ g (l++ [(i,v)])
 | [],h,e=>⟨e,h⟩
 | _::_,h,e=>⟨h.1,mQ.snoc h.2 e⟩
abbrev zS (h:H) (a:Addr) (K:OA->Nat->Nat->Prop):Prop:=∃b n c,cell h a=some (.slice b n c)/\K b n c
abbrev zI (k:IntKind) (h:H) (a:Addr) (K:Int->Prop):Prop:=∃i,cell h a=some (.int k i)/\K i
abbrev zT (h:H) (a:Addr) (K:List UInt8->Prop):Prop:=∃s,cell h a=some (S s)/\K s
abbrev zB (h:H) (a:Addr) (K:Bool->Prop):Prop:=∃b,cell h a=some (.bool b)/\K b
abbrev zP (h:H) (a:Addr) (K:OA->Prop):Prop:=∃p,cell h a=some (.pointer p)/\K p
abbrev Zp (i:Nat):=Sl.o i .p
abbrev Zl (i:Nat):=Sl.o i .l
abbrev Zs (i:Nat):=Sl.o i .s
abbrev Zb (i:Nat):=Sl.o i .b
abbrev Za (i:Nat):=Sl.o i .a
abbrev Zr (i:Nat):=Sl.o i .r
abbrev Z6 (i:Nat):=Sl.o i (.i .i64)
abbrev Z8 (i:Nat):=Sl.o i (.i .u8)
@[reducible] def aB (l:List Sl) (F:TK l->Prop) (k:TK l):Prop:=F k
def KF:(l:List Sl)->TK l
 | []=>fun _=>False
 | .o _ k::l=>kf k (KF l)
 | .g _ ks::l=>kfs ks (KF l)
where
 kf {R:Type}:(k:Kd)->R->KT R k
  | .i _,r=>fun _=>r
  | .b,r=>fun _=>r
  | .s,r=>fun _=>r
  | .l,r=>fun _ _ _=>r
  | .p,r=>fun _=>r
  | .m,r=>fun _=>r
  | .a,r=>fun _=>r
  | .r,r=>fun _=>r
 kfs {R:Type}:(ks:List Kd)->R->Se R ks
  | [],r=>r
  | k::ks,r=>kf k (kfs ks r)
theorem Sf {R:Type} {r:R} {d:R->Value->Prop}:∀{k:Kd},(∀v,d r v)->eK k (KF.kf k r) d
 | .i _,f=>f _
 | .b,f=>f _
 | .s,f=>f _
 | .l,f=>f _
 | .p,f=>f _
 | .m,f=>f _
 | .a,f=>f _
 | .r,f=>f _
theorem MF {R:Type} {r:R}:∀{ks:List Kd} {d:R->List Value->Prop},(∀v,d r v)->ZK ks (KF.kfs ks r) d
 | [],d,f=>f _
 | k::ks,d,f=>Sf fun v=>MF fun vs=>f _
theorem MG {g:Env} {h:H} {p:Prop}:∀{l:List Sl} {acc:HL},EL g h p l (KF l) acc
 | [],acc=>fun _ hf=>hf.elim
 | .o i k::l,acc=>Sf fun v=>MG
 | .g i ks::l,acc=>MF fun v=>MG
def LP (l:List Sl) (B:TK l->TK l):Nat->TK l
 | 0=>KF l
 | N+1=>B (LP l B N)
@[reducible] def il (l:List Sl) (B:TK l->TK l) (A:TK l->Prop):Prop:=∃M,A (LP l B M)
section
variable {ro:Option Nat} {P:Program} {n:Nat} {Q:de} {g:Env} {h:H} {c:Code} {N R:Env->H->Prop} {X:Nat->Env->H->Prop} {acc:HL} {l:List Sl}
theorem lf {A:Prop} (hg:mQ g acc) (hS:A) (he:A=Du ro P n c Q (nN ⟨g.v,[]⟩ acc) h:=by kernel_rfl) (hm:P.follows .mixedOrders=true:=by kernel_rfl) (hd:gK P c=true:=by kernel_rfl):fP ro P n c Q g h:=
 RZ hm hd hg hS he
theorem sq {F:TK l->Prop} {k:TK l} (hg:mQ g acc) (hS:aB l F k) (next:∀{g:Env} {h:H},EL g h (fP ro P n (sY c) (QX N R X) g h) l k [])
  (hF:F=fun K=>Du ro P n (lu c) (QX (DK l K) R X) (nN ⟨g.v,[]⟩ acc) h:=by kernel_rfl) (hc:c=.seq (lu c) (sY c):=by kernel_rfl) (hm:P.follows .mixedOrders=true:=by kernel_rfl) (hd:gK P (lu c)=true:=by kernel_rfl):
  fP ro P n c (QX N R X) g h:=
 Pu (N':=DK l k) hc (RZ hm hd hg hS (congrFun hF k)) fun hq=>D0 hq next
theorem sc {F:TK l->Prop} {k:TK l} (hS:aB l F k) (first:F k->fP ro P n (lu c) (QX (DK l k) R X) g h) (next:∀{g:Env} {h:H},EL g h (fP ro P n (sY c) (QX N R X) g h) l k [])
  (hc:c=.seq (lu c) (sY c):=by kernel_rfl):fP ro P n c (QX N R X) g h:=
 Pu (N':=DK l k) hc (first hS) fun hq=>D0 hq next
theorem bl {b:Nat} (hx:fP ro P n (lu c) (QX N R (exX b N X)) g h) (hc:c=.block b (lu c):=by kernel_rfl):fP ro P n c (QX N R X) g h:=Uq hc hx
theorem so (hx:fP ro P n (lu c) (QX N R X) g h) (hc:c=.scope (lu c):=by kernel_rfl):fP ro P n c (QX N R X) g h:=Us hc hx
theorem cn {i:Nat} {b:Bool} {A B:Prop} (hg:mQ g acc) (hS:cond b A B) (hx:mQ g (acc++ [(i,.bool true)])->A->fP ro P n (lu c) Q g h) (hy:mQ g (acc++ [(i,.bool false)])->B->fP ro P n (sY c) Q g h)
  (hv:(nN ⟨g.v,[]⟩ acc).v i=.bool b:=by kernel_rfl) (hi:Nat.blt i n=true:=by kernel_rfl) (hc:c=.cond (.tmp i) (lu c) (sY c):=by kernel_rfl):fP ro P n c Q g h:=by
 rw[vY hg] at hv
 exact Y7 hc hi hv hS (fun hA e=>hx (hg.snoc (e▸hv)) hA) fun hB e=>hy (hg.snoc (e▸hv)) hB
theorem lp {B:TK l->TK l} {A:TK l->Prop} (hg:mQ g acc) (hS:il l B A) (body:∀{K:TK l} {g:Env} {h:H},EL g h (fP ro P n (lu c) (QX (DK l K) R X) g h) l (B K) [])
  (hA:A=fun K=>DK l K (nN ⟨g.v,[]⟩ acc) h:=by kernel_rfl) (hc:c=.loop (lu c):=by kernel_rfl):fP ro P n c (QX N R X) g h:=by
 subst hA
 obtain⟨M,hS⟩:=hS
 rw[vY hg] at hS
 exact Y8 (I:=fun N=>DK l (LP l B N)) hc (fun hq=>D0 hq MG) (fun hq=>D0 hq body) M hS
end
structure Tk where
 k:Int
 n:List UInt8
 b:OA
 l:Nat
 c:Nat
 z:Bool
 t:List UInt8
@[reducible] def aT (t:Tk):List Value:=[.int .u8 t.k,S t.n,.slice t.b t.l t.c,.bool t.z,S t.t]
def bL (h:H) (a:Addr) (K:Tk->Prop):Prop:=∃i,cell h (a.add 0)=some (.int .u8 i)/\∃s,cell h (a.add 1)=some (S s)/\∃b n c,cell h (a.add 2)=some (.slice b n c)/\∃z,cell h (a.add 3)=some (.bool z)/\∃t,cell h (a.add 4)=some (S t)/\K ⟨i,s,b,n,c,z,t⟩
def ldO (h:H) (a:Addr) (K:Int->Int->List UInt8->Int->Prop):Prop:=∃i,cell h (a.add 0)=some (.int .i64 i)/\∃j,cell h (a.add 1)=some (.int .u8 j)/\∃s,cell h (a.add 2)=some (S s)/\∃p,cell h (a.add 3)=some (.int .u8 p)/\K i j s p
def dT (v:Value) (K:Tk->Prop):Prop:=lv v fun l=>aH l fun e l=>aL .u8 e fun i=>aH l fun e l=>gU e fun s=>aH l fun e l=>aA e fun b n c=>aH l fun e l=>au e fun z=>aH l fun e l=>gU e fun t=>dc l (K ⟨i,s,b,n,c,z,t⟩)
def dO (v:Value) (K:Int->Int->List UInt8->Int->Prop):Prop:=lv v fun l=>aH l fun e l=>aL .i64 e fun i=>aH l fun e l=>aL .u8 e fun j=>aH l fun e l=>gU e fun s=>aH l fun e l=>aL .u8 e fun p=>dc l (K i j s p)
def sW (l:List (List UInt8)):Array Value:=⟨l.map S⟩
def BL (s:List UInt8):List (List UInt8)->(Bool->Prop)->Prop
 | [],k=>k false
 | w::l,k=>aO (s=w) (k true) (BL s l k)
theorem jg {s:List UInt8} {l:List (List UInt8)} {k:Bool->Prop} (ht:s ∈ l->k true) (hf:s ∉ l->k false):BL s l k:=by
 induction l with
 | nil=>exact hf (by simp)
 | cons w l ih=>exact⟨fun e=>ht (by rw[e];exact List.mem_cons_self),fun e=>ih (fun h=>ht (List.mem_cons_of_mem _ h)) fun h=>hf fun h2=>(List.mem_cons.1 h2).elim e h⟩
def idx:Nat->List Value->HL
 | _,[]=>[]
 | i,v::l=>(i,v)::idx (i+1) l
theorem xG {args:List Value}:∀{l:List Value} {i:Nat},args.drop i=l->mQ (Pt args) (idx i l)
 | [],i,e=>rfl
 | v::l,i,e=>by
  refine⟨?_,xG (i:=i+1) ?_⟩
  ·show args.getD i undef=v
   have h1:args[i]? =some v:=by
    have:=congrArg (fun l=>l[0]?) e
    simpa using this
   rw[List.getD_eq_getElem?_getD,h1];rfl
  ·have:=congrArg (List.drop 1) e
   simpa [List.drop_drop,Nat.add_comm] using this
@[reducible] def cF (l:List Sl) (F:TK l->Prop) (k:TK l):Prop:=F k
theorem rt {P:Program} {n:Nat} {g:Env} {h:H} {K:KV} {A:Prop} {acc:HL} {rs:List ResultVar} (hg:mQ g acc) (hS:A) (he:A=yQ P n rs K .normal (nN ⟨g.v,[]⟩ acc) h:=by kernel_rfl):yQ P n rs K .normal g h:=aeC hg hS he
theorem cl {P:Program} {f:FuncId} {fn:Func} {args:List Value} {h:H} {K:KV} {l:List Sl} {F:TK l->Prop} {k:TK l} (hf:P.funcs[f]? =some fn) (hS:cF l F k)
  (hx:∀{g:Env},mQ g (idx 0 args)->F k->fP none P fn.ntmps (Bo fn) (QX (DK l k) (DK l k) noX) g h) (hr:∀{g:Env} {h:H},EL g h (yQ P fn.ntmps fn.results.toList K .normal g h) l k [])
  (hb:fn.body=some (Bo fn):=by kernel_rfl) (hn:Nat.ble args.length fn.ntmps=true:=by kernel_rfl):hG P f ⟨args⟩ h K:=
 LH hf hb hn (hx (xG rfl) hS) fun hq=>D0 hq hr
@[reducible] def TB (R:Type):List Sl->Type
 | []=>R
 | .o _ k::l=>KT (TB R l) k
 | .g _ ks::l=>Se (TB R l) ks
abbrev TD:=TB (List Deferred->H->Prop)
def DD:(l:List Sl)->TD l->Env->H->Prop
 | [],K,g,h=>K g.ds h
 | .o i k::l,K,g,h=>dK k (g.v i) K fun K'=>DD l K' g h
 | .g i ks::l,K,g,h=>lv (g.v i) fun t=>U6 ks t K fun K'=>DD l K' g h
@[reducible] def HD (g:Env) (ds:List Deferred):HL->Prop
 | []=>g.ds=ds
 | (i,v)::l=>g.v i=v/\HD g ds l
def ED (g:Env) (h:H) (p:Prop):(l:List Sl)->TD l->HL->Prop
 | [],K,acc=>∀{ds:List Deferred},HD g ds acc->K ds h->p
 | .o i k::l,K,acc=>eK k K fun K' v=>ED g h p l K' ((i,v)::acc)
 | .g i ks::l,K,acc=>ZK ks K fun K' vs=>ED g h p l K' ((i,.agg ⟨vs⟩)::acc)
theorem D1 {g:Env} {h:H} {p:Prop}:∀{l:List Sl} {K:TD l} {acc:HL},DD l K g h->HD g g.ds acc->ED g h p l K acc->p
 | [],K,acc,hq,ha,f=>f ha hq
 | .o i k::l,K,acc,hq,ha,f=>by
  obtain⟨K1,q,f1⟩:=MD hq f
  exact D1 (acc:=(i,g.v i)::acc) q ⟨rfl,ha⟩ f1
 | .g i ks::l,K,acc,hq,ha,f=>by
  obtain⟨t,e,q⟩:=Bq hq
  obtain⟨K1,q1,f1⟩:=Ga q f
  exact D1 (acc:=(i,.agg ⟨t⟩)::acc) q1 ⟨e,ha⟩ f1
theorem HD.snoc {g:Env} {ds:List Deferred} {i:Nat} {v:Value}:∀{l:HL},HD g ds l->g.v i=v->HD g ds (l++ [(i,v)])
 | [],h,e=>⟨e,h⟩
 | _::_,h,e=>⟨h.1,HD.snoc h.2 e⟩
theorem nY {g:Env} {ds:List Deferred} {l:HL} (hg:HD g ds l):nN ⟨g.v,ds⟩ l=g:=by
 have hd:g.ds=ds:=by
  induction l with
  | nil=>exact hg
  | cons p l ih=>exact ih hg.2
 rw[LB hd]
 clear hd
 induction l with
 | nil=>rfl
 | cons p l ih=>
  show nN (g.upd (some p.1) p.2) l=g
  rw[Dy hg.1]
  exact ih hg.2
abbrev RT:=(H->(H->Prop)->Prop)->(H->H->Prop)->(H->H->(H->Prop)->Prop)->H->Prop
def dB {R:Type}:(l:List Sl)->List Value->TB R l->(R->Prop)->Prop
 | [],t,K,c=>dc t (c K)
 | .o _ k::l,t,K,c=>aH t fun e t=>dK k e K fun K'=>dB l t K' c
 | .g _ ks::l,t,K,c=>aH t fun e t=>lv e fun u=>U6 ks u K fun K'=>dB l t K' c
def U7 {R:Type}:(k:Kd)->(Value->R)->KT R k
 | .i kd,f=>fun x=>f (.int kd x)
 | .b,f=>fun x=>f (.bool x)
 | .s,f=>fun x=>f (S x)
 | .l,f=>fun b n m=>f (.slice b n m)
 | .p,f=>fun x=>f (.pointer x)
 | .m,f=>fun x=>f (.map x)
 | .a,f=>fun x=>f (.pointer (some x))
 | .r,f=>f
def MH {R:Type}:(ks:List Kd)->(List Value->R)->Se R ks
 | [],f=>f []
 | k::ks,f=>U7 k fun v=>MH ks fun vs=>f (v::vs)
def MJ {R:Type}:(l:List Sl)->(List Value->R)->TB R l
 | [],f=>f []
 | .o _ k::l,f=>U7 k fun v=>MJ l fun vs=>f (v::vs)
 | .g _ ks::l,f=>MH ks fun us=>MJ l fun vs=>f (.agg ⟨us⟩::vs)
theorem MK {R:Type} {c:R->Prop}:∀{k:Kd} {v:Value} {f:Value->R},dK k v (U7 k f) c->c (f v)
 | .i kd,v,f,hq=>by obtain⟨x,rfl,q⟩:=Ho hq;exact q
 | .b,v,f,hq=>by obtain⟨x,rfl,q⟩:=DA hq;exact q
 | .s,v,f,hq=>by
  have hq:gU v fun x=>c (f (S x)):=hq
  obtain⟨x,rfl,q⟩:=Hp hq
  exact q
 | .l,v,f,hq=>by obtain⟨b,n,m,rfl,q⟩:=zL hq;exact q
 | .p,v,f,hq=>by obtain⟨x,rfl,q⟩:=Hq hq;exact q
 | .m,v,f,hq=>by obtain⟨x,rfl,q⟩:=Hr hq;exact q
 | .a,v,f,hq=>by obtain⟨x,rfl,q⟩:=kO hq;exact q
 | .r,v,f,hq=>hq
theorem HI {R:Type} {c:R->Prop}:∀{ks:List Kd} {t:List Value} {f:List Value->R},U6 ks t (MH ks f) c->c (f t)
 | [],t,f,hq=>by obtain⟨rfl,q⟩:=xo hq;exact q
 | k::ks,t,f,hq=>by
  obtain⟨e,t2,rfl,q⟩:=ql hq
  exact HI (f:=fun vs=>f (e::vs)) (MK (c:=fun K'=>U6 ks t2 K' c) q)
theorem Gb {R:Type} {c:R->Prop}:∀{l:List Sl} {t:List Value} {f:List Value->R},dB l t (MJ l f) c->c (f t)
 | [],t,f,hq=>by obtain⟨rfl,q⟩:=xo hq;exact q
 | .o _ k::l,t,f,hq=>by
  obtain⟨e,t2,rfl,q⟩:=ql hq
  exact Gb (f:=fun vs=>f (e::vs)) (MK (c:=fun K'=>dB l t2 K' c) q)
 | .g _ ks::l,t,f,hq=>by
  obtain⟨e,t2,rfl,q⟩:=ql hq
  obtain⟨u,rfl,q2⟩:=Bq q
  exact Gb (f:=fun vs=>f (.agg ⟨u⟩::vs)) (HI (c:=fun K'=>dB l t2 K' c) q2)
@[reducible] def Oe (P:Program) (f:Value) (m:Nat) (pl:List Sl) (h:H) (RD:TB RT pl) (done:H->Prop):Prop:=FM P f m h (fun l Mid Kc Fin h1=>dB pl l RD fun K=>K Mid Kc Fin h1) done
@[reducible] def nQ (l:List Sl) (F:TD l->Prop) (k:TD l):Prop:=F k
section
variable {ro:Option Nat} {P:Program} {n:Nat} {Q:de} {g:Env} {h:H} {c:Code} {N R:Env->H->Prop} {X:Nat->Env->H->Prop} {acc:HL} {l:List Sl} {ds:List Deferred} {K:KV}
theorem P5 {A:Prop} (hg:HD g ds acc) (hS:A) (he:A=Du ro P n c Q (nN ⟨g.v,ds⟩ acc) h:=by kernel_rfl) (hm:P.follows .mixedOrders=true:=by kernel_rfl) (hd:gK P c=true:=by kernel_rfl):fP ro P n c Q g h:=by
 subst he
 rw[nY hg] at hS
 exact Bk hm c Q _ h hd hS
theorem BC {F:TD l->Prop} {k:TD l} (hg:HD g ds acc) (hS:nQ l F k) (next:∀{g:Env} {h:H},ED g h (fP ro P n (sY c) (QX N R X) g h) l k [])
  (hF:F=fun K=>Du ro P n (lu c) (QX (DD l K) R X) (nN ⟨g.v,ds⟩ acc) h:=by kernel_rfl) (hc:c=.seq (lu c) (sY c):=by kernel_rfl) (hm:P.follows .mixedOrders=true:=by kernel_rfl) (hd:gK P (lu c)=true:=by kernel_rfl):
  fP ro P n c (QX N R X) g h:=
 Pu (N':=DD l k) hc (P5 hg hS (congrFun hF k) hm hd) fun hq=>D1 hq rfl next
theorem Sa {F:TD l->Prop} {k:TD l} (hS:nQ l F k) (first:F k->fP ro P n (lu c) (QX (DD l k) R X) g h) (next:∀{g:Env} {h:H},ED g h (fP ro P n (sY c) (QX N R X) g h) l k [])
  (hc:c=.seq (lu c) (sY c):=by kernel_rfl):fP ro P n c (QX N R X) g h:=
 Pu (N':=DD l k) hc (first hS) fun hq=>D1 hq rfl next
theorem P4 {f:Value} {m:Nat} {pl:List Sl} {RD:TB RT pl} {done:H->Prop} (fo:Operand) (ps:Array Tmp) (hg:HD g ds acc) (hS:Oe P f m pl h RD done)
  (hR:∀L,RD=MJ pl fun vs Mid Kc Fin h1=>Du (some L) P n (lu c) (q9 (fun g1 he=>Mid he fun hb=>Du (some L) P n (sY c) (LI Kc Fin Q ⟨(nN ⟨g.v,ds⟩ acc).v,cr h.size::ds⟩ hb) g1 hb) fun _ _ _=>False) (zM (nN ⟨g.v,ds⟩ acc) ps.toList vs) h1:=by intro L;kernel_rfl)
  (hd:done=fun h4=>Q .normal ⟨(nN ⟨g.v,ds⟩ acc).v,cr h.size::ds⟩ h4:=by kernel_rfl) (hf:lR n (nN ⟨g.v,ds⟩ acc) fo=f:=by kernel_rfl) (hc:c=.rangeFunc fo ps (lu c) (sY c):=by kernel_rfl) (hp:m=ps.toList.length:=by kernel_rfl)
  (hm:P.follows .mixedOrders=true:=by kernel_rfl) (ha:gK P (lu c)=true:=by kernel_rfl) (hb:gK P (sY c)=true:=by kernel_rfl):fP none P n c Q g h:=by
 have hds:g.ds=ds:=by
  have e:=nY hg
  clear hR hd hf
  induction acc with
  | nil=>exact hg
  | cons p l ih=>exact ih hg.2 (nY hg.2)
 rw[nY hg] at hf
 subst hp
 rw[nY hg] at hd
 have hR:∀L,RD=MJ pl fun vs Mid Kc Fin h1=>Du (some L) P n (lu c) (q9 (fun g1 he=>Mid he fun hb=>Du (some L) P n (sY c) (LI Kc Fin Q ⟨g.v,cr h.size::ds⟩ hb) g1 hb) fun _ _ _=>False) (zM g ps.toList vs) h1:=fun L=>by
  have:=hR L
  rwa[nY hg] at this
 rw[hc]
 refine I0 hf hS (fun h4 h5=>?_) fun L x Mid Kc Fin h1 hM hx=>?_
 ·rw[hd] at h5
  rw[hds]
  exact h5
 ·rw[hR L] at hx
  have hx:=Gb hx
  rw[hds]
  exact(Bk hm _ _ _ _ ha hx).mono (xm fun g1 he AW=>hM he _ _ (fun AN=>Bk hm _ _ _ _ hb) AW)
theorem P6 {A:Prop} {rs:List ResultVar} (hg:HD g ds acc) (hS:A) (he:A=yQ P n rs K .normal (nN ⟨g.v,ds⟩ acc) h:=by kernel_rfl):yQ P n rs K .normal g h:=by
 subst he
 rw[nY hg] at hS
 exact hS
theorem P3 {f:FuncId} {fn:Func} {args:List Value} {F:TD l->Prop} {k:TD l} (hf:P.funcs[f]? =some fn) (hS:nQ l F k)
  (hx:∀{g:Env},HD g [] (idx 0 args)->F k->fP none P fn.ntmps (Bo fn) (QX (DD l k) (DD l k) noX) g h) (hr:∀{g:Env} {h:H},ED g h (yQ P fn.ntmps fn.results.toList K .normal g h) l k [])
  (hb:fn.body=some (Bo fn):=by kernel_rfl) (hn:Nat.ble args.length fn.ntmps=true:=by kernel_rfl):hG P f ⟨args⟩ h K:=by
 have hh:∀{g:Env} {l:HL},mQ g l->HD g [] l:=fun {g l} h=>by
  induction l with
  | nil=>exact h
  | cons p l ih=>exact⟨h.1,ih h.2⟩
 exact LH hf hb hn (hx (hh (xG rfl)) hS) fun hq=>D1 hq rfl hr
end
end Go.Sh
