import Derived.Test.YtijoifkjeamonaaGreatShJ
namespace Go.Sh
open Go
set_option linter.unusedVariables false
inductive Kd where
 | i (k:IntKind)
 | b
 | s
 | l
 | p
 | m
 | a
 | r
inductive Sl where
 | o (i:Nat) (k:Kd)
 | g (i:Nat) (ks:List Kd)
@[reducible] def KT (R:Type):Kd->Type
 | .i _=>Int->R
 | .b=>Bool->R
 | .s=>List UInt8->R
 | .l=>OA->Nat->Nat->R
 | .p=>OA->R
 | .m=>Option Nat->R
 | .a=>Addr->R
 | .r=>Value->R
@[reducible] def Sw (R:Type):List Kd->Type
 | []=>R
 | k::ks=>KT (Sw R ks) k
@[reducible] def TK:List Sl->Type
 | []=>H->Prop
 | .o _ k::l=>KT (TK l) k
 | .g _ ks::l=>Sw (TK l) ks
def dK {R:Type}:(k:Kd)->Value->KT R k->(R->Prop)->Prop
 | .i kd,v,K,c=>aL kd v fun x=>c (K x)
 | .b,v,K,c=>au v fun x=>c (K x)
 | .s,v,K,c=>gL v fun x=>c (K x)
 | .l,v,K,c=>aB v fun b n m=>c (K b n m)
 | .p,v,K,c=>kt v fun x=>c (K x)
 | .m,v,K,c=>LM v fun x=>c (K x)
 | .a,v,K,c=>uG v fun x=>c (K x)
 | .r,v,K,c=>c (K v)
def Vc {R:Type}:(ks:List Kd)->List Value->Sw R ks->(R->Prop)->Prop
 | [],l,K,c=>cW l (c K)
 | k::ks,l,K,c=>aG l fun e t=>dK k e K fun K'=>Vc ks t K' c
def dL (g:Env) (h:H):(l:List Sl)->TK l->Prop
 | [],K=>K h
 | .o i k::l,K=>dK k (g.v i) K fun K'=>dL g h l K'
 | .g i ks::l,K=>kV (g.v i) fun t=>Vc ks t K fun K'=>dL g h l K'
def DK (l:List Sl) (K:TK l) (g:Env) (h:H):Prop:=LL g.ds (dL g h l K)
def eK {R:Type}:(k:Kd)->KT R k->(R->Value->Prop)->Prop
 | .i kd,K,c=>∀{x:Int},c (K x) (.int kd x)
 | .b,K,c=>∀{x:Bool},c (K x) (.bool x)
 | .s,K,c=>∀{x:List UInt8},c (K x) (S x)
 | .l,K,c=>∀{b:OA} {n m:Nat},c (K b n m) (.slice b n m)
 | .p,K,c=>∀{x:OA},c (K x) (.pointer x)
 | .m,K,c=>∀{x:Option Nat},c (K x) (.map x)
 | .a,K,c=>∀{x:Addr},c (K x) (.pointer (some x))
 | .r,K,c=>∀{x:Value},c (K x) x
def eKs {R:Type}:(ks:List Kd)->Sw R ks->(R->List Value->Prop)->Prop
 | [],K,c=>c K []
 | k::ks,K,c=>eK k K fun K' v=>eKs ks K' fun K'' vs=>c K'' (v::vs)
def EL (g:Env) (h:H) (p:Prop):(l:List Sl)->TK l->HL->Prop
 | [],K,acc=>mI g acc->K h->p
 | .o i k::l,K,acc=>eK k K fun K' v=>EL g h p l K' ((i,v)::acc)
 | .g i ks::l,K,acc=>eKs ks K fun K' vs=>EL g h p l K' ((i,.agg ⟨vs⟩)::acc)
theorem MK {R:Type} {c:R->Prop} {d:R->Value->Prop}:∀{k:Kd} {v:Value} {K:KT R k},dK k v K c->eK k K d->∃K',c K'/\d K' v
 | .i kd,v,K,hq,f=>by obtain⟨x,rfl,q⟩:=Hu hq;exact⟨_,q,f⟩
 | .b,v,K,hq,f=>by obtain⟨x,rfl,q⟩:=Dz hq;exact⟨_,q,f⟩
 | .s,v,K,hq,f=>by
  have hq:gL v fun x=>c (K x):=hq
  obtain⟨x,rfl,q⟩:=Hv hq
  exact⟨_,q,f⟩
 | .l,v,K,hq,f=>by obtain⟨b,n,m,rfl,q⟩:=zQ hq;exact⟨_,q,f⟩
 | .p,v,K,hq,f=>by obtain⟨x,rfl,q⟩:=Hw hq;exact⟨_,q,f⟩
 | .m,v,K,hq,f=>by obtain⟨x,rfl,q⟩:=Hy hq;exact⟨_,q,f⟩
 | .a,v,K,hq,f=>by obtain⟨x,rfl,q⟩:=kE hq;exact⟨_,q,f⟩
 | .r,v,K,hq,f=>⟨_,hq,f⟩
theorem Ga {R:Type} {c:R->Prop}:∀{ks:List Kd} {d:R->List Value->Prop} {t:List Value} {K:Sw R ks},Vc ks t K c->eKs ks K d->∃K',c K'/\d K' t
 | [],d,t,K,hq,f=>by obtain⟨rfl,q⟩:=xi hq;exact⟨K,q,f⟩
 | k::ks,d,t,K,hq,f=>by
  obtain⟨e,t2,rfl,q⟩:=pT hq
  obtain⟨K1,q1,f1⟩:=MK q f
  exact Ga (d:=fun K'' vs=>d K'' (e::vs)) q1 f1
theorem MN {g:Env} {h:H} {p:Prop}:∀{l:List Sl} {K:TK l} {acc:HL},dL g h l K->mI g acc->EL g h p l K acc->p
 | [],K,acc,hq,ha,f=>f ha hq
 | .o i k::l,K,acc,hq,ha,f=>by
  obtain⟨K1,q,f1⟩:=MK hq f
  exact MN (acc:=(i,g.v i)::acc) q ⟨rfl,ha⟩ f1
 | .g i ks::l,K,acc,hq,ha,f=>by
  obtain⟨t,e,q⟩:=Bv hq
  obtain⟨K1,q1,f1⟩:=Ga q f
  exact MN (acc:=(i,.agg ⟨t⟩)::acc) q1 ⟨e,ha⟩ f1
theorem D1 {l:List Sl} {K:TK l} {g:Env} {h:H} {p:Prop} (hq:DK l K g h) (f:EL g h p l K []):p:=MN (Dy hq).2 (Dy hq).1 f
theorem mI.snoc {g:Env} {i:Nat} {v:Value}:∀{l:HL},mI g l->g.v i=v->mI g (l++ [(i,v)])
 | [],h,e=>⟨e,h⟩
 | _::_,h,e=>⟨h.1,mI.snoc h.2 e⟩
abbrev zS (h:H) (a:Addr) (K:OA->Nat->Nat->Prop):Prop:=∃b n c,cell h a=some (.slice b n c)/\K b n c
abbrev zI (k:IntKind) (h:H) (a:Addr) (K:Int->Prop):Prop:=∃i,cell h a=some (.int k i)/\K i
abbrev zT (h:H) (a:Addr) (K:List UInt8->Prop):Prop:=∃s,cell h a=some (S s)/\K s
abbrev zB (h:H) (a:Addr) (K:Bool->Prop):Prop:=∃b,cell h a=some (.bool b)/\K b
abbrev zP (h:H) (a:Addr) (K:OA->Prop):Prop:=∃p,cell h a=some (.pointer p)/\K p
abbrev Zp (i:Nat):=Sl.o i .p
abbrev Zl (i:Nat):=Sl.o i .l
abbrev Zs (i:Nat):=Sl.o i .s
abbrev Zb (i:Nat):=Sl.o i .b
abbrev Za (i:Nat):=Sl.o i .a
abbrev Zr (i:Nat):=Sl.o i .r
abbrev Z6 (i:Nat):=Sl.o i (.i .i64)
abbrev Z8 (i:Nat):=Sl.o i (.i .u8)
@[reducible] def aA (l:List Sl) (F:TK l->Prop) (k:TK l):Prop:=F k
def KF:(l:List Sl)->TK l
 | []=>fun _=>False
 | .o _ k::l=>kf k (KF l)
 | .g _ ks::l=>kfs ks (KF l)
where
 kf {R:Type}:(k:Kd)->R->KT R k
  | .i _,r=>fun _=>r
  | .b,r=>fun _=>r
  | .s,r=>fun _=>r
  | .l,r=>fun _ _ _=>r
  | .p,r=>fun _=>r
  | .m,r=>fun _=>r
  | .a,r=>fun _=>r
  | .r,r=>fun _=>r
 kfs {R:Type}:(ks:List Kd)->R->Sw R ks
  | [],r=>r
  | k::ks,r=>kf k (kfs ks r)
theorem Sx {R:Type} {r:R} {d:R->Value->Prop}:∀{k:Kd},(∀v,d r v)->eK k (KF.kf k r) d
 | .i _,f=>f _
 | .b,f=>f _
 | .s,f=>f _
 | .l,f=>f _
 | .p,f=>f _
 | .m,f=>f _
 | .a,f=>f _
 | .r,f=>f _
theorem MO {R:Type} {r:R}:∀{ks:List Kd} {d:R->List Value->Prop},(∀v,d r v)->eKs ks (KF.kfs ks r) d
 | [],d,f=>f _
 | k::ks,d,f=>Sx fun v=>MO fun vs=>f _
theorem MP {g:Env} {h:H} {p:Prop}:∀{l:List Sl} {acc:HL},EL g h p l (KF l) acc
 | [],acc=>fun _ hf=>hf.elim
 | .o i k::l,acc=>Sx fun v=>MP
 | .g i ks::l,acc=>MO fun v=>MP
def LP (l:List Sl) (B:TK l->TK l):Nat->TK l
 | 0=>KF l
 | N+1=>B (LP l B N)
@[reducible] def iy (l:List Sl) (B:TK l->TK l) (A:TK l->Prop):Prop:=∃M,A (LP l B M)
section
variable {ro:Option Nat} {P:Program} {n:Nat} {Q:de} {g:Env} {h:H} {c:Code} {N R:Env->H->Prop} {X:Nat->Env->H->Prop} {acc:HL} {l:List Sl}
theorem lf {A:Prop} (hg:mI g acc) (hS:A) (he:A=Dt ro P n c Q (nv ⟨g.v,[]⟩ acc) h:=by kernel_rfl) (hm:P.follows .mixedOrders=true:=by kernel_rfl) (hd:gB P c=true:=by kernel_rfl):fM ro P n c Q g h:=
 Sg hm hd hg hS he
theorem sq {F:TK l->Prop} {k:TK l} (hg:mI g acc) (hS:aA l F k) (next:∀{g:Env} {h:H},EL g h (fM ro P n (sN c) (QX N R X) g h) l k [])
  (hF:F=fun K=>Dt ro P n (kU c) (QX (DK l K) R X) (nv ⟨g.v,[]⟩ acc) h:=by kernel_rfl) (hc:c=.seq (kU c) (sN c):=by kernel_rfl) (hm:P.follows .mixedOrders=true:=by kernel_rfl) (hd:gB P (kU c)=true:=by kernel_rfl):
  fM ro P n c (QX N R X) g h:=
 PE (N':=DK l k) hc (Sg hm hd hg hS (congrFun hF k)) fun hq=>D1 hq next
theorem sc {F:TK l->Prop} {k:TK l} (hS:aA l F k) (first:F k->fM ro P n (kU c) (QX (DK l k) R X) g h) (next:∀{g:Env} {h:H},EL g h (fM ro P n (sN c) (QX N R X) g h) l k [])
  (hc:c=.seq (kU c) (sN c):=by kernel_rfl):fM ro P n c (QX N R X) g h:=
 PE (N':=DK l k) hc (first hS) fun hq=>D1 hq next
theorem bl {b:Nat} (hx:fM ro P n (kU c) (QX N R (exX b N X)) g h) (hc:c=.block b (kU c):=by kernel_rfl):fM ro P n c (QX N R X) g h:=Ut hc hx
theorem so (hx:fM ro P n (kU c) (QX N R X) g h) (hc:c=.scope (kU c):=by kernel_rfl):fM ro P n c (QX N R X) g h:=Uv hc hx
theorem cn {i:Nat} {b:Bool} {A B:Prop} (hg:mI g acc) (hS:cond b A B) (hx:mI g (acc++ [(i,.bool true)])->A->fM ro P n (kU c) Q g h) (hy:mI g (acc++ [(i,.bool false)])->B->fM ro P n (sN c) Q g h)
  (hv:(nv ⟨g.v,[]⟩ acc).v i=.bool b:=by kernel_rfl) (hi:Nat.blt i n=true:=by kernel_rfl) (hc:c=.cond (.tmp i) (kU c) (sN c):=by kernel_rfl):fM ro P n c Q g h:=by
 rw[vS hg] at hv
 exact ZE hc hi hv hS (fun hA e=>hx (hg.snoc (e▸hv)) hA) fun hB e=>hy (hg.snoc (e▸hv)) hB
theorem lp {B:TK l->TK l} {A:TK l->Prop} (hg:mI g acc) (hS:iy l B A) (body:∀{K:TK l} {g:Env} {h:H},EL g h (fM ro P n (kU c) (QX (DK l K) R X) g h) l (B K) [])
  (hA:A=fun K=>DK l K (nv ⟨g.v,[]⟩ acc) h:=by kernel_rfl) (hc:c=.loop (kU c):=by kernel_rfl):fM ro P n c (QX N R X) g h:=by
 subst hA
 obtain⟨M,hS⟩:=hS
 rw[vS hg] at hS
 exact ZF (I:=fun N=>DK l (LP l B N)) hc (fun hq=>D1 hq MP) (fun hq=>D1 hq body) M hS
end
structure Tk where
 k:Int
 n:List UInt8
 b:OA
 l:Nat
 c:Nat
 z:Bool
 t:List UInt8
@[reducible] def aT (t:Tk):List Value:=[.int .u8 t.k,S t.n,.slice t.b t.l t.c,.bool t.z,S t.t]
def bJ (h:H) (a:Addr) (K:Tk->Prop):Prop:=∃i,cell h (a.add 0)=some (.int .u8 i)/\∃s,cell h (a.add 1)=some (S s)/\∃b n c,cell h (a.add 2)=some (.slice b n c)/\∃z,cell h (a.add 3)=some (.bool z)/\∃t,cell h (a.add 4)=some (S t)/\K ⟨i,s,b,n,c,z,t⟩
def ldO (h:H) (a:Addr) (K:Int->Int->List UInt8->Int->Prop):Prop:=∃i,cell h (a.add 0)=some (.int .i64 i)/\∃j,cell h (a.add 1)=some (.int .u8 j)/\∃s,cell h (a.add 2)=some (S s)/\∃p,cell h (a.add 3)=some (.int .u8 p)/\K i j s p
def dT (v:Value) (K:Tk->Prop):Prop:=kV v fun l=>aG l fun e l=>aL .u8 e fun i=>aG l fun e l=>gL e fun s=>aG l fun e l=>aB e fun b n c=>aG l fun e l=>au e fun z=>aG l fun e l=>gL e fun t=>cW l (K ⟨i,s,b,n,c,z,t⟩)
def dO (v:Value) (K:Int->Int->List UInt8->Int->Prop):Prop:=kV v fun l=>aG l fun e l=>aL .i64 e fun i=>aG l fun e l=>aL .u8 e fun j=>aG l fun e l=>gL e fun s=>aG l fun e l=>aL .u8 e fun p=>cW l (K i j s p)
def sW (l:List (List UInt8)):Array Value:=⟨l.map S⟩
def BQ (s:List UInt8):List (List UInt8)->(Bool->Prop)->Prop
 | [],k=>k false
 | w::l,k=>aM (s=w) (k true) (BQ s l k)
theorem jb {s:List UInt8} {l:List (List UInt8)} {k:Bool->Prop} (ht:s ∈ l->k true) (hf:s ∉ l->k false):BQ s l k:=by
 induction l with
 | nil=>exact hf (by simp)
 | cons w l ih=>exact⟨fun e=>ht (by rw[e];exact List.mem_cons_self),fun e=>ih (fun h=>ht (List.mem_cons_of_mem _ h)) fun h=>hf fun h2=>(List.mem_cons.1 h2).elim e h⟩
def idx:Nat->List Value->HL
 | _,[]=>[]
 | i,v::l=>(i,v)::idx (i+1) l
theorem xB {args:List Value}:∀{l:List Value} {i:Nat},args.drop i=l->mI (PC args) (idx i l)
 | [],i,e=>rfl
 | v::l,i,e=>by
  refine⟨?_,xB (i:=i+1) ?_⟩
  ·show args.getD i undef=v
   have h1:args[i]? =some v:=by
    have:=congrArg (fun l=>l[0]?) e
    simpa using this
   rw[List.getD_eq_getElem?_getD,h1];rfl
  ·have:=congrArg (List.drop 1) e
   simpa [List.drop_drop,Nat.add_comm] using this
@[reducible] def cF (l:List Sl) (F:TK l->Prop) (k:TK l):Prop:=F k
theorem rt {P:Program} {n:Nat} {g:Env} {h:H} {K:KV} {A:Prop} {acc:HL} {rs:List ResultVar} (hg:mI g acc) (hS:A) (he:A=yR P n rs K .normal (nv ⟨g.v,[]⟩ acc) h:=by kernel_rfl):yR P n rs K .normal g h:=afd hg hS he
theorem cl {P:Program} {f:FuncId} {fn:Func} {args:List Value} {h:H} {K:KV} {l:List Sl} {F:TK l->Prop} {k:TK l} (hf:P.funcs[f]? =some fn) (hS:cF l F k)
  (hx:∀{g:Env},mI g (idx 0 args)->F k->fM none P fn.ntmps (Bu fn) (QX (DK l k) (DK l k) noX) g h) (hr:∀{g:Env} {h:H},EL g h (yR P fn.ntmps fn.results.toList K .normal g h) l k [])
  (hb:fn.body=some (Bu fn):=by kernel_rfl) (hn:Nat.ble args.length fn.ntmps=true:=by kernel_rfl):gQ P f ⟨args⟩ h K:=
 LQ hf hb hn (hx (xB rfl) hS) fun hq=>D1 hq hr
@[reducible] def TB (R:Type):List Sl->Type
 | []=>R
 | .o _ k::l=>KT (TB R l) k
 | .g _ ks::l=>Sw (TB R l) ks
abbrev TD:=TB (List Deferred->H->Prop)
def DD:(l:List Sl)->TD l->Env->H->Prop
 | [],K,g,h=>K g.ds h
 | .o i k::l,K,g,h=>dK k (g.v i) K fun K'=>DD l K' g h
 | .g i ks::l,K,g,h=>kV (g.v i) fun t=>Vc ks t K fun K'=>DD l K' g h
@[reducible] def HD (g:Env) (ds:List Deferred):HL->Prop
 | []=>g.ds=ds
 | (i,v)::l=>g.v i=v/\HD g ds l
def ED (g:Env) (h:H) (p:Prop):(l:List Sl)->TD l->HL->Prop
 | [],K,acc=>∀{ds:List Deferred},HD g ds acc->K ds h->p
 | .o i k::l,K,acc=>eK k K fun K' v=>ED g h p l K' ((i,v)::acc)
 | .g i ks::l,K,acc=>eKs ks K fun K' vs=>ED g h p l K' ((i,.agg ⟨vs⟩)::acc)
theorem D2 {g:Env} {h:H} {p:Prop}:∀{l:List Sl} {K:TD l} {acc:HL},DD l K g h->HD g g.ds acc->ED g h p l K acc->p
 | [],K,acc,hq,ha,f=>f ha hq
 | .o i k::l,K,acc,hq,ha,f=>by
  obtain⟨K1,q,f1⟩:=MK hq f
  exact D2 (acc:=(i,g.v i)::acc) q ⟨rfl,ha⟩ f1
 | .g i ks::l,K,acc,hq,ha,f=>by
  obtain⟨t,e,q⟩:=Bv hq
  obtain⟨K1,q1,f1⟩:=Ga q f
  exact D2 (acc:=(i,.agg ⟨t⟩)::acc) q1 ⟨e,ha⟩ f1
theorem HD.snoc {g:Env} {ds:List Deferred} {i:Nat} {v:Value}:∀{l:HL},HD g ds l->g.v i=v->HD g ds (l++ [(i,v)])
 | [],h,e=>⟨e,h⟩
 | _::_,h,e=>⟨h.1,HD.snoc h.2 e⟩
theorem nL {g:Env} {ds:List Deferred} {l:HL} (hg:HD g ds l):nv ⟨g.v,ds⟩ l=g:=by
 have hd:g.ds=ds:=by
  induction l with
  | nil=>exact hg
  | cons p l ih=>exact ih hg.2
 rw[LK hd]
 clear hd
 induction l with
 | nil=>rfl
 | cons p l ih=>
  show nv (g.upd (some p.1) p.2) l=g
  rw[Dx hg.1]
  exact ih hg.2
abbrev RT:=(H->(H->Prop)->Prop)->(H->H->Prop)->(H->H->(H->Prop)->Prop)->H->Prop
def dB {R:Type}:(l:List Sl)->List Value->TB R l->(R->Prop)->Prop
 | [],t,K,c=>cW t (c K)
 | .o _ k::l,t,K,c=>aG t fun e t=>dK k e K fun K'=>dB l t K' c
 | .g _ ks::l,t,K,c=>aG t fun e t=>kV e fun u=>Vc ks u K fun K'=>dB l t K' c
def Vd {R:Type}:(k:Kd)->(Value->R)->KT R k
 | .i kd,f=>fun x=>f (.int kd x)
 | .b,f=>fun x=>f (.bool x)
 | .s,f=>fun x=>f (S x)
 | .l,f=>fun b n m=>f (.slice b n m)
 | .p,f=>fun x=>f (.pointer x)
 | .m,f=>fun x=>f (.map x)
 | .a,f=>fun x=>f (.pointer (some x))
 | .r,f=>f
def MR {R:Type}:(ks:List Kd)->(List Value->R)->Sw R ks
 | [],f=>f []
 | k::ks,f=>Vd k fun v=>MR ks fun vs=>f (v::vs)
def MT {R:Type}:(l:List Sl)->(List Value->R)->TB R l
 | [],f=>f []
 | .o _ k::l,f=>Vd k fun v=>MT l fun vs=>f (v::vs)
 | .g _ ks::l,f=>MR ks fun us=>MT l fun vs=>f (.agg ⟨us⟩::vs)
theorem MU {R:Type} {c:R->Prop}:∀{k:Kd} {v:Value} {f:Value->R},dK k v (Vd k f) c->c (f v)
 | .i kd,v,f,hq=>by obtain⟨x,rfl,q⟩:=Hu hq;exact q
 | .b,v,f,hq=>by obtain⟨x,rfl,q⟩:=Dz hq;exact q
 | .s,v,f,hq=>by
  have hq:gL v fun x=>c (f (S x)):=hq
  obtain⟨x,rfl,q⟩:=Hv hq
  exact q
 | .l,v,f,hq=>by obtain⟨b,n,m,rfl,q⟩:=zQ hq;exact q
 | .p,v,f,hq=>by obtain⟨x,rfl,q⟩:=Hw hq;exact q
 | .m,v,f,hq=>by obtain⟨x,rfl,q⟩:=Hy hq;exact q
 | .a,v,f,hq=>by obtain⟨x,rfl,q⟩:=kE hq;exact q
 | .r,v,f,hq=>hq
theorem HQ {R:Type} {c:R->Prop}:∀{ks:List Kd} {t:List Value} {f:List Value->R},Vc ks t (MR ks f) c->c (f t)
 | [],t,f,hq=>by obtain⟨rfl,q⟩:=xi hq;exact q
 | k::ks,t,f,hq=>by
  obtain⟨e,t2,rfl,q⟩:=pT hq
  exact HQ (f:=fun vs=>f (e::vs)) (MU (c:=fun K'=>Vc ks t2 K' c) q)
theorem Gb {R:Type} {c:R->Prop}:∀{l:List Sl} {t:List Value} {f:List Value->R},dB l t (MT l f) c->c (f t)
 | [],t,f,hq=>by obtain⟨rfl,q⟩:=xi hq;exact q
 | .o _ k::l,t,f,hq=>by
  obtain⟨e,t2,rfl,q⟩:=pT hq
  exact Gb (f:=fun vs=>f (e::vs)) (MU (c:=fun K'=>dB l t2 K' c) q)
 | .g _ ks::l,t,f,hq=>by
  obtain⟨e,t2,rfl,q⟩:=pT hq
  obtain⟨u,rfl,q2⟩:=Bv q
  exact Gb (f:=fun vs=>f (.agg ⟨u⟩::vs)) (HQ (c:=fun K'=>dB l t2 K' c) q2)
@[reducible] def Oo (P:Program) (f:Value) (m:Nat) (pl:List Sl) (h:H) (RD:TB RT pl) (done:H->Prop):Prop:=FM P f m h (fun l Mid Kc Fin h1=>dB pl l RD fun K=>K Mid Kc Fin h1) done
@[reducible] def nF (l:List Sl) (F:TD l->Prop) (k:TD l):Prop:=F k
section
variable {ro:Option Nat} {P:Program} {n:Nat} {Q:de} {g:Env} {h:H} {c:Code} {N R:Env->H->Prop} {X:Nat->Env->H->Prop} {acc:HL} {l:List Sl} {ds:List Deferred} {K:KV}
theorem Qg {A:Prop} (hg:HD g ds acc) (hS:A) (he:A=Dt ro P n c Q (nv ⟨g.v,ds⟩ acc) h:=by kernel_rfl) (hm:P.follows .mixedOrders=true:=by kernel_rfl) (hd:gB P c=true:=by kernel_rfl):fM ro P n c Q g h:=by
 subst he
 rw[nL hg] at hS
 exact Bo hm c Q _ h hd hS
theorem BG {F:TD l->Prop} {k:TD l} (hg:HD g ds acc) (hS:nF l F k) (next:∀{g:Env} {h:H},ED g h (fM ro P n (sN c) (QX N R X) g h) l k [])
  (hF:F=fun K=>Dt ro P n (kU c) (QX (DD l K) R X) (nv ⟨g.v,ds⟩ acc) h:=by kernel_rfl) (hc:c=.seq (kU c) (sN c):=by kernel_rfl) (hm:P.follows .mixedOrders=true:=by kernel_rfl) (hd:gB P (kU c)=true:=by kernel_rfl):
  fM ro P n c (QX N R X) g h:=
 PE (N':=DD l k) hc (Qg hg hS (congrFun hF k) hm hd) fun hq=>D2 hq rfl next
theorem Ss {F:TD l->Prop} {k:TD l} (hS:nF l F k) (first:F k->fM ro P n (kU c) (QX (DD l k) R X) g h) (next:∀{g:Env} {h:H},ED g h (fM ro P n (sN c) (QX N R X) g h) l k [])
  (hc:c=.seq (kU c) (sN c):=by kernel_rfl):fM ro P n c (QX N R X) g h:=
 PE (N':=DD l k) hc (first hS) fun hq=>D2 hq rfl next
theorem Qf {f:Value} {m:Nat} {pl:List Sl} {RD:TB RT pl} {done:H->Prop} (fo:Operand) (ps:Array Tmp) (hg:HD g ds acc) (hS:Oo P f m pl h RD done)
  (hR:∀L,RD=MT pl fun vs Mid Kc Fin h1=>Dt (some L) P n (kU c) (qV (fun g1 he=>Mid he fun hb=>Dt (some L) P n (sN c) (LR Kc Fin Q ⟨(nv ⟨g.v,ds⟩ acc).v,cu h.size::ds⟩ hb) g1 hb) fun _ _ _=>False) (zR (nv ⟨g.v,ds⟩ acc) ps.toList vs) h1:=by intro L;kernel_rfl)
  (hd:done=fun h4=>Q .normal ⟨(nv ⟨g.v,ds⟩ acc).v,cu h.size::ds⟩ h4:=by kernel_rfl) (hf:lD n (nv ⟨g.v,ds⟩ acc) fo=f:=by kernel_rfl) (hc:c=.rangeFunc fo ps (kU c) (sN c):=by kernel_rfl) (hp:m=ps.toList.length:=by kernel_rfl)
  (hm:P.follows .mixedOrders=true:=by kernel_rfl) (ha:gB P (kU c)=true:=by kernel_rfl) (hb:gB P (sN c)=true:=by kernel_rfl):fM none P n c Q g h:=by
 have hds:g.ds=ds:=by
  have e:=nL hg
  clear hR hd hf
  induction acc with
  | nil=>exact hg
  | cons p l ih=>exact ih hg.2 (nL hg.2)
 rw[nL hg] at hf
 subst hp
 rw[nL hg] at hd
 have hR:∀L,RD=MT pl fun vs Mid Kc Fin h1=>Dt (some L) P n (kU c) (qV (fun g1 he=>Mid he fun hb=>Dt (some L) P n (sN c) (LR Kc Fin Q ⟨g.v,cu h.size::ds⟩ hb) g1 hb) fun _ _ _=>False) (zR g ps.toList vs) h1:=fun L=>by
  have:=hR L
  rwa[nL hg] at this
 rw[hc]
 refine I1 hf hS (fun h4 h5=>?_) fun L x Mid Kc Fin h1 hM hx=>?_
 ·rw[hd] at h5
  rw[hds]
  exact h5
 ·rw[hR L] at hx
  have hx:=Gb hx
  rw[hds]
  exact(Bo hm _ _ _ _ ha hx).mono (xg fun g1 he AZ=>hM he _ _ (fun AO=>Bo hm _ _ _ _ hb) AZ)
theorem Qh {A:Prop} {rs:List ResultVar} (hg:HD g ds acc) (hS:A) (he:A=yR P n rs K .normal (nv ⟨g.v,ds⟩ acc) h:=by kernel_rfl):yR P n rs K .normal g h:=by
 subst he
 rw[nL hg] at hS
 exact hS
theorem Qe {f:FuncId} {fn:Func} {args:List Value} {F:TD l->Prop} {k:TD l} (hf:P.funcs[f]? =some fn) (hS:nF l F k)
  (hx:∀{g:Env},HD g [] (idx 0 args)->F k->fM none P fn.ntmps (Bu fn) (QX (DD l k) (DD l k) noX) g h) (hr:∀{g:Env} {h:H},ED g h (yR P fn.ntmps fn.results.toList K .normal g h) l k [])
  (hb:fn.body=some (Bu fn):=by kernel_rfl) (hn:Nat.ble args.length fn.ntmps=true:=by kernel_rfl):gQ P f ⟨args⟩ h K:=by
 have hh:∀{g:Env} {l:HL},mI g l->HD g [] l:=fun {g l} h=>by
  induction l with
  | nil=>exact h
  | cons p l ih=>exact⟨h.1,ih h.2⟩
 exact LQ hf hb hn (hx (hh (xB rfl)) hS) fun hq=>D2 hq rfl hr
end
end Go.Sh
