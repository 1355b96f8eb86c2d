import Derived.Test.YtijoifkjeamonaaGreatShN
import Derived.RangeFuncRecord
import Derived.Below
namespace Go.Sh
open Go
set_option linter.unusedVariables false
set_option linter.unusedSimpArgs false
variable {P:Program}
def IT (o:Oper) (k:Nat):Oper:={o with after:=o.after.push {on:=k,ground:=.data}}
def nr (k j:Nat):List Oper->Nat->List Oper
 | [],_=>[]
 | o::l,i=>cond (Nat.beq i j) (IT o k::l) (o::nr k j l (i+1))
theorem Dm (k j:Nat):∀(l:List Oper) (i:Nat),(nr k j l i).length=l.length
 | [],_=>rfl
 | o::l,i=>by
  unfold nr
  cases Nat.beq i j with
  | true=>rfl
  | false=>simp[Dm k j l (i+1)]
theorem Dn (k j:Nat):∀(l:List Oper) (i m:Nat),(nr k j l i)[m]? =(l[m]?).map fun o=>if i+m=j then IT o k else o
 | [],_,m=>by simp[nr]
 | o::l,i,m=>by
  unfold nr
  cases hb:Nat.beq i j with
  | true=>
   have e:=Nat.eq_of_beq_eq_true hb
   cases m with
   | zero=>simp[cond,e]
   | succ m=>
    simp only[cond,List.getElem?_cons_succ]
    have:¬i+(m+1)=j:=by omega
    simp only[if_neg this]
    cases l[m]? <;> rfl
  | false=>
   have e:i≠j:=fun e=>by rw[e,Nat.beq_refl] at hb;cases hb
   cases m with
   | zero=>simp[cond,e]
   | succ m=>
    simp only[cond,List.getElem?_cons_succ]
    rw[Dn k j l (i+1) m]
    rw[show i+1+m=i+(m+1) by omega]
def po (k j:Nat) (ops:Array Oper):Array Oper:=⟨nr k j ops.toList 0⟩
theorem sL {k j:Nat} {ops:Array Oper} (m:Nat):(po k j ops)[m]? =(ops[m]?).map fun o=>if m=j then IT o k else o:=by
 have:=Dn k j ops.toList 0 m
 rw[Nat.zero_add] at this
 rw[<-Array.getElem?_toList,<-Array.getElem?_toList]
 exact this
theorem jX (k j:Nat) (ops:Array Oper):(po k j ops).size=ops.size:=by
 have:=Dm k j ops.toList 0
 simpa [po] using this
section
variable {ops:Array Oper} {Q:Exit->Act->World->Prop}
theorem Dp {k j:Nat} (tm:Array Value):yielded (po k j ops) tm=yielded ops tm:=by
 funext m
 unfold yielded
 rw[sL]
 cases ops[m]? with
 | none=>rfl
 | some o=>
  have e:(if m=j then IT o k else o).dst=o.dst:=by split <;> rfl
  simp only[Option.map_some,Option.bind_some,e]
theorem gn {k j:Nat}:∀(l:List Nat) (a:Act) (w:World),wpOps P (po k j ops) Q l a w->wpOps P ops Q l a w
 | [],a,w,h=>h
 | i::l,a,w,h=>by
  unfold wpOps at h ⊢
  rw[sL,Dp] at h
  cases ho:ops[i]? with
  | none=>rw[ho] at h;exact gn l a w h
  | some o=>
   rw[ho] at h
   simp only[Option.map_some] at h ⊢
   have hw:∀o':Oper,(o'=o∨o'=IT o k)->(if Region.wanted o' (yielded ops a.tmps)=true then o'.wp P a w (wpOps P (po k j ops) Q l) Q∨(o'.asks P a w/\LetsOut Q) else wpOps P (po k j ops) Q l (a.put o'.dst undef) w)->
     (if Region.wanted o (yielded ops a.tmps)=true then o.wp P a w (wpOps P ops Q l) Q∨(o.asks P a w/\LetsOut Q) else wpOps P ops Q l (a.put o.dst undef) w):=by
    intro o' B9 hh
    have e1:Region.wanted o' (yielded ops a.tmps)=Region.wanted o (yielded ops a.tmps):=by rcases B9 with rfl | rfl <;> rfl
    have e2:o'.dst=o.dst:=by rcases B9 with rfl | rfl <;> rfl
    have e3:∀K,o'.wp P a w K Q=o.wp P a w K Q:=fun K=>by rcases B9 with rfl | rfl <;> rfl
    have e4:o'.asks P a w=o.asks P a w:=by rcases B9 with rfl | rfl <;> rfl
    rw[e1,e2,e3,e4] at hh
    by_cases hc:Region.wanted o (yielded ops a.tmps)=true
    ·rw[if_pos hc] at hh ⊢
     exact hh.imp (fun x=>Oper.wp_mono (fun a w=>gn l a w) x) id
    ·rw[if_neg hc] at hh ⊢
     exact gn l _ _ hh
   by_cases e:i=j
   ·rw[if_pos e] at h;exact hw _ (.inr rfl) h
   ·rw[if_neg e] at h;exact hw _ (.inl rfl) h
def yO (ops:Array Oper):Nat->Array Bool->List Nat->Prop
 | 0,_,l=>l=[]
 | _+1,aK,[]=>Region.ready .any ops aK=[]
 | f+1,aK,i::l=>i ∈ Region.ready .any ops aK/\yO ops f (aK.setIfInBounds i true) l
theorem rH:∀(fuel t:Nat) (aK:Array Bool),yO ops fuel aK (Region.linearise.go .any ops fuel t aK []):=by
 intro fuel
 induction fuel with
 | zero=>intro t aK;rfl
 | succ fuel ih=>
  intro t aK
  simp only[Region.linearise.go]
  change yO ops (fuel+1) aK (match (Region.ready .any ops aK)[t % (Region.ready .any ops aK).length]? with
   | some i=>Region.linearise.go .any ops fuel (t / (Region.ready .any ops aK).length) (aK.setIfInBounds i true) [i]
   | none=>[].reverse)
  cases hi:(Region.ready .any ops aK)[t % (Region.ready .any ops aK).length]? with
  | none=>
   show Region.ready .any ops aK=[]
   cases hr:Region.ready .any ops aK with
   | nil=>rfl
   | cons x xs=>
    rw[hr] at hi
    have cR:t % (x::xs).length<(x::xs).length:=Nat.mod_lt _ (by simp)
    simp at hi
    simp at cR
    omega
  | some i=>
   simp only[]
   rw[linearise_go_acc,List.reverse_singleton,List.singleton_append]
   exact⟨List.mem_of_getElem? hi,ih _ _⟩
theorem zM:∀(fuel:Nat) (aK:Array Bool) (l:List Nat) (a:Act) (w:World),wpAny P .any ops Q fuel aK a w->yO ops fuel aK l->wpOps P ops Q l a w
 | 0,aK,l,a,w,h,hv=>by
  have hv:l=[]:=hv
  subst hv;exact h.2
 | fuel+1,aK,[],a,w,h,hv=>h.1 hv
 | fuel+1,aK,i::l,a,w,h,hv=>by
  rw[wpOps_cons]
  exact wpOp_mono (fun a w ha=>zM fuel _ l a w ha hv.2) (h.2 i hv.1)
theorem IU {k j i:Nat} {aK:Array Bool} (h:i ∈ Region.ready .any (po k j ops) aK):i ∈ Region.ready .any ops aK:=by
 obtain⟨h0,o,ho,bm⟩:=mem_ready.1 h
 rw[sL] at ho
 cases hi:ops[i]? with
 | none=>rw[hi] at ho;cases ho
 | some o'=>
  rw[hi] at ho
  simp only[Option.map_some,Option.some.injEq] at ho
  refine mem_ready.2 ⟨h0,o',hi,fun e he hb=>bm e ?_ hb⟩
  subst ho
  split
  ·show e ∈ o'.after.push _
   exact Array.mem_push.2 (.inl he)
  ·exact he
theorem kv {k j:Nat} (JK:k≠j):∀(fuel:Nat) (aK:Array Bool) (l:List Nat),yO ops fuel aK l->(∀A B,l=A++j::B->k ∈ A∨aK.getD k false=true)->yO (po k j ops) fuel aK l
 | 0,aK,l,hv,_=>hv
 | fuel+1,aK,[],hv,_=>by
  show Region.ready .any (po k j ops) aK=[]
  have hv:Region.ready .any ops aK=[]:=hv
  cases hr:Region.ready .any (po k j ops) aK with
  | nil=>rfl
  | cons x xs=>
   have:=IU (k:=k) (j:=j) (ops:=ops) (i:=x) (by rw[hr];simp)
   rw[hv] at this;cases this
 | fuel+1,aK,i::l,hv,ho=>by
  refine⟨?_,kv JK fuel _ l hv.2 fun A B e=>?_⟩
  ·obtain⟨h0,o,hio,bm⟩:=mem_ready.1 hv.1
   refine mem_ready.2 ⟨h0,if i=j then IT o k else o,by rw[sL,hio];rfl,fun e he hb=>?_⟩
   by_cases hij:i=j
   ·rw[if_pos hij] at he
    have he:e ∈ o.after.push {on:=k,ground:=.data}:=he
    rcases Array.mem_push.1 he with he | rfl
    ·exact bm e he hb
    ·rcases ho [] l (by rw[hij];rfl) with h | h
     ·cases h
     ·exact h
   ·rw[if_neg hij] at he
    exact bm e he hb
  ·have:=ho (i::A) B (by rw[e];rfl)
   rcases this with h | h
   ·rcases List.mem_cons.1 h with rfl | h
    ·right
     have cR:k<aK.size:=by
      obtain⟨h0,_⟩:=mem_ready.1 hv.1
      simp only[Array.getD_eq_getD_getElem?] at h0
      cases hl:aK[k]? with
      | none=>rw[hl] at h0;cases h0
      | some b=>exact(Array.getElem?_eq_some_iff.1 hl).1
     simp[Array.getD_eq_getD_getElem?,cR]
    ·exact .inl h
   ·exact .inr (getD_set_true h)
theorem sM {k j:Nat} (JK:k≠j):∀l:List Nat,l.Nodup->(∀A B,l=A++j::B->k ∈ A)∨(∀A B,l=A++k::B->j ∈ A)
 | [],_=>.inl fun A B e=>by simp at e
 | x::l,hn=>by
  have vJ:=List.nodup_cons.1 hn
  by_cases hk:x=k
  ·left
   intro A B e
   cases A with
   | nil=>simp at e;exact absurd (hk.symm.trans e.1) JK
   | cons y A=>simp at e;rw[<-e.1,hk];simp
  ·by_cases hj:x=j
   ·right
    intro A B e
    cases A with
    | nil=>simp at e;exact absurd e.1 hk
    | cons y A=>simp at e;rw[<-e.1,hj];simp
   ·refine(sM JK l vJ.2).imp (fun h A B e=>?_) fun h A B e=>?_
    ·cases A with
     | nil=>simp at e;exact absurd e.1 hj
     | cons y A=>simp at e;exact List.mem_cons_of_mem _ (h A B e.2)
    ·cases A with
     | nil=>simp at e;exact absurd e.1 hk
     | cons y A=>simp at e;exact List.mem_cons_of_mem _ (h A B e.2)
theorem nt:∀(fuel:Nat) (aK:Array Bool) (l:List Nat),yO ops fuel aK l->l.Nodup/\∀i ∈ l,aK.getD i true=false
 | 0,aK,l,hv=>by
  have hv:l=[]:=hv
  subst hv;exact⟨List.nodup_nil,fun i hi=>by cases hi⟩
 | fuel+1,aK,[],hv=>⟨List.nodup_nil,fun i hi=>by cases hi⟩
 | fuel+1,aK,i::l,hv=>by
  obtain⟨h1,h2⟩:=nt fuel _ l hv.2
  obtain⟨h0,_⟩:=mem_ready.1 hv.1
  refine⟨List.nodup_cons.2 ⟨fun hm=>?_,h1⟩,fun m hm=>?_⟩
  ·have:=h2 i hm
   have cR:i<aK.size:=by
    simp only[Array.getD_eq_getD_getElem?] at h0
    cases hl:aK[i]? with
    | none=>rw[hl] at h0;cases h0
    | some b=>exact(Array.getElem?_eq_some_iff.1 hl).1
   simp[Array.getD_eq_getD_getElem?,cR] at this
  ·rcases List.mem_cons.1 hm with rfl | hm
   ·exact h0
   ·have:=h2 m hm
    by_cases e:i=m
    ·subst e;exact h0
    ·simpa [Array.getD_eq_getD_getElem?,Array.getElem?_setIfInBounds_ne e] using this
end
def Hq (ops:List Oper) (ms:List Nat):List Nat:=ops.map (LA ms)
def dd (ops:List Oper):List Nat:=Hq ops (Hq ops (lz ops []))
def Sd (P:Program) (ms:List Nat) (s i:Nat):List Oper->Nat->Option Nat
 | [],_=>none
 | o::l,j=>cond (iw P o&&!(Se ms s i j||Se ms s j i)) (some j) (Sd P ms s i l (j+1))
def Dq (P:Program) (ms:List Nat) (s:Nat):List Oper->Nat->Option (Nat × Nat)
 | [],_=>none
 | o::l,i=>cond (iw P o) (match Sd P ms s i l (i+1) with | some j=>some (i,j) | none=>Dq P ms s l (i+1)) (Dq P ms s l (i+1))
def pq (P:Program) (n:Nat) (next:Env->H->Prop):Nat->List Oper->Env->H->Prop
 | 0,ops,g,h=>xe P n ops (dd ops) next g h
 | f+1,ops,g,h=>
  cond (iT P ops (dd ops)) (xe P n ops (dd ops) next g h)
   (match Dq P (dd ops) ops.length ops 0 with
    | some (i,j)=>pq P n next f (nr i j ops 0) g h/\pq P n next f (nr j i ops 0) g h
    | none=>False)
def lL (P:Program):Nat->List Oper->Bool
 | 0,ops=>iT P ops (dd ops)
 | f+1,ops=>
  cond (iT P ops (dd ops)) true
   (match Dq P (dd ops) ops.length ops 0 with
    | some (i,j)=>!Nat.beq i j&&lL P f (nr i j ops 0)&&lL P f (nr j i ops 0)
    | none=>false)
theorem pR {n:Nat} {ops:Array Oper} {Q:de} {g:Env} {h:H} (hp:iT P ops.toList (dd ops.toList)=true) (hx:xe P n ops.toList (dd ops.toList) (Q .normal) g h) (w0 w:World) (a:Act)
  (hw:w.heap=h) (ho:bu w0 w) (ha:dV n a g) (l:List Nat) (hv:yO ops ops.size (Array.replicate ops.size false) l):wpOps P ops (lift n w0 Q) l a w:=by
 simp only[iT,Bool.and_eq_true] at hp
 obtain⟨h1,h2⟩:=Dr (fun i k hk=>by have:=LB hk;simpa using this) hp.1
 exact zM _ _ _ _ _ (Hr (next:=Q .normal) h1 (fun _ _ h=>h) (by subst hw;exact hx) ha ho h2) hv
theorem ky {n:Nat} {Q:de} (w0 w:World) (a:Act) (g:Env) (ho:bu w0 w) (ha:dV n a g):
  ∀(f:Nat) (ops:Array Oper),lL P f ops.toList=true->pq P n (Q .normal) f ops.toList g w.heap->∀l,yO ops ops.size (Array.replicate ops.size false) l->wpOps P ops (lift n w0 Q) l a w
 | 0,ops,hb,hx,l,hv=>pR hb hx w0 w a rfl ho ha l hv
 | f+1,ops,hb,hx,l,hv=>by
  unfold lL at hb
  unfold pq at hx
  cases qq:iT P ops.toList (dd ops.toList) with
  | true=>
   rw[qq] at hx
   exact pR qq hx w0 w a rfl ho ha l hv
  | false=>
   rw[qq] at hx hb
   simp only[cond] at hx hb
   cases ZC:Dq P (dd ops.toList) ops.toList.length ops.toList 0 with
   | none=>rw[ZC] at hx;exact hx.elim
   | some ij=>
    obtain⟨i,j⟩:=ij
    rw[ZC] at hx hb
    simp only[Bool.and_eq_true,Bool.not_eq_true'] at hb
    have hij:i≠j:=fun e=>by have:=hb.1.1;rw[e,Nat.beq_refl] at this;cases this
    have jO:=(nt _ _ _ hv).1
    rcases sM hij l jO with h1 | h1
    ·have:=ky w0 w a g ho ha f (po i j ops) hb.1.2 hx.1 l (by rw[jX];exact kv hij _ _ _ hv fun A B e=>.inl (h1 A B e))
     exact gn l a w this
    ·have:=ky w0 w a g ho ha f (po j i ops) hb.2 hx.2 l (by rw[jX];exact kv (Ne.symm hij) _ _ _ hv fun A B e=>.inl (h1 A B e))
     exact gn l a w this
theorem IV {ro:Option Nat} {n id f:Nat} {ops:Array Oper} {Q:de} {g:Env} {h:H} (hm:P.follows .mixedOrders=true) (jO:fS ops.toList=true)
  (hp:lL P f ops.toList=true) (hx:pq P n (Q .normal) f ops.toList g h) (w0 w:World) (a:Act)
  (hw:w.heap=h) (ho:bu w0 w) (ha:dV n a g):(Code.region id ops true).wpIn (Fr ro) 0 P (lift n w0 Q) a w:=by
 refine wpIn_region_draw fun t=>?_
 refine cK kz (kD jO) _ _ _ ?_
 simp only[Region.schedule,hm,Bool.true_or,if_true]
 exact ky w0 {w with drawn:=w.drawn+1} a g ⟨ho.tape,ho.os,ho.output⟩ ha f ops hp (by subst hw;exact hx) _ (rH ops.size t _)
def rdF (n id:Nat):Bool:=Nat.beq n 27&&Nat.beq id 1||Nat.beq n 34&&Nat.beq id 5||Nat.beq n 40&&Nat.beq id 5||Nat.beq n 90&&Nat.beq id 14
def Sf (P:Program) (ms:List Nat) (s i:Nat):List Oper->Nat->Option Nat
 | [],_=>none
 | o::l,j=>cond (yP P o&&!(Se ms s i j||Se ms s j i||Nat.beq i j)) (some j) (Sf P ms s i l (j+1))
def Ds (P:Program) (ms:List Nat) (s:Nat) (all:List Oper):List Oper->Nat->Option (Nat × Nat)
 | [],_=>none
 | o::l,i=>cond (iw P o) (match Sf P ms s i all 0 with | some j=>some (i,j) | none=>Ds P ms s all l (i+1)) (Ds P ms s all l (i+1))
def zN (P:Program) (n:Nat) (next:Env->H->Prop):Nat->List Oper->Env->H->Prop
 | 0,ops,g,h=>xe P n ops (dd ops) next g h
 | f+1,ops,g,h=>
  match Ds P (dd ops) ops.length ops ops 0 with
  | some (i,j)=>zN P n next f (nr i j ops 0) g h/\zN P n next f (nr j i ops 0) g h
  | none=>xe P n ops (dd ops) next g h
def nu (P:Program):Nat->List Oper->Bool
 | 0,ops=>iT P ops (dd ops)
 | f+1,ops=>
  match Ds P (dd ops) ops.length ops ops 0 with
  | some (i,j)=>!Nat.beq i j&&nu P f (nr i j ops 0)&&nu P f (nr j i ops 0)
  | none=>iT P ops (dd ops)
theorem tU {n:Nat} {Q:de} (w0 w:World) (a:Act) (g:Env) (ho:bu w0 w) (ha:dV n a g):
  ∀(f:Nat) (ops:Array Oper),nu P f ops.toList=true->zN P n (Q .normal) f ops.toList g w.heap->∀l,yO ops ops.size (Array.replicate ops.size false) l->wpOps P ops (lift n w0 Q) l a w
 | 0,ops,hb,hx,l,hv=>pR hb hx w0 w a rfl ho ha l hv
 | f+1,ops,hb,hx,l,hv=>by
  unfold nu at hb
  unfold zN at hx
  cases ZC:Ds P (dd ops.toList) ops.toList.length ops.toList ops.toList 0 with
  | none=>rw[ZC] at hx hb;exact pR hb hx w0 w a rfl ho ha l hv
  | some ij=>
   obtain⟨i,j⟩:=ij
   rw[ZC] at hx hb
   simp only[Bool.and_eq_true,Bool.not_eq_true'] at hb
   have hij:i≠j:=fun e=>by have:=hb.1.1;rw[e,Nat.beq_refl] at this;cases this
   have jO:=(nt _ _ _ hv).1
   rcases sM hij l jO with h1 | h1
   ·have:=tU w0 w a g ho ha f (po i j ops) hb.1.2 hx.1 l (by rw[jX];exact kv hij _ _ _ hv fun A B e=>.inl (h1 A B e))
    exact gn l a w this
   ·have:=tU w0 w a g ho ha f (po j i ops) hb.2 hx.2 l (by rw[jX];exact kv (Ne.symm hij) _ _ _ hv fun A B e=>.inl (h1 A B e))
    exact gn l a w this
theorem LC {ro:Option Nat} {n id f:Nat} {ops:Array Oper} {Q:de} {g:Env} {h:H} (hm:P.follows .mixedOrders=true) (jO:fS ops.toList=true)
  (hp:nu P f ops.toList=true) (hx:zN P n (Q .normal) f ops.toList g h) (w0 w:World) (a:Act)
  (hw:w.heap=h) (ho:bu w0 w) (ha:dV n a g):(Code.region id ops true).wpIn (Fr ro) 0 P (lift n w0 Q) a w:=by
 refine wpIn_region_draw fun t=>?_
 refine cK kz (kD jO) _ _ _ ?_
 simp only[Region.schedule,hm,Bool.true_or,if_true]
 exact tU w0 {w with drawn:=w.drawn+1} a g ⟨ho.tape,ho.os,ho.output⟩ ha f ops hp (by subst hw;exact hx) _ (rH ops.size t _)
def LD (n id:Nat):Option (Nat × Nat):=if Nat.beq n 25&&Nat.beq id 2 then some (7,4) else if Nat.beq n 57&&Nat.beq id 5 then some (13,3) else if Nat.beq n 143&&Nat.beq id 11 then some (21,3) else if Nat.beq n 143&&Nat.beq id 7 then some (17,3) else if Nat.beq n 35&&Nat.beq id 0 then some (15,3) else none
def ZD (P:Program) (n:Nat) (next:Env->H->Prop) (ops:List Oper) (i j:Nat) (g:Env) (h:H):Prop:=
 pq P n next 3 (nr i j ops 0) g h/\pq P n next 3 (nr j i ops 0) g h
def Up (P:Program) (ops:List Oper) (i j:Nat):Bool:=!Nat.beq i j&&lL P 3 (nr i j ops 0)&&lL P 3 (nr j i ops 0)
theorem Pz {ro:Option Nat} {n id i j:Nat} {ops:Array Oper} {Q:de} {g:Env} {h:H} (hm:P.follows .mixedOrders=true) (jO:fS ops.toList=true)
  (hp:Up P ops.toList i j=true) (hx:ZD P n (Q .normal) ops.toList i j g h) (w0 w:World) (a:Act)
  (hw:w.heap=h) (ho:bu w0 w) (ha:dV n a g):(Code.region id ops true).wpIn (Fr ro) 0 P (lift n w0 Q) a w:=by
 refine wpIn_region_draw fun t=>?_
 refine cK kz (kD jO) _ _ _ ?_
 simp only[Region.schedule,hm,Bool.true_or,if_true]
 unfold Up at hp
 simp only[Bool.and_eq_true,Bool.not_eq_true'] at hp
 have hij:i≠j:=fun e=>by have:=hp.1.1;rw[e,Nat.beq_refl] at this;cases this
 have hv:=rH (ops:=ops) ops.size t (Array.replicate ops.size false)
 have af9:=(nt _ _ _ hv).1
 rcases sM hij _ af9 with h1 | h1
 ·have:=ky w0 {w with drawn:=w.drawn+1} a g ⟨ho.tape,ho.os,ho.output⟩ ha 3 (po i j ops) hp.1.2 (by subst hw;exact hx.1) _ (by rw[jX];exact kv hij _ _ _ hv fun A B e=>.inl (h1 A B e))
  exact gn _ a _ this
 ·have:=ky w0 {w with drawn:=w.drawn+1} a g ⟨ho.tape,ho.os,ho.output⟩ ha 3 (po j i ops) hp.2 (by subst hw;exact hx.2) _ (by rw[jX];exact kv (Ne.symm hij) _ _ _ hv fun A B e=>.inl (h1 A B e))
  exact gn _ a _ this
set_option linter.unusedSimpArgs false
variable {P:Program}
def Dt (ro:Option Nat) (P:Program) (n:Nat):Code->de->Env->H->Prop
 | .skip,Q,g,h=>Q .normal g h
 | .region id ops draw,Q,g,h=>
  cond draw (match LD n id with
   | some (i,j)=>cond (Up P ops.toList i j&&fS ops.toList) (ZD P n (Q .normal) ops.toList i j g h) False
   | none=>cond (rdF n id&&(nu P 3 ops.toList&&fS ops.toList)) (zN P n (Q .normal) 3 ops.toList g h) (cond (iT P ops.toList (lz ops.toList [])) (xe P n ops.toList (lz ops.toList []) (Q .normal) g h) (cond (lL P 3 ops.toList&&fS ops.toList) (pq P n (Q .normal) 3 ops.toList g h) (Uq P n ops.toList (Q .normal) h ops.toList g)))) (IW P n ops.toList (Q .normal) ops.toList g h)
 | .seq a b,Q,g,h=>Dt ro P n a (qV (Dt ro P n b Q) Q) g h
 | .cond c a b,Q,g,h=>au (lD n g c) fun t=>cond t (Dt ro P n a Q g h) (Dt ro P n b Q g h)
 | .block id c,Q,g,h=>Dt ro P n c (xf id Q) g h
 | .exit id,Q,g,h=>Q (.exit id) g h
 | .label _,Q,g,h=>Q .normal g h
 | .goto l,Q,g,h=>Q (.goto l) g h
 | .ret,Q,g,h=>Q .ret g h
 | _,_,_,_=>False
def gB (P:Program):Code->Bool
 | .region _ ops draw=>!draw||(iT P ops.toList (lz ops.toList [])||((lL P 3 ops.toList&&fS ops.toList)||(Region.lexB .any ops&&fS ops.toList)))
 | .seq a b=>gB P a&&gB P b
 | .cond _ a b=>gB P a&&gB P b
 | .block _ c=>gB P c
 | _=>true
theorem xg {A B:Env->H->Prop} {Q:de} (hab:∀g h,A g h->B g h):∀e g h,qV A Q e g h->qV B Q e g h:=by
 intro e g h hx
 cases e <;> first | exact hab _ _ hx | exact hx
theorem Bo {ro:Option Nat} {n:Nat} (hm:P.follows .mixedOrders=true):∀(c:Code) (Q:de) (g:Env) (h:H),gB P c=true->Dt ro P n c Q g h->fM ro P n c Q g h:=by
 intro c
 induction c with
 | skip=>intro Q g h _ hx;exact LF hx
 | region id ops draw=>
  intro Q g h hd hx
  cases draw with
  | true=>
   simp only[gB,Bool.not_true,Bool.false_or,Bool.or_eq_true,Bool.and_eq_true] at hd
   simp only[Dt,cond] at hx
   cases hpo:LD n id with
   | some ij=>
    obtain⟨i,j⟩:=ij
    rw[hpo] at hx
    simp only[] at hx
    split at hx
    ·rename_i hc
     simp only[Bool.and_eq_true] at hc
     exact fun w0 w a hw ho ha=>Pz hm hc.2 hc.1 hx w0 w a hw ho ha
    ·exact hx.elim
   | none=>
   rw[hpo] at hx
   simp only[] at hx
   cases Bl:rdF n id&&(nu P 3 ops.toList&&fS ops.toList) with
   | true=>
    rw[Bl] at hx
    simp only[Bool.and_eq_true] at Bl
    exact fun w0 w a hw ho ha=>LC hm Bl.2.2 Bl.2.1 hx w0 w a hw ho ha
   | false=>
   rw[Bl] at hx
   simp only[] at hx
   cases qq:iT P ops.toList (lz ops.toList []) with
   | true=>
    rw[qq] at hx
    exact fun w0 w a hw ho ha=>IX hm qq hx w0 w a hw ho ha
   | false=>
    rw[qq] at hx hd
    have hd:=hd.resolve_left (by simp)
    simp only[] at hx
    cases hsp:lL P 3 ops.toList&&fS ops.toList with
    | true=>
     rw[hsp] at hx
     simp only[Bool.and_eq_true] at hsp
     exact fun w0 w a hw ho ha=>IV hm hsp.2 hsp.1 hx w0 w a hw ho ha
    | false=>
     rw[hsp] at hx
     simp only[Bool.and_eq_false_iff] at hsp
     have hd:=hd.resolve_left (fun hh=>by rcases hsp with e | e <;> rw[e] at hh;(exact absurd hh.1 (by simp));(exact absurd hh.2 (by simp)))
     exact fun w0 w a hw ho ha=>LG hm hd.1 hd.2 hx w0 w a hw ho ha
  | false=>
   intro w0 w a hw ho ha
   refine wpIn_region ?_
   have:=Bq (ro:=ro) (Q:=Q) (fun _ _ hh=>hh) w0 ops.toList 0 g h a w (fun j=>by simp) hx hw ho ha
   rwa[Array.length_toList,<-List.range_eq_range'] at this
 | seq a b iha ihb=>
  intro Q g h hd hx
  simp only[gB,Bool.and_eq_true] at hd
  exact Hs ((iha _ g h hd.1 hx).mono (xg fun g h=>ihb Q g h hd.2))
 | cond c a b iha ihb=>
  intro Q g h hd hx
  simp only[gB,Bool.and_eq_true] at hd
  unfold Dt at hx
  unfold au at hx
  split at hx
  ·rename_i t ht
   refine Du ht ?_
   cases t with
   | true=>exact iha _ _ _ hd.1 hx
   | false=>exact ihb _ _ _ hd.2 hx
  ·exact hx.elim
 | block id c ih=>intro Q g h hd hx;exact zO (ih _ _ _ hd hx)
 | exit id=>intro Q g h _ hx;exact LH hx
 | label l=>intro Q g h _ hx;exact IY hx
 | goto l=>intro Q g h _ hx;exact LI hx
 | ret=>intro Q g h _ hx;exact PB hx
 | loop c _=>intro Q g h _ hx;exact hx.elim
 | rangeFunc f ps a b _ _=>intro Q g h _ hx;exact hx.elim
 | scope c _=>intro Q g h _ hx;exact hx.elim
 | refuse s=>intro Q g h _ hx;exact hx.elim
def yQ (P:Program) (g:Env) (n:Nat) (h:H):List ResultVar->(List Value->Prop)->Prop
 | [],k=>k []
 | .tmp t::l,k=>cond (Nat.blt t n) (yQ P g n h l fun vs=>k (g.v t::vs)) False
 | .cell a t::l,k=>cond (Nat.blt a n) (uG (g.v a) fun a=>Ca P t a h fun v=>yQ P g n h l fun vs=>k (v::vs)) False
def LJ:List Value->Value
 | [v]=>v
 | l=>.tuple ⟨l⟩
def dE:List Deferred->H->(H->Prop)->Prop
 | [],h,k=>k h
 | d::ds,h,k=>
  match d.target with
  | .collected r=>h[r]? =some (.deferred (some []))/\dE ds (h.setIfInBounds r (.deferred none)) k
  | _=>False
def yR (P:Program) (n:Nat) (rs:List ResultVar) (K:KV):de
 | .normal,g,h=>dE g.ds h fun h=>yQ P g n h rs fun vs=>K (LJ vs) h
 | .ret,g,h=>dE g.ds h fun h=>yQ P g n h rs fun vs=>K (LJ vs) h
 | _,_,_=>False
def FK (tmps:Array Value) (r:ResultVar):Sem Value:=
 match r with
 | .tmp t=>pure (tmps.getD t undef)
 | .cell a t=>do loadVar t (<-Go.asAddr (tmps.getD a undef))
theorem Br {g:Env} {n:Nat} {h:H} {a:Act} {w:World} (ha:dV n a g) (hw:w.heap=h):∀{rs:List ResultVar} {k:List Value->Prop},yQ P g n h rs k->
  ∃vs,k vs/\(rs.mapM (FK a.tmps)).run P w=.ok vs w
 | [],k,hx=>⟨[],hx,rfl⟩
 | .tmp t::l,k,hx=>by
  unfold yQ at hx
  cases hb:Nat.blt t n with
  | false=>rw[hb] at hx;exact hx.elim
  | true=>
   rw[hb] at hx
   obtain⟨vs,hk,hr⟩:=Br ha hw (k:=fun vs=>k (g.v t::vs)) hx
   refine⟨g.v t::vs,hk,?_⟩
   rw[List.mapM_cons]
   have e:FK a.tmps (.tmp t)=pure (g.v t):=by unfold FK;simp only[ha.tmp t (pS hb)]
   simp only[e,Sem.run_bind,Sem.run_pure,Result.andThen_ok,hr]
 | .cell b t::l,k,hx=>by
  unfold yQ at hx
  cases hb:Nat.blt b n with
  | false=>rw[hb] at hx;exact hx.elim
  | true=>
   rw[hb] at hx
   obtain⟨ad,he,hx⟩:=kE (k:=fun a=>Ca P t a h fun v=>yQ P g n h l fun vs=>k (v::vs)) hx
   obtain⟨v,hx,hv⟩:=xh hx
   obtain⟨vs,hk,hr⟩:=Br ha hw (k:=fun vs=>k (v::vs)) hx
   refine⟨v::vs,hk,?_⟩
   rw[List.mapM_cons]
   have e:a.tmps.getD b undef=.pointer (some ad):=(ha.tmp b (pS hb)).trans he
   have e2:(FK a.tmps (.cell b t)).run P w=.ok v w:=by
    unfold FK
    simp only[e,Go.asAddr,Sem.run_bind,Sem.run_pure,Result.andThen_ok,hv w hw]
   simp only[Sem.run_bind,Sem.run_pure,Result.andThen_ok,hr,e2]
theorem Dv {fn:Func} {g:Env} {n:Nat} {h:H} {a:Act} {w:World} (ha:dV n a g) (hw:w.heap=h) {k:List Value->Prop} (hx:yQ P g n h fn.results.toList k):
  ∃vs,k vs/\(results fn a.tmps).run P w=.ok (LJ vs) w:=by
 obtain⟨vs,hk,hr⟩:=Br ha hw hx
 refine⟨vs,hk,?_⟩
 have hm:(fn.results.mapM (FK a.tmps)).run P w=.ok vs.toArray w:=by
  rw[<-Array.toArray_toList (xs:=fn.results),List.mapM_toArray]
  rw[Sem.run_map,hr]
  rfl
 have e:results fn a.tmps=(do let vs <-fn.results.mapM (FK a.tmps);pure (if h:vs.size=1 then vs[0] else .tuple vs)):=rfl
 rw[e,Sem.run_bind,hm,Result.andThen_ok,Sem.run_pure]
 refine congrArg (fun v=>Result.ok v w) ?_
 match vs with
 | []=>rfl
 | [v]=>rfl
 | v::u::l=>simp[LJ]
def PC (args:List Value):Env:=⟨fun i=>args.getD i undef,[]⟩
theorem Ur {n:Nat} {args:Array Value} (hn:args.size<=n):dV n {tmps:=args++Array.replicate (n - args.size) undef,defers:=[]} (PC args.toList):=by
 refine⟨rfl,by simp;omega,fun i hi=>?_⟩
 show(args++Array.replicate (n - args.size) undef).getD i undef=args.toList.getD i undef
 simp only[Array.getD_eq_getD_getElem?,List.getD_eq_getElem?_getD,Array.getElem?_toList]
 by_cases h:i<args.size
 ·rw[Array.getElem?_append_left h]
 ·rw[Array.getElem?_append_right (by omega),Array.getElem?_eq_none (xs:=args) (by omega)]
  by_cases h2:i - args.size<n - args.size
  ·rw[Array.getElem?_replicate,if_pos h2];rfl
  ·rw[Array.getElem?_eq_none (by simp;omega)]
theorem Dw {fn:Func} {tmps:Array Value} {w0:World} {K:KV} (k:H->Prop) (hk:∀w,k w.heap->∃v,(results fn tmps).run P w=.ok v w/\K v w.heap):
  ∀(ds:List Deferred) (w:World),bu w0 w->dE ds w.heap k->
   LeavesInM Fence.wide 0 P fn tmps (fun e w'=>∃v,e=.returned v/\bu w0 w'/\K v w'.heap) ds .returning w
 | [],w,ho,hx=>by
  obtain⟨v,hr,hv⟩:=hk w hx
  exact⟨v,hr,v,rfl,ho,hv⟩
 | d::ds,w,ho,hx=>by
  unfold dE at hx
  split at hx
  ·rename_i r ht
   obtain⟨hr,hx⟩:=hx
   refine⟨by simp,.inl ⟨r,{w with heap:=w.heap.setIfInBounds r (.deferred none)},ht,?_,?_⟩⟩
   ·unfold Instr.takeDeferred
    have hg:(getObj r).run P w=.ok (.deferred (some [])) w:=by
     simp[getObj,Sem.run,hr]
    have hs:(setObj r (.deferred none)).run P w=.ok () {w with heap:=w.heap.setIfInBounds r (.deferred none)}:=by
     simp[setObj,Sem.run,hr]
    rw[Sem.run_bind,hg,Result.andThen_ok]
    simp only[Sem.run_bind,hs,Result.andThen_ok,Sem.run_pure]
   ·exact Dw k hk ds _ ⟨ho.tape,ho.os,ho.output⟩ hx
  ·exact hx.elim
theorem Bt {f:FuncId} {fn:Func} {c:Code} {args:Array Value} {h:H} {K:KV} (hf:P.funcs[f]? =some fn) (hb:fn.body=some c) (hn:args.size<=fn.ntmps)
  (hx:fM none P fn.ntmps c (yR P fn.ntmps fn.results.toList K) (PC args.toList) h):gQ P f args h K:=by
 intro w hw
 refine(callsIn_wide (n:=0)).1 ?_
 refine callsIn_of_wp_marks (F:=Fence.wide) hf hb trivial ?_
 refine wpIn_mono (hx w w _ hw (bu.refl w) (Ur hn)) fun e a' w' he=>?_
 have fin:∀g,dV fn.ntmps a' g->bu w w'->(dE g.ds w'.heap fun h=>yQ P g fn.ntmps h fn.results.toList fun vs=>K (LJ vs) h)->
   LeavesInM Fence.wide 0 P fn a'.tmps (fun e w'=>∃v,e=.returned v/\bu w w'/\K v w'.heap) a'.defers .returning w':=by
  intro g ha ho hx
  rw[ha.ds]
  refine Dw _ (fun w2 hr=>?_) g.ds w' ho hx
  obtain⟨vs,hk,hr⟩:=Dv ha rfl hr
  exact⟨_,hr,hk⟩
 cases e with
 | normal=>obtain⟨g,ha,hr,ho⟩:=he;exact fin g ha ho hr
 | ret=>obtain⟨g,ha,hr,ho⟩:=he;exact fin g ha ho hr
 | exit id=>obtain⟨g,ha,hr,ho⟩:=he;exact hr.elim
 | goto l=>obtain⟨g,ha,hr,ho⟩:=he;exact hr.elim
 | panic ch=>exact he.elim
 | outgrown=>exact he.elim
def kU:Code->Code
 | .seq a _=>a
 | .cond _ a _=>a
 | .block _ c=>c
 | .loop c=>c
 | .scope c=>c
 | .rangeFunc _ _ a _=>a
 | c=>c
def sN:Code->Code
 | .seq _ b=>b
 | .cond _ _ b=>b
 | .rangeFunc _ _ _ b=>b
 | c=>c
def Bu (f:Func):Code:=f.body.getD .skip
theorem Dx {g:Env} {s:Nat} {x:Value} (h:g.v s=x):g.upd (some s) x=g:=by
 subst h
 unfold Env.upd
 have e:(fun j=>cond (Nat.beq j s) (g.v s) (g.v j))=g.v:=by
  funext j
  cases hb:Nat.beq j s with
  | false=>rfl
  | true=>rw[Nat.eq_of_beq_eq_true hb];rfl
 show(⟨fun j=>cond (Nat.beq j s) (g.v s) (g.v j),g.ds⟩:Env)=g
 rw[e]
theorem LK {g:Env} {d:List Deferred} (h:g.ds=d):(⟨g.v,d⟩:Env)=g:=by subst h;rfl
def fQ (P:Program) (ty:TypeId) (f:Value) (args:Array Value) (h:H) (next:KV):Prop:=Us P f args (Ht P ty h next)
def LL (ds:List Deferred) (p:Prop):Prop:=
 match ds with
 | []=>p
 | _=>False
theorem Dy {ds:List Deferred} {p:Prop} (h:LL ds p):ds=[]/\p:=by
 unfold LL at h
 split at h
 ·exact⟨rfl,h⟩
 ·exact h.elim
theorem Dz {v:Value} {k:Bool->Prop} (h:au v k):∃x,v=.bool x/\k x:=by
 unfold au at h
 split at h
 ·exact⟨_,rfl,h⟩
 ·exact h.elim
theorem Hu {kd:IntKind} {v:Value} {k:Int->Prop} (h:aL kd v k):∃x,v=.int kd x/\k x:=by
 unfold aL at h
 split at h
 ·split at h
  ·rename_i e;subst e;exact⟨_,rfl,h⟩
  ·exact h.elim
 ·exact h.elim
theorem Hv {v:Value} {k:List UInt8->Prop} (h:gL v k):∃x,v=S x/\k x:=by
 unfold gL at h
 split at h
 ·exact⟨_,rfl,h⟩
 ·exact h.elim
theorem zQ {v:Value} {k:OA->Nat->Nat->Prop} (h:aB v k):∃b n c,v=.slice b n c/\k b n c:=by
 unfold aB at h
 split at h
 ·exact⟨_,_,_,rfl,h⟩
 ·exact h.elim
theorem Hw {v:Value} {k:OA->Prop} (h:kt v k):∃x,v=.pointer x/\k x:=by
 unfold kt at h
 split at h
 ·exact⟨_,rfl,h⟩
 ·exact h.elim
theorem Hy {v:Value} {k:Option Nat->Prop} (h:LM v k):∃x,v=.map x/\k x:=by
 unfold LM at h
 split at h
 ·exact⟨_,rfl,h⟩
 ·exact h.elim
theorem Bv {v:Value} {k:List Value->Prop} (h:kV v k):∃l,v=.agg ⟨l⟩/\k l:=by
 unfold kV at h
 split at h
 ·exact⟨_,rfl,h⟩
 ·exact h.elim
theorem pT {l:List Value} {k:Value->List Value->Prop} (h:aG l k):∃a t,l=a::t/\k a t:=by
 unfold aG at h
 split at h
 ·exact⟨_,_,rfl,h⟩
 ·exact h.elim
theorem xi {l:List Value} {p:Prop} (h:cW l p):l=[]/\p:=by
 unfold cW at h
 split at h
 ·exact⟨rfl,h⟩
 ·exact h.elim
section
variable {ro:Option Nat} {P:Program} {n:Nat} {Q Q':de} {g g':Env} {h:H} {c:Code}
theorem LN {x y:Code} (hc:c=.seq x y) (hx:fM ro P n x Q' g h) (hy:∀e g h,Q' e g h->qV (fM ro P n y Q) Q e g h):fM ro P n c Q g h:=by
 subst hc;exact Hs (hx.mono hy)
theorem FL {id:Nat} {x:Code} (hc:c=.block id x) (hx:fM ro P n x Q' g h) (hy:∀e g h,Q' e g h->xf id Q e g h):fM ro P n c Q g h:=by
 subst hc;exact zO (hx.mono hy)
theorem IZ {o:Operand} {x y:Code} {b:Bool} (hc:c=.cond o x y) (hb:lD n g o=.bool b) (hx:b=true->fM ro P n x Q g h) (hy:b=false->fM ro P n y Q g h):fM ro P n c Q g h:=by
 subst hc
 refine Du hb ?_
 cases b
 ·exact hy rfl
 ·exact hx rfl
theorem I0 {x:Code} (hc:c=.loop x) (R:Nat->Env->H->Prop) (h0:∀g h,¬R 0 g h) (hs:∀k g h,R (k+1) g h->fM ro P n x (qV (R k) Q) g h) (k:Nat) (hx:R k g h):fM ro P n c Q g h:=by
 subst hc;exact LO R h0 hs k hx
end
abbrev HL:=List (Nat × Value)
@[reducible] def mI (g:Env):HL->Prop
 | []=>g.ds=[]
 | (i,v)::l=>g.v i=v/\mI g l
def nv (g:Env):HL->Env
 | []=>g
 | (i,v)::l=>nv (g.upd (some i) v) l
theorem vS {g:Env} {l:HL} (hg:mI g l):nv ⟨g.v,[]⟩ l=g:=by
 have hd:g.ds=[]:=by
  induction l with
  | nil=>exact hg
  | cons p l ih=>exact ih hg.2
 rw[LK hd]
 induction l with
 | nil=>rfl
 | cons p l ih=>
  show nv (g.upd (some p.1) p.2) l=g
  rw[Dx hg.1]
  exact ih hg.2
def QX (N R:Env->H->Prop) (X:Nat->Env->H->Prop):de
 | .normal,g,h=>N g h
 | .ret,g,h=>R g h
 | .exit i,g,h=>X i g h
 | _,_,_=>False
def noX:Nat->Env->H->Prop:=fun _ _ _=>False
def exX (b:Nat) (N:Env->H->Prop) (X:Nat->Env->H->Prop):Nat->Env->H->Prop:=fun i g h=>cond (Nat.beq i b) (N g h) (X i g h)
section
variable {ro:Option Nat} {P:Program} {n:Nat} {Q Q':de} {g g':Env} {h:H} {c x y:Code} {N N' R:Env->H->Prop} {X:Nat->Env->H->Prop}
theorem Sg {A:Prop} {l:HL} (hm:P.follows .mixedOrders=true) (hd:gB P c=true) (hg:mI g l) (hS:A) (he:A=Dt ro P n c Q (nv ⟨g.v,[]⟩ l) h):fM ro P n c Q g h:=by
 subst he
 rw[vS hg] at hS
 exact Bo hm c Q _ h hd hS
theorem PE (hc:c=.seq x y) (hx:fM ro P n x (QX N' R X) g h) (hy:∀{g h},N' g h->fM ro P n y (QX N R X) g h):fM ro P n c (QX N R X) g h:=by
 refine LN hc hx fun e g h hq=>?_
 cases e with
 | normal=>exact hy hq
 | _=>exact hq
theorem Ut {b:Nat} (hc:c=.block b x) (hx:fM ro P n x (QX N R (exX b N X)) g h):fM ro P n c (QX N R X) g h:=by
 refine FL hc hx fun e g h hq=>?_
 cases e <;> exact hq
theorem ZE {i:Nat} {b:Bool} {A B:Prop} (hc:c=.cond (.tmp i) x y) (hi:Nat.blt i n=true) (hv:g.v i=.bool b) (hS:cond b A B) (hx:A->b=true->fM ro P n x Q g h) (hy:B->b=false->fM ro P n y Q g h):fM ro P n c Q g h:=by
 have e:lD n g (.tmp i)=.bool b:=by
  show cond (Nat.blt i n) (g.v i) undef=_
  rw[hi,hv];rfl
 refine IZ hc e (fun hb=>?_) (fun hb=>?_)
 ·subst hb;exact hx hS rfl
 ·subst hb;exact hy hS rfl
theorem ZF {I:Nat->Env->H->Prop} (hc:c=.loop x) (h0:∀{g h},I 0 g h->False) (hs:∀{k g h},I (k+1) g h->fM ro P n x (QX (I k) R X) g h) (k:Nat) (hx:I k g h):fM ro P n c (QX N R X) g h:=by
 refine I0 hc I (fun g h hi=>h0 hi) (fun k g h hi=>(hs hi).mono ?_) k hx
 intro e g h hq
 cases e <;> exact hq
end
section
variable {v:Value} {p:Prop}
end
section
variable {l:List Value}
end
section
variable {P:Program} {n:Nat} {g:Env} {h:H} {K:KV}
theorem afd {A:Prop} {l:HL} {rs:List ResultVar} (hg:mI g l) (hS:A) (he:A=yR P n rs K .normal (nv ⟨g.v,[]⟩ l) h):yR P n rs K .normal g h:=by
 subst he
 rw[vS hg] at hS
 exact hS
theorem LQ {f:FuncId} {fn:Func} {c:Code} {args:Array Value} {N:Env->H->Prop} (hf:P.funcs[f]? =some fn) (hb:fn.body=some c) (hn:Nat.ble args.size fn.ntmps=true)
  (hx:fM none P fn.ntmps c (QX N N noX) (PC args.toList) h) (hr:∀{g h},N g h->yR P fn.ntmps fn.results.toList K .normal g h):gQ P f args h K:=by
 refine Bt hf hb (Nat.le_of_ble_eq_true hn) (hx.mono ?_)
 intro e g h hq
 cases e with
 | normal=>exact hr hq
 | ret=>exact hr hq
 | _=>exact hq.elim
end
set_option linter.unusedSimpArgs false
variable {P:Program}
def lx (o:Obj):Bool:=
 match o with
 | .loop _=>true
 | .deferred _=>true
 | _=>false
def jV (Pv:Nat->Prop) (L:Nat) (h h1:H):Prop:=h.size<=h1.size/\∀(b:Nat) (o:Obj),h[b]? =some o->¬Pv b->(b=L->lx o=false)->h1[b]? =some o
def yo (Rd:Nat->Prop) (h h1:H):Prop:=h.size<=h1.size/\∀(b:Nat) (o:Obj),h[b]? =some o->Rd b->lx o=false->h1[b]? =some o
def tC (Rd:Nat->Prop) (h h1:H):Prop:=(∀(b:Nat) (o:Obj),h[b]? =some o->lx o=true->h1[b]? =some o)/\yo Rd h h1
def Si (Pv:Nat->Prop) (h h1:H):Prop:=h.size<=h1.size/\∀(b:Nat) (o:Obj),h[b]? =some o->(Pv b->lx o=true)->h1[b]? =some o
def dp (D:Nat) (h:H):Prop:=h[D]? =some (.deferred (some []))
theorem jV.refl (Pv:Nat->Prop) (L:Nat) (h:H):jV Pv L h h:=⟨Nat.le_refl _,fun _ _ e _ _=>e⟩
theorem jV.trans {Pv:Nat->Prop} {L:Nat} {a b c:H} (h:jV Pv L a b) (k:jV Pv L b c):jV Pv L a c:=⟨Nat.le_trans h.1 k.1,fun i o e hp hl=>k.2 i o (h.2 i o e hp hl) hp hl⟩
theorem Si.nz {Pv:Nat->Prop} {a b:H} (L:Nat) (h:Si Pv a b):jV Pv L a b:=⟨h.1,fun i o e hp hl=>h.2 i o e fun x=>absurd x hp⟩
theorem Si.loop {Pv:Nat->Prop} {a b:H} (h:Si Pv a b) {i:Nat} {o:Obj} (e:a[i]? =some o) (hl:lx o=true):b[i]? =some o:=h.2 i o e fun _=>hl
theorem jV.push (Pv:Nat->Prop) (L:Nat) (h:H) (o:Obj):jV Pv L h (h.push o):=
 ⟨by simp,fun b o' e _ _=>by
  have cR:b<h.size:=(Array.getElem?_eq_some_iff.1 e).1
  rw[Array.getElem?_push_lt cR,<-e,Array.getElem?_eq_getElem cR]⟩
theorem jV.set {Pv:Nat->Prop} {h:H} {L:Nat} {o:Obj} (o':Obj) (e:h[L]? =some o) (hl:lx o=true):jV Pv L h (h.setIfInBounds L o'):=
 ⟨by simp,fun b ob hb _ B8=>by
  by_cases EV:L=b
  ·subst EV
   have:=B8 rfl
   rw[e] at hb;cases hb;rw[hl] at this;cases this
  ·rw[Array.getElem?_setIfInBounds_ne EV];exact hb⟩
theorem yo.refl (Rd:Nat->Prop) (h:H):yo Rd h h:=⟨Nat.le_refl _,fun _ _ e _ _=>e⟩
theorem yo.trans {Rd:Nat->Prop} {a b c:H} (h:yo Rd a b) (k:yo Rd b c):yo Rd a c:=⟨Nat.le_trans h.1 k.1,fun i o e hr hl=>k.2 i o (h.2 i o e hr hl) hr hl⟩
theorem yo.set {Rd:Nat->Prop} {h:H} {L:Nat} {o:Obj} (o':Obj) (e:h[L]? =some o) (hl:lx o=true):yo Rd h (h.setIfInBounds L o'):=
 ⟨by simp,fun b ob hb _ B8=>by
  by_cases EV:L=b
  ·subst EV;rw[e] at hb;cases hb;rw[hl] at B8;cases B8
  ·rw[Array.getElem?_setIfInBounds_ne EV];exact hb⟩
abbrev Round:=List Value->(H->(H->Prop)->Prop)->(H->H->Prop)->(H->H->(H->Prop)->Prop)->H->Prop
def rounds (D:Nat) (Pv Rd:Nat->Prop) (rd:Round) (done:H->Prop):List (List Value)->H->Prop
 | [],h=>∀h1,jV Pv (D+1) h h1->dp D h1->done h1
 | x::xs,h=>∀h1,jV Pv (D+1) h h1->rd x (fun he p=>tC Rd h1 he/\∀h2,jV Pv (D+1) he h2->p h2) (fun hb h'=>tC Rd hb h'/\rounds D Pv Rd rd done xs h')
   (fun hb h' p=>tC Rd hb h'/\∀h4,jV Pv (D+1) h' h4->dp D h4->p h4) h1
theorem tV {D:Nat} {Pv Rd:Nat->Prop} {rd:Round} {done:H->Prop}:∀{xs:List (List Value)} {h h1:H},rounds D Pv Rd rd done xs h->jV Pv (D+1) h h1->rounds D Pv Rd rd done xs h1
 | [],_,_,hr,hn=>fun h2 h2n=>hr h2 (hn.trans h2n)
 | _::_,_,_,hr,hn=>fun h2 h2n=>hr h2 (hn.trans h2n)
def Hj (P:Program) (f:Value) (h:H) (xs:List (List Value)) (Pv Rd:Nat->Prop):Prop:=
 ∃k first captured,f=.func (.func k) first captured/\(∀args w,(callFunc k args).run P w=.ok (.enter k args) w)/\
  ∀(L:Nat) (J:List (List Value)->H->Prop) (Stop:H->Prop) (h2:H),jV (fun _=>False) L h h2->
   (∀r h' lM,J r h'->Si Pv h' lM->J r lM)->(∀h' lM,Stop h'->Si Pv h' lM->Stop lM)->
   (∀x rest h',J (x::rest) h'->tS P L ⟨x⟩ h' fun v lM=>(v=.bool true/\J rest lM/\yo Rd h' lM)∨(v=.bool false/\Stop lM/\yo Rd h' lM))->
   J xs h2->
   gQ P k ⟨first.toList++ [.func (.yield L) ⟨[]⟩ ⟨[]⟩]++captured.toList⟩ h2 fun _ h3=>J [] h3∨Stop h3
def FM (P:Program) (f:Value) (m:Nat) (h:H) (rd:Round) (done:H->Prop):Prop:=
 ∃xs Pv Rd,Hj P f h xs Pv Rd/\(∀x ∈ xs,x.length=m)/\rounds h.size Pv Rd rd done xs h
def cu (D:Nat):Deferred:={target:=.collected D,args:=#[]}
def zR (g:Env):List Nat->List Value->Env
 | p::ps,v::vs=>zR (g.upd (some p) v) ps vs
 | _,_=>⟨g.v,[]⟩
def LR (Kc:H->H->Prop) (Fin:H->H->(H->Prop)->Prop) (Q:de) (gD:Env) (hb:H):de
 | .normal,_,h'=>Kc hb h'
 | .exit id,_,h'=>Fin hb h' fun h4=>Q (.exit id) gD h4
 | .ret,_,h'=>Fin hb h' fun h4=>Q .ret gD h4
 | _,_,_=>False
theorem uH {n:Nat} {ds:List Deferred}:∀{ps:List Nat} {vs:List Value} {a:Act} {g:Env},ps.length=vs.length->dV n a g->
  dV n {tmps:=(ps.zip vs).foldl (fun tmps (t,v)=>tmps.setIfInBounds t v) a.tmps,defers:=[]} (zR g ps vs)
 | [],[],a,g,_,ha=>⟨rfl,ha.size,ha.tmp⟩
 | p::ps,v::vs,a,g,hl,ha=>by
  have h2:=ha.put (some p) v
  have:=uH (ds:=ds) (ps:=ps) (vs:=vs) (by simpa using hl) h2
  exact this
 | [],_::_,_,_,hl,_=>by simp at hl
 | _::_,[],_,_,hl,_=>by simp at hl
theorem pQ (w:World) (o:Obj) (b:Nat) (h:b<w.heap.size):(w.alloc o).heap[b]? =w.heap[b]? :=by
 show(w.heap.push o)[b]? =w.heap[b]?
 rw[Array.getElem?_push_lt h,Array.getElem?_eq_getElem h]
theorem I1 {n:Nat} {fo:Operand} {ps:Array Tmp} {assign body:Code} {Q:de} {g:Env} {h:H} {f:Value} {rd:Round} {done:H->Prop}
  (hf:lD n g fo=f) (hR:FM P f ps.toList.length h rd done)
  (Hz:∀h',done h'->Q .normal ⟨g.v,cu h.size::g.ds⟩ h')
  (Bl:∀L x Mid Kc Fin h1,(∀he (p q:H->Prop),(∀h,p h->q h)->Mid he p->Mid he q)->rd x Mid Kc Fin h1->
   fM (some L) P n assign (qV (fun g1 he=>Mid he fun hb=>fM (some L) P n body (LR Kc Fin Q ⟨g.v,cu h.size::g.ds⟩ hb) g1 hb) fun _ _ _=>False) (zR g ps.toList x) h1):
  fM none P n (.rangeFunc fo ps assign body) Q g h:=by
 intro w0 w a hw ho ha
 obtain⟨xs,Pv,Rd,⟨k,first,captured,hfv,Uu,hem⟩,hlen,hro⟩:=hR
 refine wpIn_rangeFunc fun fn _=>?_
 subst hw
 obtain⟨rec,Bx⟩:∃rec:LoopState->Option Code->Loop,rec=fun st pe=>{state:=st,pending:=pe,fn,tmps:=a.tmps,params:=ps,assign,body,defers:=w.heap.size}:=⟨_,rfl⟩
 obtain⟨W1,XK⟩:∃W1,(w.alloc (.deferred (some []))).alloc (.loop (rec .ready none))=W1:=⟨_,rfl⟩
 have hL1:W1.heap[w.heap.size+1]? =some (.loop (rec .ready none)):=by
  rw[<-XK];have:=World.alloc_heap_new (w.alloc (.deferred (some []))) (.loop (rec .ready none));rwa[World.size_alloc] at this
 have hD1:dp w.heap.size W1.heap:=by
  show W1.heap[w.heap.size]? =_
  rw[<-XK];exact(pQ _ _ _ (by simp)).trans (World.alloc_heap_new w _)
 have hO1:bu w W1:=by rw[<-XK];exact⟨rfl,rfl,rfl⟩
 have ZG:jV Pv (w.heap.size+1) w.heap W1.heap:=by rw[<-XK];exact(jV.push Pv _ _ _).trans (jV.push Pv _ _ _)
 have hev:a.eval fo=.func (.func k) first captured:=by rw[ha.eval,hf,hfv]
 refine⟨w.heap.size+1,[cu w.heap.size],W1,{target:=.fn (.func k) captured,args:=first++#[.func (.yield (w.heap.size+1)) #[] #[]]},W1,k,
  (first++#[.func (.yield (w.heap.size+1)) #[] #[]])++captured,W1,?_,?_,fun _ _=>trivial,?_,(fun hd=>by cases hd),?_⟩
 ·rw[<-XK,Bx];exact run_enterLoop_outer _ _ _ _ _
 ·show(resolve a.eval (rangeCall fo (w.heap.size+1)) 0).run P W1=_
  show(Deferred.ofValue (a.eval fo) ((#[Operand.const (.func (.yield (w.heap.size+1)) #[] #[])]:Array Operand).map a.eval)).run P W1=_
  rw[hev]
  simp[Deferred.ofValue,Act.eval]
 ·show(invoke (.fn (.func k) captured) _).run P W1=_
  exact Uu _ W1
 ·refine xj ?_
  have RE:(first++#[.func (.yield (w.heap.size+1)) #[] #[]])++captured=(⟨first.toList++ [.func (.yield (w.heap.size+1)) ⟨[]⟩ ⟨[]⟩]++captured.toList⟩:Array Value):=Array.ext' (by simp)
  rw[RE]
  let J:List (List Value)->H->Prop:=fun r h'=>(∀x ∈ r,x.length=ps.toList.length)/\h'[w.heap.size+1]? =some (.loop (rec .ready none))/\dp w.heap.size h'/\rounds w.heap.size Pv Rd rd done r h'
  let Stop:H->Prop:=fun h'=>∃c,h'[w.heap.size+1]? =some (.loop (rec .done (some c)))/\dp w.heap.size h'/\
   ((c=.ret/\∀h4,jV Pv (w.heap.size+1) h' h4->dp w.heap.size h4->Q .ret ⟨g.v,cu w.heap.size::g.ds⟩ h4)∨
    ∃id,c=.exit id/\∀h4,jV Pv (w.heap.size+1) h' h4->dp w.heap.size h4->Q (.exit id) ⟨g.v,cu w.heap.size::g.ds⟩ h4)
  have hJ:∀r h' lM,J r h'->Si Pv h' lM->J r lM:=fun r h' lM ⟨h0,h1,h2,h3⟩ hi=>⟨h0,hi.loop h1 rfl,hi.loop h2 rfl,tV h3 (hi.nz _)⟩
  have hS:∀h' lM,Stop h'->Si Pv h' lM->Stop lM:=fun h' lM ⟨c,h1,h2,h3⟩ hi=>⟨c,hi.loop h1 rfl,hi.loop h2 rfl,h3.imp
   (fun⟨e,k⟩=>⟨e,fun h4 hn=>k h4 ((hi.nz _).trans hn)⟩) (fun⟨id,e,k⟩=>⟨id,e,fun h4 hn=>k h4 ((hi.nz _).trans hn)⟩)⟩
  have FN:dV n {a with defers:=[cu w.heap.size]++a.defers} ⟨g.v,cu w.heap.size::g.ds⟩:=⟨by show [cu w.heap.size]++a.defers=_;rw[ha.ds];rfl,ha.size,ha.tmp⟩
  have hY:∀x rest h',J (x::rest) h'->tS P (w.heap.size+1) ⟨x⟩ h' fun v lM=>(v=.bool true/\J rest lM/\yo Rd h' lM)∨(v=.bool false/\Stop lM/\yo Rd h' lM):=by
   rintro x rest h' ⟨hlx,hl,hd,hr⟩ W hWh
   subst hWh
   have wO:x.length=ps.toList.length:=hlx x (by simp)
   have hy:=run_yield (P:=P) (args:=⟨x⟩) hl (by rw[Bx];simp[wO])
   rw[Bx] at hy
   refine⟨fn,_,assign,body,hy,roundIn_of_wpIn (F:=Fence.wide) trivial ?_⟩
   have hx:=hr W.heap (jV.refl _ _ _)
   have hwp:=Bl (w.heap.size+1) x _ _ _ W.heap (fun he p q hpq hm=>⟨hm.1,fun h2 hn=>hpq _ (hm.2 h2 hn)⟩) hx
   have LS:dV n {tmps:=(ps.zip ⟨x⟩).foldl (fun tmps (t,v)=>tmps.setIfInBounds t v) a.tmps,defers:=[]} (zR g ps.toList x):=by
    have:=uH (ds:=[]) (ps:=ps.toList) (vs:=x) (by rw[wO]) ha
    have e:(ps.zip ⟨x⟩).foldl (fun tmps (t,v)=>tmps.setIfInBounds t v) a.tmps=(ps.toList.zip x).foldl (fun tmps (t,v)=>tmps.setIfInBounds t v) a.tmps:=by
     rw[<-Array.foldl_toList];simp
    rw[e];exact this
   refine wpIn_mono (hwp W W _ rfl (bu.refl W) LS) fun e a1 w1 he=>?_
   cases e with
   | normal=>
    obtain⟨g1,ha1,⟨BZ,ZH⟩,ho1⟩:=he
    have RF:=BZ.1 _ _ hl rfl
    have hd1:=BZ.1 _ _ hd rfl
    refine⟨_,run_beginRound RF (by rw[Bx]),?_⟩
    have vJ:jV Pv (w.heap.size+1) w1.heap (w1.putObj (w.heap.size+1) (.loop {rec .ready none with state:=.busy})).heap:=jV.set _ RF rfl
    have hr2:yo Rd w1.heap (w1.putObj (w.heap.size+1) (.loop {rec .ready none with state:=.busy})).heap:=yo.set _ RF rfl
    have AO:=ZH _ vJ
    have cR:w.heap.size+1<w1.heap.size:=(Array.getElem?_eq_some_iff.1 RF).1
    have uo:(w1.putObj (w.heap.size+1) (.loop {rec .ready none with state:=.busy})).heap[w.heap.size+1]? =some (.loop {rec .ready none with state:=.busy}):=World.putObj_heap_same cR
    have XL:dp w.heap.size (w1.putObj (w.heap.size+1) (.loop {rec .ready none with state:=.busy})).heap:=(World.putObj_heap_other (by omega)).trans hd1
    have PF:bu W (w1.putObj (w.heap.size+1) (.loop {rec .ready none with state:=.busy})):=⟨ho1.tape,ho1.os,ho1.output⟩
    refine wpIn_mono (AO W _ a1 rfl PF ha1) fun e2 a3 W3 hp=>?_
    have fin:∀(jump:Option Code),tC Rd (w1.putObj (w.heap.size+1) (.loop {rec .ready none with state:=.busy})).heap W3.heap->
      (Instr.endRound (w.heap.size+1) jump).run P W3=.ok (.bool jump.isNone) (W3.putObj (w.heap.size+1) (.loop (rec (if jump.isNone then .ready else .done) jump)))/\
      (W3.putObj (w.heap.size+1) (.loop (rec (if jump.isNone then .ready else .done) jump))).heap[w.heap.size+1]? =some (.loop (rec (if jump.isNone then .ready else .done) jump))/\
      dp w.heap.size (W3.putObj (w.heap.size+1) (.loop (rec (if jump.isNone then .ready else .done) jump))).heap/\
      jV Pv (w.heap.size+1) W3.heap (W3.putObj (w.heap.size+1) (.loop (rec (if jump.isNone then .ready else .done) jump))).heap/\
      yo Rd W.heap (W3.putObj (w.heap.size+1) (.loop (rec (if jump.isNone then .ready else .done) jump))).heap:=fun jump PG=>by
     have O7:=PG.1 _ _ uo rfl
     have hd3:=PG.1 _ _ XL rfl
     have:=run_endRound (P:=P) jump O7
     rw[Bx] at this ⊢
     exact⟨this,World.putObj_heap_same (Array.getElem?_eq_some_iff.1 O7).1,(World.putObj_heap_other (by omega)).trans hd3,jV.set _ O7 rfl,
      ((yo.trans BZ.2 hr2).trans PG.2).trans (yo.set _ O7 rfl)⟩
    cases e2 with
    | normal=>
     obtain⟨g3,ha3,⟨PG,hrs⟩,JL⟩:=hp
     obtain⟨ku,ZI,ZJ,ZK,FI⟩:=fin none PG
     exact⟨_,_,ku,_,rfl,⟨JL.tape,JL.os,JL.output⟩,.inl ⟨rfl,⟨fun y hy=>hlx y (by simp[hy]),ZI,ZJ,tV hrs ZK⟩,FI⟩⟩
    | ret=>
     obtain⟨g3,ha3,⟨PG,hf3⟩,JL⟩:=hp
     obtain⟨ku,ZI,ZJ,ZK,FI⟩:=fin (some .ret) PG
     exact⟨_,_,ku,_,rfl,⟨JL.tape,JL.os,JL.output⟩,.inr ⟨rfl,⟨.ret,ZI,ZJ,.inl ⟨rfl,fun h4 hn hdo=>hf3 h4 (ZK.trans hn) hdo⟩⟩,FI⟩⟩
    | exit id=>
     obtain⟨g3,ha3,⟨PG,hf3⟩,JL⟩:=hp
     obtain⟨ku,ZI,ZJ,ZK,FI⟩:=fin (some (.exit id)) PG
     exact⟨_,_,ku,_,rfl,⟨JL.tape,JL.os,JL.output⟩,.inr ⟨rfl,⟨.exit id,ZI,ZJ,.inr ⟨id,rfl,fun h4 hn hdo=>hf3 h4 (ZK.trans hn) hdo⟩⟩,FI⟩⟩
    | goto t=>obtain⟨g3,ha3,hx3,JL⟩:=hp;exact hx3.elim
    | panic ch=>exact hp.elim
    | outgrown=>exact hp.elim
   | ret=>obtain⟨_,_,hx,_⟩:=he;exact hx.elim
   | exit id=>obtain⟨_,_,hx,_⟩:=he;exact hx.elim
   | goto t=>obtain⟨_,_,hx,_⟩:=he;exact hx.elim
   | panic ch=>exact he.elim
   | outgrown=>exact he.elim
  refine(hem (w.heap.size+1) J Stop W1.heap (by rw[<-XK];exact(jV.push _ _ _ _).trans (jV.push _ _ _ _)) hJ hS hY ⟨hlen,hL1,hD1,tV hro ZG⟩ W1 rfl).mono ?_
  rintro e W2 ⟨v,rfl,PF,hx⟩
  rcases hx with ⟨_,hl,hd,hr⟩ | ⟨c,hl,hd,hc⟩
  ·have he:=run_endLoop (P:=P) hl (by rw[Bx];simp)
   have hn:jV Pv (w.heap.size+1) W2.heap (W2.putObj (w.heap.size+1) (.loop {rec .ready none with state:=.exhausted})).heap:=jV.set _ hl rfl
   have XL:dp w.heap.size (W2.putObj (w.heap.size+1) (.loop {rec .ready none with state:=.exhausted})).heap:=(World.putObj_heap_other (by omega)).trans hd
   have e2:(rec .ready none).pending=none:=by rw[Bx]
   have he:=he.trans (congrArg (fun j=>Result.ok j (W2.putObj (w.heap.size+1) (.loop {rec .ready none with state:=.exhausted}))) e2)
   refine⟨none,_,he,_,FN,Hz _ (hr _ hn XL),?_⟩
   have:=ho.trans (hO1.trans PF)
   exact⟨this.tape,this.os,this.output⟩
  ·have he:=run_endLoop (P:=P) hl (by rw[Bx];simp)
   have hn:jV Pv (w.heap.size+1) W2.heap (W2.putObj (w.heap.size+1) (.loop {rec .done (some c) with state:=.exhausted})).heap:=jV.set _ hl rfl
   have XL:dp w.heap.size (W2.putObj (w.heap.size+1) (.loop {rec .done (some c) with state:=.exhausted})).heap:=(World.putObj_heap_other (by omega)).trans hd
   have XM:=ho.trans (hO1.trans PF)
   have e2:(rec .done (some c)).pending=some c:=by rw[Bx]
   have he:=he.trans (congrArg (fun j=>Result.ok j (W2.putObj (w.heap.size+1) (.loop {rec .done (some c) with state:=.exhausted}))) e2)
   refine⟨some c,_,he,?_⟩
   rcases hc with ⟨rfl,hc⟩ | ⟨id,rfl,hc⟩
   ·exact wpIn_ret ⟨_,FN,hc _ hn XL,⟨XM.tape,XM.os,XM.output⟩⟩
   ·exact wpIn_exit ⟨_,FN,hc _ hn XL,⟨XM.tape,XM.os,XM.output⟩⟩
set_option linter.unusedSimpArgs false
variable {P:Program}
theorem DA {b:Frame} {a:Act} {k:List Item} {cs:List Frame} {w:World} {c:Code}:
  step P (lone (b.atR a (.code (.scope c)::k)) cs w)=.next (lone (b.atR a (.code c::.inScope c::k)) cs w):=
 step_lone_go (by simp[stepG,stepG.exec,Frame.atR])
theorem qW {b:Frame} {a:Act} {k:List Item} {cs:List Frame} {w:World} {c:Code}:
  step P (lone (b.atR a (.inScope c::k)) cs w)=.next (lone (b.atR a k) cs w):=
 step_lone_go (by simp[stepG,stepG.exec,Frame.atR])
def FO (R:Nat->Env->H->Prop) (Q:de):de
 | .goto l,g,h=>R l g h
 | e,g,h=>Q e g h
theorem I2 {ro:Option Nat} {n:Nat} {c body:Code} {Q:de} {g:Env} {h:H} (hc:c=.scope body) (R:Nat->Nat->Env->H->Prop) (h0:∀l g h,¬R 0 l g h)
  (hs:∀N l g h,R (N+1) l g h->∃rest,findLabel body l=some rest/\fM ro P n rest (FO (R N) Q) g h) (N:Nat) (hx:fM ro P n body (FO (R N) Q) g h):
  fM ro P n c Q g h:=by
 subst hc
 intro w0 w a hw ho ha b k cs hro hb hr
 have key:∀(N:Nat) (x:Code) (g:Env) (h:H) (w:World) (a:Act),fM ro P n x (FO (R N) Q) g h->w.heap=h->bu w0 w->dV n a g->
   ∃e a' w',lift n w0 Q e a' w'/\ArrivesIn (Machine.fenced P (Fr ro)) P (lone (b.atR a (.code x::.inScope body::k)) cs w) b k cs e a' w':=by
  intro N
  induction N with
  | zero=>
   intro x g h w a hx hw ho ha
   obtain⟨e,a₁,w₁,hq,vm⟩:=hx w0 w a hw ho ha b (.inScope body::k) cs hro hb hr
   cases e with
   | normal=>exact⟨.normal,a₁,w₁,hq,StepsIn.trans vm (.one (fenced_calm hb hr rfl) qW)⟩
   | exit id=>exact⟨.exit id,a₁,w₁,hq,fun k' hk=>vm.1 k' (by simp[exitTo,hk]),fun XJ hk=>vm.2 XJ (by simp[exitTo,hk])⟩
   | goto l=>obtain⟨g',_,hg,_⟩:=hq;exact absurd hg (h0 l g' _)
   | ret=>exact⟨.ret,a₁,w₁,hq,vm⟩
   | panic ch=>exact hq.elim
   | outgrown=>exact hq.elim
  | succ N ih=>
   intro x g h w a hx hw ho ha
   obtain⟨e,a₁,w₁,hq,vm⟩:=hx w0 w a hw ho ha b (.inScope body::k) cs hro hb hr
   cases e with
   | normal=>exact⟨.normal,a₁,w₁,hq,StepsIn.trans vm (.one (fenced_calm hb hr rfl) qW)⟩
   | exit id=>exact⟨.exit id,a₁,w₁,hq,fun k' hk=>vm.1 k' (by simp[exitTo,hk]),fun XJ hk=>vm.2 XJ (by simp[exitTo,hk])⟩
   | goto l=>
    obtain⟨g',Ol,hg,B9⟩:=hq
    obtain⟨rest,hf,Pt⟩:=hs N l g' _ hg
    obtain⟨e',a₂,w₂,hq₂,ZL⟩:=ih rest g' _ w₁ a₁ Pt rfl B9 Ol
    exact⟨e',a₂,w₂,hq₂,.of_steps (vm.1 (.code rest::.inScope body::k) (by simp[gotoIn,hf])) ZL⟩
   | ret=>exact⟨.ret,a₁,w₁,hq,vm⟩
   | panic ch=>exact hq.elim
   | outgrown=>exact hq.elim
 obtain⟨e,a₁,w₁,hq,vm⟩:=key N body g h w a hx hw ho ha
 exact⟨e,a₁,w₁,hq,.of_steps (.one (fenced_calm hb hr rfl) DA) vm⟩
def bX:List Deferred->Option (List Nat)
 | []=>some []
 | d::ds=>
  match d.target,d.args.toList,bX ds with
  | .collected D,[],some l=>some (D::l)
  | _,_,_=>none
theorem Uv {ro:Option Nat} {n:Nat} {c x:Code} {g:Env} {h:H} {N R:Env->H->Prop} {X:Nat->Env->H->Prop} (hc:c=.scope x) (hx:fM ro P n x (QX N R X) g h):fM ro P n c (QX N R X) g h:=by
 refine I2 hc (fun _ _ _ _=>False) (fun _ _ _ h=>h) (fun _ _ _ _ h=>h.elim) 0 (hx.mono ?_)
 intro e g h hq
 cases e <;> exact hq
end Go.Sh
