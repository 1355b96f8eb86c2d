import Derived.Test.YtijoifkjeamonaaGreatShN
import Derived.RangeFuncRecord
import Derived.Below
namespace Go.Sh
open Go
set_option linter.unusedVariables false
set_option linter.unusedSimpArgs false
variable {P:Program}
def IS (o:Oper) (k:Nat):Oper:={o with after:=o.after.push {on:=k,ground:=.data}}
def nK (k j:Nat):List Oper->Nat->List Oper
 | [],_=>[]
 | o::l,i=>cond (Nat.beq i j) (IS o k::l) (o::nK k j l (i+1))
theorem Dn (k j:Nat):∀(l:List Oper) (i:Nat),(nK k j l i).length=l.length
 | [],_=>rfl
 | o::l,i=>by
  unfold nK
  cases Nat.beq i j with
  | true=>rfl
  | false=>simp[Dn k j l (i+1)]
theorem Dp (k j:Nat):∀(l:List Oper) (i m:Nat),(nK k j l i)[m]? =(l[m]?).map fun o=>if i+m=j then IS o k else o
 | [],_,m=>by simp[nK]
 | o::l,i,m=>by
  unfold nK
  cases hb:Nat.beq i j with
  | true=>
   have e:=Nat.eq_of_beq_eq_true hb
   cases m with
   | zero=>simp[cond,e]
   | succ m=>
    simp only[cond,List.getElem?_cons_succ]
    have:¬i+(m+1)=j:=by omega
    simp only[if_neg this]
    cases l[m]? <;> rfl
  | false=>
   have e:i≠j:=fun e=>by rw[e,Nat.beq_refl] at hb;cases hb
   cases m with
   | zero=>simp[cond,e]
   | succ m=>
    simp only[cond,List.getElem?_cons_succ]
    rw[Dp k j l (i+1) m]
    rw[show i+1+m=i+(m+1) by omega]
def pI (k j:Nat) (ops:Array Oper):Array Oper:=⟨nK k j ops.toList 0⟩
theorem sV {k j:Nat} {ops:Array Oper} (m:Nat):(pI k j ops)[m]? =(ops[m]?).map fun o=>if m=j then IS o k else o:=by
 have:=Dp k j ops.toList 0 m
 rw[Nat.zero_add] at this
 rw[<-Array.getElem?_toList,<-Array.getElem?_toList]
 exact this
theorem kj (k j:Nat) (ops:Array Oper):(pI k j ops).size=ops.size:=by
 have:=Dn k j ops.toList 0
 simpa [pI] using this
section
variable {ops:Array Oper} {Q:Exit->Act->World->Prop}
theorem Dq {k j:Nat} (tm:Array Value):yielded (pI k j ops) tm=yielded ops tm:=by
 funext m
 unfold yielded
 rw[sV]
 cases ops[m]? with
 | none=>rfl
 | some o=>
  have e:(if m=j then IS o k else o).dst=o.dst:=by split <;> rfl
  simp only[Option.map_some,Option.bind_some,e]
theorem gy {k j:Nat}:∀(l:List Nat) (a:Act) (w:World),wpOps P (pI k j ops) Q l a w->wpOps P ops Q l a w
 | [],a,w,h=>h
 | i::l,a,w,h=>by
  unfold wpOps at h ⊢
  rw[sV,Dq] at h
  cases ho:ops[i]? with
  | none=>rw[ho] at h;exact gy l a w h
  | some o=>
   rw[ho] at h
   simp only[Option.map_some] at h ⊢
   have hw:∀o':Oper,(o'=o∨o'=IS o k)->(if Region.wanted o' (yielded ops a.tmps)=true then o'.wp P a w (wpOps P (pI k j ops) Q l) Q∨(o'.asks P a w/\LetsOut Q) else wpOps P (pI k j ops) Q l (a.put o'.dst undef) w)->
     (if Region.wanted o (yielded ops a.tmps)=true then o.wp P a w (wpOps P ops Q l) Q∨(o.asks P a w/\LetsOut Q) else wpOps P ops Q l (a.put o.dst undef) w):=by
    intro o' Cb hh
    have e1:Region.wanted o' (yielded ops a.tmps)=Region.wanted o (yielded ops a.tmps):=by rcases Cb with rfl | rfl <;> rfl
    have e2:o'.dst=o.dst:=by rcases Cb with rfl | rfl <;> rfl
    have e3:∀K,o'.wp P a w K Q=o.wp P a w K Q:=fun K=>by rcases Cb with rfl | rfl <;> rfl
    have e4:o'.asks P a w=o.asks P a w:=by rcases Cb with rfl | rfl <;> rfl
    rw[e1,e2,e3,e4] at hh
    by_cases hc:Region.wanted o (yielded ops a.tmps)=true
    ·rw[if_pos hc] at hh ⊢
     exact hh.imp (fun x=>Oper.wp_mono (fun a w=>gy l a w) x) id
    ·rw[if_neg hc] at hh ⊢
     exact gy l _ _ hh
   by_cases e:i=j
   ·rw[if_pos e] at h;exact hw _ (.inr rfl) h
   ·rw[if_neg e] at h;exact hw _ (.inl rfl) h
def yN (ops:Array Oper):Nat->Array Bool->List Nat->Prop
 | 0,_,l=>l=[]
 | _+1,aK,[]=>Region.ready .any ops aK=[]
 | f+1,aK,i::l=>i ∈ Region.ready .any ops aK/\yN ops f (aK.setIfInBounds i true) l
theorem rM:∀(fuel t:Nat) (aK:Array Bool),yN ops fuel aK (Region.linearise.go .any ops fuel t aK []):=by
 intro fuel
 induction fuel with
 | zero=>intro t aK;rfl
 | succ fuel ih=>
  intro t aK
  simp only[Region.linearise.go]
  change yN ops (fuel+1) aK (match (Region.ready .any ops aK)[t % (Region.ready .any ops aK).length]? with
   | some i=>Region.linearise.go .any ops fuel (t / (Region.ready .any ops aK).length) (aK.setIfInBounds i true) [i]
   | none=>[].reverse)
  cases hi:(Region.ready .any ops aK)[t % (Region.ready .any ops aK).length]? with
  | none=>
   show Region.ready .any ops aK=[]
   cases hr:Region.ready .any ops aK with
   | nil=>rfl
   | cons x xs=>
    rw[hr] at hi
    have cP:t % (x::xs).length<(x::xs).length:=Nat.mod_lt _ (by simp)
    simp at hi
    simp at cP
    omega
  | some i=>
   simp only[]
   rw[linearise_go_acc,List.reverse_singleton,List.singleton_append]
   exact⟨List.mem_of_getElem? hi,ih _ _⟩
theorem zH:∀(fuel:Nat) (aK:Array Bool) (l:List Nat) (a:Act) (w:World),wpAny P .any ops Q fuel aK a w->yN ops fuel aK l->wpOps P ops Q l a w
 | 0,aK,l,a,w,h,hv=>by
  have hv:l=[]:=hv
  subst hv;exact h.2
 | fuel+1,aK,[],a,w,h,hv=>h.1 hv
 | fuel+1,aK,i::l,a,w,h,hv=>by
  rw[wpOps_cons]
  exact wpOp_mono (fun a w ha=>zH fuel _ l a w ha hv.2) (h.2 i hv.1)
theorem IT {k j i:Nat} {aK:Array Bool} (h:i ∈ Region.ready .any (pI k j ops) aK):i ∈ Region.ready .any ops aK:=by
 obtain⟨h0,o,ho,bq⟩:=mem_ready.1 h
 rw[sV] at ho
 cases hi:ops[i]? with
 | none=>rw[hi] at ho;cases ho
 | some o'=>
  rw[hi] at ho
  simp only[Option.map_some,Option.some.injEq] at ho
  refine mem_ready.2 ⟨h0,o',hi,fun e he hb=>bq e ?_ hb⟩
  subst ho
  split
  ·show e ∈ o'.after.push _
   exact Array.mem_push.2 (.inl he)
  ·exact he
theorem kK {k j:Nat} (JB:k≠j):∀(fuel:Nat) (aK:Array Bool) (l:List Nat),yN ops fuel aK l->(∀A B,l=A++j::B->k ∈ A∨aK.getD k false=true)->yN (pI k j ops) fuel aK l
 | 0,aK,l,hv,_=>hv
 | fuel+1,aK,[],hv,_=>by
  show Region.ready .any (pI k j ops) aK=[]
  have hv:Region.ready .any ops aK=[]:=hv
  cases hr:Region.ready .any (pI k j ops) aK with
  | nil=>rfl
  | cons x xs=>
   have:=IT (k:=k) (j:=j) (ops:=ops) (i:=x) (by rw[hr];simp)
   rw[hv] at this;cases this
 | fuel+1,aK,i::l,hv,ho=>by
  refine⟨?_,kK JB fuel _ l hv.2 fun A B e=>?_⟩
  ·obtain⟨h0,o,hio,bq⟩:=mem_ready.1 hv.1
   refine mem_ready.2 ⟨h0,if i=j then IS o k else o,by rw[sV,hio];rfl,fun e he hb=>?_⟩
   by_cases hij:i=j
   ·rw[if_pos hij] at he
    have he:e ∈ o.after.push {on:=k,ground:=.data}:=he
    rcases Array.mem_push.1 he with he | rfl
    ·exact bq e he hb
    ·rcases ho [] l (by rw[hij];rfl) with h | h
     ·cases h
     ·exact h
   ·rw[if_neg hij] at he
    exact bq e he hb
  ·have:=ho (i::A) B (by rw[e];rfl)
   rcases this with h | h
   ·rcases List.mem_cons.1 h with rfl | h
    ·right
     have cP:k<aK.size:=by
      obtain⟨h0,_⟩:=mem_ready.1 hv.1
      simp only[Array.getD_eq_getD_getElem?] at h0
      cases hl:aK[k]? with
      | none=>rw[hl] at h0;cases h0
      | some b=>exact(Array.getElem?_eq_some_iff.1 hl).1
     simp[Array.getD_eq_getD_getElem?,cP]
    ·exact .inl h
   ·exact .inr (getD_set_true h)
theorem sX {k j:Nat} (JB:k≠j):∀l:List Nat,l.Nodup->(∀A B,l=A++j::B->k ∈ A)∨(∀A B,l=A++k::B->j ∈ A)
 | [],_=>.inl fun A B e=>by simp at e
 | x::l,hn=>by
  have vQ:=List.nodup_cons.1 hn
  by_cases hk:x=k
  ·left
   intro A B e
   cases A with
   | nil=>simp at e;exact absurd (hk.symm.trans e.1) JB
   | cons y A=>simp at e;rw[<-e.1,hk];simp
  ·by_cases hj:x=j
   ·right
    intro A B e
    cases A with
    | nil=>simp at e;exact absurd e.1 hk
    | cons y A=>simp at e;rw[<-e.1,hj];simp
   ·refine(sX JB l vQ.2).imp (fun h A B e=>?_) fun h A B e=>?_
    ·cases A with
     | nil=>simp at e;exact absurd e.1 hj
     | cons y A=>simp at e;exact List.mem_cons_of_mem _ (h A B e.2)
    ·cases A with
     | nil=>simp at e;exact absurd e.1 hk
     | cons y A=>simp at e;exact List.mem_cons_of_mem _ (h A B e.2)
theorem nL:∀(fuel:Nat) (aK:Array Bool) (l:List Nat),yN ops fuel aK l->l.Nodup/\∀i ∈ l,aK.getD i true=false
 | 0,aK,l,hv=>by
  have hv:l=[]:=hv
  subst hv;exact⟨List.nodup_nil,fun i hi=>by cases hi⟩
 | fuel+1,aK,[],hv=>⟨List.nodup_nil,fun i hi=>by cases hi⟩
 | fuel+1,aK,i::l,hv=>by
  obtain⟨h1,h2⟩:=nL fuel _ l hv.2
  obtain⟨h0,_⟩:=mem_ready.1 hv.1
  refine⟨List.nodup_cons.2 ⟨fun hm=>?_,h1⟩,fun m hm=>?_⟩
  ·have:=h2 i hm
   have cP:i<aK.size:=by
    simp only[Array.getD_eq_getD_getElem?] at h0
    cases hl:aK[i]? with
    | none=>rw[hl] at h0;cases h0
    | some b=>exact(Array.getElem?_eq_some_iff.1 hl).1
   simp[Array.getD_eq_getD_getElem?,cP] at this
  ·rcases List.mem_cons.1 hm with rfl | hm
   ·exact h0
   ·have:=h2 m hm
    by_cases e:i=m
    ·subst e;exact h0
    ·simpa [Array.getD_eq_getD_getElem?,Array.getElem?_setIfInBounds_ne e] using this
end
def Hk (ops:List Oper) (ms:List Nat):List Nat:=ops.map (Lr ms)
def dd (ops:List Oper):List Nat:=Hk ops (Hk ops (lQ ops []))
def RU (P:Program) (ms:List Nat) (s i:Nat):List Oper->Nat->Option Nat
 | [],_=>none
 | o::l,j=>cond (iB P o&&!(RV ms s i j||RV ms s j i)) (some j) (RU P ms s i l (j+1))
def Dr (P:Program) (ms:List Nat) (s:Nat):List Oper->Nat->Option (Nat × Nat)
 | [],_=>none
 | o::l,i=>cond (iB P o) (match RU P ms s i l (i+1) with | some j=>some (i,j) | none=>Dr P ms s l (i+1)) (Dr P ms s l (i+1))
def pJ (P:Program) (n:Nat) (next:Env->H->Prop):Nat->List Oper->Env->H->Prop
 | 0,ops,g,h=>xj P n ops (dd ops) next g h
 | f+1,ops,g,h=>
  cond (iX P ops (dd ops)) (xj P n ops (dd ops) next g h)
   (match Dr P (dd ops) ops.length ops 0 with
    | some (i,j)=>pJ P n next f (nK i j ops 0) g h/\pJ P n next f (nK j i ops 0) g h
    | none=>False)
def lZ (P:Program):Nat->List Oper->Bool
 | 0,ops=>iX P ops (dd ops)
 | f+1,ops=>
  cond (iX P ops (dd ops)) true
   (match Dr P (dd ops) ops.length ops 0 with
    | some (i,j)=>!Nat.beq i j&&lZ P f (nK i j ops 0)&&lZ P f (nK j i ops 0)
    | none=>false)
theorem qj {n:Nat} {ops:Array Oper} {Q:de} {g:Env} {h:H} (hp:iX P ops.toList (dd ops.toList)=true) (hx:xj P n ops.toList (dd ops.toList) (Q .normal) g h) (w0 w:World) (a:Act)
  (hw:w.heap=h) (ho:bw w0 w) (ha:dV n a g) (l:List Nat) (hv:yN ops ops.size (Array.replicate ops.size false) l):wpOps P ops (lift n w0 Q) l a w:=by
 simp only[iX,Bool.and_eq_true] at hp
 obtain⟨h1,h2⟩:=Ds (fun i k hk=>by have:=Ls hk;simpa using this) hp.1
 exact zH _ _ _ _ _ (Hl (next:=Q .normal) h1 (fun _ _ h=>h) (by subst hw;exact hx) ha ho h2) hv
theorem kL {n:Nat} {Q:de} (w0 w:World) (a:Act) (g:Env) (ho:bw w0 w) (ha:dV n a g):
  ∀(f:Nat) (ops:Array Oper),lZ P f ops.toList=true->pJ P n (Q .normal) f ops.toList g w.heap->∀l,yN ops ops.size (Array.replicate ops.size false) l->wpOps P ops (lift n w0 Q) l a w
 | 0,ops,hb,hx,l,hv=>qj hb hx w0 w a rfl ho ha l hv
 | f+1,ops,hb,hx,l,hv=>by
  unfold lZ at hb
  unfold pJ at hx
  cases qB:iX P ops.toList (dd ops.toList) with
  | true=>
   rw[qB] at hx
   exact qj qB hx w0 w a rfl ho ha l hv
  | false=>
   rw[qB] at hx hb
   simp only[cond] at hx hb
   cases Y5:Dr P (dd ops.toList) ops.toList.length ops.toList 0 with
   | none=>rw[Y5] at hx;exact hx.elim
   | some ij=>
    obtain⟨i,j⟩:=ij
    rw[Y5] at hx hb
    simp only[Bool.and_eq_true,Bool.not_eq_true'] at hb
    have hij:i≠j:=fun e=>by have:=hb.1.1;rw[e,Nat.beq_refl] at this;cases this
    have jY:=(nL _ _ _ hv).1
    rcases sX hij l jY with h1 | h1
    ·have:=kL w0 w a g ho ha f (pI i j ops) hb.1.2 hx.1 l (by rw[kj];exact kK hij _ _ _ hv fun A B e=>.inl (h1 A B e))
     exact gy l a w this
    ·have:=kL w0 w a g ho ha f (pI j i ops) hb.2 hx.2 l (by rw[kj];exact kK (Ne.symm hij) _ _ _ hv fun A B e=>.inl (h1 A B e))
     exact gy l a w this
theorem IU {ro:Option Nat} {n id f:Nat} {ops:Array Oper} {Q:de} {g:Env} {h:H} (hm:P.follows .mixedOrders=true) (jY:fV ops.toList=true)
  (hp:lZ P f ops.toList=true) (hx:pJ P n (Q .normal) f ops.toList g h) (w0 w:World) (a:Act)
  (hw:w.heap=h) (ho:bw w0 w) (ha:dV n a g):(Code.region id ops true).wpIn (Fr ro) 0 P (lift n w0 Q) a w:=by
 refine wpIn_region_draw fun t=>?_
 refine cI kM (kN jY) _ _ _ ?_
 simp only[Region.schedule,hm,Bool.true_or,if_true]
 exact kL w0 {w with drawn:=w.drawn+1} a g ⟨ho.tape,ho.os,ho.output⟩ ha f ops hp (by subst hw;exact hx) _ (rM ops.size t _)
def rdF (n id:Nat):Bool:=Nat.beq n 27&&Nat.beq id 1||Nat.beq n 34&&Nat.beq id 5||Nat.beq n 40&&Nat.beq id 5||Nat.beq n 90&&Nat.beq id 14
def RY (P:Program) (ms:List Nat) (s i:Nat):List Oper->Nat->Option Nat
 | [],_=>none
 | o::l,j=>cond (yO P o&&!(RV ms s i j||RV ms s j i||Nat.beq i j)) (some j) (RY P ms s i l (j+1))
def Dt (P:Program) (ms:List Nat) (s:Nat) (all:List Oper):List Oper->Nat->Option (Nat × Nat)
 | [],_=>none
 | o::l,i=>cond (iB P o) (match RY P ms s i all 0 with | some j=>some (i,j) | none=>Dt P ms s all l (i+1)) (Dt P ms s all l (i+1))
def zJ (P:Program) (n:Nat) (next:Env->H->Prop):Nat->List Oper->Env->H->Prop
 | 0,ops,g,h=>xj P n ops (dd ops) next g h
 | f+1,ops,g,h=>
  match Dt P (dd ops) ops.length ops ops 0 with
  | some (i,j)=>zJ P n next f (nK i j ops 0) g h/\zJ P n next f (nK j i ops 0) g h
  | none=>xj P n ops (dd ops) next g h
def nM (P:Program):Nat->List Oper->Bool
 | 0,ops=>iX P ops (dd ops)
 | f+1,ops=>
  match Dt P (dd ops) ops.length ops ops 0 with
  | some (i,j)=>!Nat.beq i j&&nM P f (nK i j ops 0)&&nM P f (nK j i ops 0)
  | none=>iX P ops (dd ops)
theorem uf {n:Nat} {Q:de} (w0 w:World) (a:Act) (g:Env) (ho:bw w0 w) (ha:dV n a g):
  ∀(f:Nat) (ops:Array Oper),nM P f ops.toList=true->zJ P n (Q .normal) f ops.toList g w.heap->∀l,yN ops ops.size (Array.replicate ops.size false) l->wpOps P ops (lift n w0 Q) l a w
 | 0,ops,hb,hx,l,hv=>qj hb hx w0 w a rfl ho ha l hv
 | f+1,ops,hb,hx,l,hv=>by
  unfold nM at hb
  unfold zJ at hx
  cases Y5:Dt P (dd ops.toList) ops.toList.length ops.toList ops.toList 0 with
  | none=>rw[Y5] at hx hb;exact qj hb hx w0 w a rfl ho ha l hv
  | some ij=>
   obtain⟨i,j⟩:=ij
   rw[Y5] at hx hb
   simp only[Bool.and_eq_true,Bool.not_eq_true'] at hb
   have hij:i≠j:=fun e=>by have:=hb.1.1;rw[e,Nat.beq_refl] at this;cases this
   have jY:=(nL _ _ _ hv).1
   rcases sX hij l jY with h1 | h1
   ·have:=uf w0 w a g ho ha f (pI i j ops) hb.1.2 hx.1 l (by rw[kj];exact kK hij _ _ _ hv fun A B e=>.inl (h1 A B e))
    exact gy l a w this
   ·have:=uf w0 w a g ho ha f (pI j i ops) hb.2 hx.2 l (by rw[kj];exact kK (Ne.symm hij) _ _ _ hv fun A B e=>.inl (h1 A B e))
    exact gy l a w this
theorem Lt {ro:Option Nat} {n id f:Nat} {ops:Array Oper} {Q:de} {g:Env} {h:H} (hm:P.follows .mixedOrders=true) (jY:fV ops.toList=true)
  (hp:nM P f ops.toList=true) (hx:zJ P n (Q .normal) f ops.toList g h) (w0 w:World) (a:Act)
  (hw:w.heap=h) (ho:bw w0 w) (ha:dV n a g):(Code.region id ops true).wpIn (Fr ro) 0 P (lift n w0 Q) a w:=by
 refine wpIn_region_draw fun t=>?_
 refine cI kM (kN jY) _ _ _ ?_
 simp only[Region.schedule,hm,Bool.true_or,if_true]
 exact uf w0 {w with drawn:=w.drawn+1} a g ⟨ho.tape,ho.os,ho.output⟩ ha f ops hp (by subst hw;exact hx) _ (rM ops.size t _)
def Lu (n id:Nat):Option (Nat × Nat):=if Nat.beq n 25&&Nat.beq id 2 then some (7,4) else if Nat.beq n 57&&Nat.beq id 5 then some (13,3) else if Nat.beq n 143&&Nat.beq id 11 then some (21,3) else if Nat.beq n 143&&Nat.beq id 7 then some (17,3) else if Nat.beq n 35&&Nat.beq id 0 then some (15,3) else none
def Y6 (P:Program) (n:Nat) (next:Env->H->Prop) (ops:List Oper) (i j:Nat) (g:Env) (h:H):Prop:=
 pJ P n next 3 (nK i j ops 0) g h/\pJ P n next 3 (nK j i ops 0) g h
def Um (P:Program) (ops:List Oper) (i j:Nat):Bool:=!Nat.beq i j&&lZ P 3 (nK i j ops 0)&&lZ P 3 (nK j i ops 0)
theorem Pr {ro:Option Nat} {n id i j:Nat} {ops:Array Oper} {Q:de} {g:Env} {h:H} (hm:P.follows .mixedOrders=true) (jY:fV ops.toList=true)
  (hp:Um P ops.toList i j=true) (hx:Y6 P n (Q .normal) ops.toList i j g h) (w0 w:World) (a:Act)
  (hw:w.heap=h) (ho:bw w0 w) (ha:dV n a g):(Code.region id ops true).wpIn (Fr ro) 0 P (lift n w0 Q) a w:=by
 refine wpIn_region_draw fun t=>?_
 refine cI kM (kN jY) _ _ _ ?_
 simp only[Region.schedule,hm,Bool.true_or,if_true]
 unfold Um at hp
 simp only[Bool.and_eq_true,Bool.not_eq_true'] at hp
 have hij:i≠j:=fun e=>by have:=hp.1.1;rw[e,Nat.beq_refl] at this;cases this
 have hv:=rM (ops:=ops) ops.size t (Array.replicate ops.size false)
 have aey:=(nL _ _ _ hv).1
 rcases sX hij _ aey with h1 | h1
 ·have:=kL w0 {w with drawn:=w.drawn+1} a g ⟨ho.tape,ho.os,ho.output⟩ ha 3 (pI i j ops) hp.1.2 (by subst hw;exact hx.1) _ (by rw[kj];exact kK hij _ _ _ hv fun A B e=>.inl (h1 A B e))
  exact gy _ a _ this
 ·have:=kL w0 {w with drawn:=w.drawn+1} a g ⟨ho.tape,ho.os,ho.output⟩ ha 3 (pI j i ops) hp.2 (by subst hw;exact hx.2) _ (by rw[kj];exact kK (Ne.symm hij) _ _ _ hv fun A B e=>.inl (h1 A B e))
  exact gy _ a _ this
set_option linter.unusedSimpArgs false
variable {P:Program}
def Du (ro:Option Nat) (P:Program) (n:Nat):Code->de->Env->H->Prop
 | .skip,Q,g,h=>Q .normal g h
 | .region id ops draw,Q,g,h=>
  cond draw (match Lu n id with
   | some (i,j)=>cond (Um P ops.toList i j&&fV ops.toList) (Y6 P n (Q .normal) ops.toList i j g h) False
   | none=>cond (rdF n id&&(nM P 3 ops.toList&&fV ops.toList)) (zJ P n (Q .normal) 3 ops.toList g h) (cond (iX P ops.toList (lQ ops.toList [])) (xj P n ops.toList (lQ ops.toList []) (Q .normal) g h) (cond (lZ P 3 ops.toList&&fV ops.toList) (pJ P n (Q .normal) 3 ops.toList g h) (Un P n ops.toList (Q .normal) h ops.toList g)))) (IV P n ops.toList (Q .normal) ops.toList g h)
 | .seq a b,Q,g,h=>Du ro P n a (q9 (Du ro P n b Q) Q) g h
 | .cond c a b,Q,g,h=>au (lR n g c) fun t=>cond t (Du ro P n a Q g h) (Du ro P n b Q g h)
 | .block id c,Q,g,h=>Du ro P n c (xl id Q) g h
 | .exit id,Q,g,h=>Q (.exit id) g h
 | .label _,Q,g,h=>Q .normal g h
 | .goto l,Q,g,h=>Q (.goto l) g h
 | .ret,Q,g,h=>Q .ret g h
 | _,_,_,_=>False
def gK (P:Program):Code->Bool
 | .region _ ops draw=>!draw||(iX P ops.toList (lQ ops.toList [])||((lZ P 3 ops.toList&&fV ops.toList)||(Region.lexB .any ops&&fV ops.toList)))
 | .seq a b=>gK P a&&gK P b
 | .cond _ a b=>gK P a&&gK P b
 | .block _ c=>gK P c
 | _=>true
theorem xm {A B:Env->H->Prop} {Q:de} (hab:∀g h,A g h->B g h):∀e g h,q9 A Q e g h->q9 B Q e g h:=by
 intro e g h hx
 cases e <;> first | exact hab _ _ hx | exact hx
theorem Bk {ro:Option Nat} {n:Nat} (hm:P.follows .mixedOrders=true):∀(c:Code) (Q:de) (g:Env) (h:H),gK P c=true->Du ro P n c Q g h->fP ro P n c Q g h:=by
 intro c
 induction c with
 | skip=>intro Q g h _ hx;exact Lv hx
 | region id ops draw=>
  intro Q g h hd hx
  cases draw with
  | true=>
   simp only[gK,Bool.not_true,Bool.false_or,Bool.or_eq_true,Bool.and_eq_true] at hd
   simp only[Du,cond] at hx
   cases hpo:Lu n id with
   | some ij=>
    obtain⟨i,j⟩:=ij
    rw[hpo] at hx
    simp only[] at hx
    split at hx
    ·rename_i hc
     simp only[Bool.and_eq_true] at hc
     exact fun w0 w a hw ho ha=>Pr hm hc.2 hc.1 hx w0 w a hw ho ha
    ·exact hx.elim
   | none=>
   rw[hpo] at hx
   simp only[] at hx
   cases Bh:rdF n id&&(nM P 3 ops.toList&&fV ops.toList) with
   | true=>
    rw[Bh] at hx
    simp only[Bool.and_eq_true] at Bh
    exact fun w0 w a hw ho ha=>Lt hm Bh.2.2 Bh.2.1 hx w0 w a hw ho ha
   | false=>
   rw[Bh] at hx
   simp only[] at hx
   cases qB:iX P ops.toList (lQ ops.toList []) with
   | true=>
    rw[qB] at hx
    exact fun w0 w a hw ho ha=>IW hm qB hx w0 w a hw ho ha
   | false=>
    rw[qB] at hx hd
    have hd:=hd.resolve_left (by simp)
    simp only[] at hx
    cases hsp:lZ P 3 ops.toList&&fV ops.toList with
    | true=>
     rw[hsp] at hx
     simp only[Bool.and_eq_true] at hsp
     exact fun w0 w a hw ho ha=>IU hm hsp.2 hsp.1 hx w0 w a hw ho ha
    | false=>
     rw[hsp] at hx
     simp only[Bool.and_eq_false_iff] at hsp
     have hd:=hd.resolve_left (fun hh=>by rcases hsp with e | e <;> rw[e] at hh;(exact absurd hh.1 (by simp));(exact absurd hh.2 (by simp)))
     exact fun w0 w a hw ho ha=>Lw hm hd.1 hd.2 hx w0 w a hw ho ha
  | false=>
   intro w0 w a hw ho ha
   refine wpIn_region ?_
   have:=Bl (ro:=ro) (Q:=Q) (fun _ _ hh=>hh) w0 ops.toList 0 g h a w (fun j=>by simp) hx hw ho ha
   rwa[Array.length_toList,<-List.range_eq_range'] at this
 | seq a b iha ihb=>
  intro Q g h hd hx
  simp only[gK,Bool.and_eq_true] at hd
  exact Hm ((iha _ g h hd.1 hx).mono (xm fun g h=>ihb Q g h hd.2))
 | cond c a b iha ihb=>
  intro Q g h hd hx
  simp only[gK,Bool.and_eq_true] at hd
  unfold Du at hx
  unfold au at hx
  split at hx
  ·rename_i t ht
   refine Dv ht ?_
   cases t with
   | true=>exact iha _ _ _ hd.1 hx
   | false=>exact ihb _ _ _ hd.2 hx
  ·exact hx.elim
 | block id c ih=>intro Q g h hd hx;exact zK (ih _ _ _ hd hx)
 | exit id=>intro Q g h _ hx;exact Lx hx
 | label l=>intro Q g h _ hx;exact IX hx
 | goto l=>intro Q g h _ hx;exact Ly hx
 | ret=>intro Q g h _ hx;exact Ps hx
 | loop c _=>intro Q g h _ hx;exact hx.elim
 | rangeFunc f ps a b _ _=>intro Q g h _ hx;exact hx.elim
 | scope c _=>intro Q g h _ hx;exact hx.elim
 | refuse s=>intro Q g h _ hx;exact hx.elim
def yP (P:Program) (g:Env) (n:Nat) (h:H):List ResultVar->(List Value->Prop)->Prop
 | [],k=>k []
 | .tmp t::l,k=>cond (Nat.blt t n) (yP P g n h l fun vs=>k (g.v t::vs)) False
 | .cell a t::l,k=>cond (Nat.blt a n) (uP (g.v a) fun a=>Cc P t a h fun v=>yP P g n h l fun vs=>k (v::vs)) False
def LA:List Value->Value
 | [v]=>v
 | l=>.tuple ⟨l⟩
def dE:List Deferred->H->(H->Prop)->Prop
 | [],h,k=>k h
 | d::ds,h,k=>
  match d.target with
  | .collected r=>h[r]? =some (.deferred (some []))/\dE ds (h.setIfInBounds r (.deferred none)) k
  | _=>False
def yQ (P:Program) (n:Nat) (rs:List ResultVar) (K:KV):de
 | .normal,g,h=>dE g.ds h fun h=>yP P g n h rs fun vs=>K (LA vs) h
 | .ret,g,h=>dE g.ds h fun h=>yP P g n h rs fun vs=>K (LA vs) h
 | _,_,_=>False
def FK (tmps:Array Value) (r:ResultVar):Sem Value:=
 match r with
 | .tmp t=>pure (tmps.getD t undef)
 | .cell a t=>do loadVar t (<-Go.asAddr (tmps.getD a undef))
theorem Bm {g:Env} {n:Nat} {h:H} {a:Act} {w:World} (ha:dV n a g) (hw:w.heap=h):∀{rs:List ResultVar} {k:List Value->Prop},yP P g n h rs k->
  ∃vs,k vs/\(rs.mapM (FK a.tmps)).run P w=.ok vs w
 | [],k,hx=>⟨[],hx,rfl⟩
 | .tmp t::l,k,hx=>by
  unfold yP at hx
  cases hb:Nat.blt t n with
  | false=>rw[hb] at hx;exact hx.elim
  | true=>
   rw[hb] at hx
   obtain⟨vs,hk,hr⟩:=Bm ha hw (k:=fun vs=>k (g.v t::vs)) hx
   refine⟨g.v t::vs,hk,?_⟩
   rw[List.mapM_cons]
   have e:FK a.tmps (.tmp t)=pure (g.v t):=by unfold FK;simp only[ha.tmp t (qk hb)]
   simp only[e,Sem.run_bind,Sem.run_pure,Result.andThen_ok,hr]
 | .cell b t::l,k,hx=>by
  unfold yP at hx
  cases hb:Nat.blt b n with
  | false=>rw[hb] at hx;exact hx.elim
  | true=>
   rw[hb] at hx
   obtain⟨ad,he,hx⟩:=kO (k:=fun a=>Cc P t a h fun v=>yP P g n h l fun vs=>k (v::vs)) hx
   obtain⟨v,hx,hv⟩:=xn hx
   obtain⟨vs,hk,hr⟩:=Bm ha hw (k:=fun vs=>k (v::vs)) hx
   refine⟨v::vs,hk,?_⟩
   rw[List.mapM_cons]
   have e:a.tmps.getD b undef=.pointer (some ad):=(ha.tmp b (qk hb)).trans he
   have e2:(FK a.tmps (.cell b t)).run P w=.ok v w:=by
    unfold FK
    simp only[e,Go.asAddr,Sem.run_bind,Sem.run_pure,Result.andThen_ok,hv w hw]
   simp only[Sem.run_bind,Sem.run_pure,Result.andThen_ok,hr,e2]
theorem Dw {fn:Func} {g:Env} {n:Nat} {h:H} {a:Act} {w:World} (ha:dV n a g) (hw:w.heap=h) {k:List Value->Prop} (hx:yP P g n h fn.results.toList k):
  ∃vs,k vs/\(results fn a.tmps).run P w=.ok (LA vs) w:=by
 obtain⟨vs,hk,hr⟩:=Bm ha hw hx
 refine⟨vs,hk,?_⟩
 have hm:(fn.results.mapM (FK a.tmps)).run P w=.ok vs.toArray w:=by
  rw[<-Array.toArray_toList (xs:=fn.results),List.mapM_toArray]
  rw[Sem.run_map,hr]
  rfl
 have e:results fn a.tmps=(do let vs <-fn.results.mapM (FK a.tmps);pure (if h:vs.size=1 then vs[0] else .tuple vs)):=rfl
 rw[e,Sem.run_bind,hm,Result.andThen_ok,Sem.run_pure]
 refine congrArg (fun v=>Result.ok v w) ?_
 match vs with
 | []=>rfl
 | [v]=>rfl
 | v::u::l=>simp[LA]
def Pt (args:List Value):Env:=⟨fun i=>args.getD i undef,[]⟩
theorem Uo {n:Nat} {args:Array Value} (hn:args.size<=n):dV n {tmps:=args++Array.replicate (n - args.size) undef,defers:=[]} (Pt args.toList):=by
 refine⟨rfl,by simp;omega,fun i hi=>?_⟩
 show(args++Array.replicate (n - args.size) undef).getD i undef=args.toList.getD i undef
 simp only[Array.getD_eq_getD_getElem?,List.getD_eq_getElem?_getD,Array.getElem?_toList]
 by_cases h:i<args.size
 ·rw[Array.getElem?_append_left h]
 ·rw[Array.getElem?_append_right (by omega),Array.getElem?_eq_none (xs:=args) (by omega)]
  by_cases h2:i - args.size<n - args.size
  ·rw[Array.getElem?_replicate,if_pos h2];rfl
  ·rw[Array.getElem?_eq_none (by simp;omega)]
theorem Dx {fn:Func} {tmps:Array Value} {w0:World} {K:KV} (k:H->Prop) (hk:∀w,k w.heap->∃v,(results fn tmps).run P w=.ok v w/\K v w.heap):
  ∀(ds:List Deferred) (w:World),bw w0 w->dE ds w.heap k->
   LeavesInM Fence.wide 0 P fn tmps (fun e w'=>∃v,e=.returned v/\bw w0 w'/\K v w'.heap) ds .returning w
 | [],w,ho,hx=>by
  obtain⟨v,hr,hv⟩:=hk w hx
  exact⟨v,hr,v,rfl,ho,hv⟩
 | d::ds,w,ho,hx=>by
  unfold dE at hx
  split at hx
  ·rename_i r ht
   obtain⟨hr,hx⟩:=hx
   refine⟨by simp,.inl ⟨r,{w with heap:=w.heap.setIfInBounds r (.deferred none)},ht,?_,?_⟩⟩
   ·unfold Instr.takeDeferred
    have hg:(getObj r).run P w=.ok (.deferred (some [])) w:=by
     simp[getObj,Sem.run,hr]
    have hs:(setObj r (.deferred none)).run P w=.ok () {w with heap:=w.heap.setIfInBounds r (.deferred none)}:=by
     simp[setObj,Sem.run,hr]
    rw[Sem.run_bind,hg,Result.andThen_ok]
    simp only[Sem.run_bind,hs,Result.andThen_ok,Sem.run_pure]
   ·exact Dx k hk ds _ ⟨ho.tape,ho.os,ho.output⟩ hx
  ·exact hx.elim
theorem Bn {f:FuncId} {fn:Func} {c:Code} {args:Array Value} {h:H} {K:KV} (hf:P.funcs[f]? =some fn) (hb:fn.body=some c) (hn:args.size<=fn.ntmps)
  (hx:fP none P fn.ntmps c (yQ P fn.ntmps fn.results.toList K) (Pt args.toList) h):hG P f args h K:=by
 intro w hw
 refine(callsIn_wide (n:=0)).1 ?_
 refine callsIn_of_wp_marks (F:=Fence.wide) hf hb trivial ?_
 refine wpIn_mono (hx w w _ hw (bw.refl w) (Uo hn)) fun e a' w' he=>?_
 have fin:∀g,dV fn.ntmps a' g->bw w w'->(dE g.ds w'.heap fun h=>yP P g fn.ntmps h fn.results.toList fun vs=>K (LA vs) h)->
   LeavesInM Fence.wide 0 P fn a'.tmps (fun e w'=>∃v,e=.returned v/\bw w w'/\K v w'.heap) a'.defers .returning w':=by
  intro g ha ho hx
  rw[ha.ds]
  refine Dx _ (fun w2 hr=>?_) g.ds w' ho hx
  obtain⟨vs,hk,hr⟩:=Dw ha rfl hr
  exact⟨_,hr,hk⟩
 cases e with
 | normal=>obtain⟨g,ha,hr,ho⟩:=he;exact fin g ha ho hr
 | ret=>obtain⟨g,ha,hr,ho⟩:=he;exact fin g ha ho hr
 | exit id=>obtain⟨g,ha,hr,ho⟩:=he;exact hr.elim
 | goto l=>obtain⟨g,ha,hr,ho⟩:=he;exact hr.elim
 | panic ch=>exact he.elim
 | outgrown=>exact he.elim
def lu:Code->Code
 | .seq a _=>a
 | .cond _ a _=>a
 | .block _ c=>c
 | .loop c=>c
 | .scope c=>c
 | .rangeFunc _ _ a _=>a
 | c=>c
def sY:Code->Code
 | .seq _ b=>b
 | .cond _ _ b=>b
 | .rangeFunc _ _ _ b=>b
 | c=>c
def Bo (f:Func):Code:=f.body.getD .skip
theorem Dy {g:Env} {s:Nat} {x:Value} (h:g.v s=x):g.upd (some s) x=g:=by
 subst h
 unfold Env.upd
 have e:(fun j=>cond (Nat.beq j s) (g.v s) (g.v j))=g.v:=by
  funext j
  cases hb:Nat.beq j s with
  | false=>rfl
  | true=>rw[Nat.eq_of_beq_eq_true hb];rfl
 show(⟨fun j=>cond (Nat.beq j s) (g.v s) (g.v j),g.ds⟩:Env)=g
 rw[e]
theorem LB {g:Env} {d:List Deferred} (h:g.ds=d):(⟨g.v,d⟩:Env)=g:=by subst h;rfl
def fT (P:Program) (ty:TypeId) (f:Value) (args:Array Value) (h:H) (next:KV):Prop:=Up P f args (Hn P ty h next)
def LC (ds:List Deferred) (p:Prop):Prop:=
 match ds with
 | []=>p
 | _=>False
theorem Dz {ds:List Deferred} {p:Prop} (h:LC ds p):ds=[]/\p:=by
 unfold LC at h
 split at h
 ·exact⟨rfl,h⟩
 ·exact h.elim
theorem DA {v:Value} {k:Bool->Prop} (h:au v k):∃x,v=.bool x/\k x:=by
 unfold au at h
 split at h
 ·exact⟨_,rfl,h⟩
 ·exact h.elim
theorem Ho {kd:IntKind} {v:Value} {k:Int->Prop} (h:aL kd v k):∃x,v=.int kd x/\k x:=by
 unfold aL at h
 split at h
 ·split at h
  ·rename_i e;subst e;exact⟨_,rfl,h⟩
  ·exact h.elim
 ·exact h.elim
theorem Hp {v:Value} {k:List UInt8->Prop} (h:gU v k):∃x,v=S x/\k x:=by
 unfold gU at h
 split at h
 ·exact⟨_,rfl,h⟩
 ·exact h.elim
theorem zL {v:Value} {k:OA->Nat->Nat->Prop} (h:aA v k):∃b n c,v=.slice b n c/\k b n c:=by
 unfold aA at h
 split at h
 ·exact⟨_,_,_,rfl,h⟩
 ·exact h.elim
theorem Hq {v:Value} {k:OA->Prop} (h:lr v k):∃x,v=.pointer x/\k x:=by
 unfold lr at h
 split at h
 ·exact⟨_,rfl,h⟩
 ·exact h.elim
theorem Hr {v:Value} {k:Option Nat->Prop} (h:LD v k):∃x,v=.map x/\k x:=by
 unfold LD at h
 split at h
 ·exact⟨_,rfl,h⟩
 ·exact h.elim
theorem Bq {v:Value} {k:List Value->Prop} (h:lv v k):∃l,v=.agg ⟨l⟩/\k l:=by
 unfold lv at h
 split at h
 ·exact⟨_,rfl,h⟩
 ·exact h.elim
theorem ql {l:List Value} {k:Value->List Value->Prop} (h:aH l k):∃a t,l=a::t/\k a t:=by
 unfold aH at h
 split at h
 ·exact⟨_,_,rfl,h⟩
 ·exact h.elim
theorem xo {l:List Value} {p:Prop} (h:dc l p):l=[]/\p:=by
 unfold dc at h
 split at h
 ·exact⟨rfl,h⟩
 ·exact h.elim
section
variable {ro:Option Nat} {P:Program} {n:Nat} {Q Q':de} {g g':Env} {h:H} {c:Code}
theorem LF {x y:Code} (hc:c=.seq x y) (hx:fP ro P n x Q' g h) (hy:∀e g h,Q' e g h->q9 (fP ro P n y Q) Q e g h):fP ro P n c Q g h:=by
 subst hc;exact Hm (hx.mono hy)
theorem FL {id:Nat} {x:Code} (hc:c=.block id x) (hx:fP ro P n x Q' g h) (hy:∀e g h,Q' e g h->xl id Q e g h):fP ro P n c Q g h:=by
 subst hc;exact zK (hx.mono hy)
theorem IY {o:Operand} {x y:Code} {b:Bool} (hc:c=.cond o x y) (hb:lR n g o=.bool b) (hx:b=true->fP ro P n x Q g h) (hy:b=false->fP ro P n y Q g h):fP ro P n c Q g h:=by
 subst hc
 refine Dv hb ?_
 cases b
 ·exact hy rfl
 ·exact hx rfl
theorem IZ {x:Code} (hc:c=.loop x) (R:Nat->Env->H->Prop) (h0:∀g h,¬R 0 g h) (hs:∀k g h,R (k+1) g h->fP ro P n x (q9 (R k) Q) g h) (k:Nat) (hx:R k g h):fP ro P n c Q g h:=by
 subst hc;exact LG R h0 hs k hx
end
abbrev HL:=List (Nat × Value)
@[reducible] def mQ (g:Env):HL->Prop
 | []=>g.ds=[]
 | (i,v)::l=>g.v i=v/\mQ g l
def nN (g:Env):HL->Env
 | []=>g
 | (i,v)::l=>nN (g.upd (some i) v) l
theorem vY {g:Env} {l:HL} (hg:mQ g l):nN ⟨g.v,[]⟩ l=g:=by
 have hd:g.ds=[]:=by
  induction l with
  | nil=>exact hg
  | cons p l ih=>exact ih hg.2
 rw[LB hd]
 induction l with
 | nil=>rfl
 | cons p l ih=>
  show nN (g.upd (some p.1) p.2) l=g
  rw[Dy hg.1]
  exact ih hg.2
def QX (N R:Env->H->Prop) (X:Nat->Env->H->Prop):de
 | .normal,g,h=>N g h
 | .ret,g,h=>R g h
 | .exit i,g,h=>X i g h
 | _,_,_=>False
def noX:Nat->Env->H->Prop:=fun _ _ _=>False
def exX (b:Nat) (N:Env->H->Prop) (X:Nat->Env->H->Prop):Nat->Env->H->Prop:=fun i g h=>cond (Nat.beq i b) (N g h) (X i g h)
section
variable {ro:Option Nat} {P:Program} {n:Nat} {Q Q':de} {g g':Env} {h:H} {c x y:Code} {N N' R:Env->H->Prop} {X:Nat->Env->H->Prop}
theorem RZ {A:Prop} {l:HL} (hm:P.follows .mixedOrders=true) (hd:gK P c=true) (hg:mQ g l) (hS:A) (he:A=Du ro P n c Q (nN ⟨g.v,[]⟩ l) h):fP ro P n c Q g h:=by
 subst he
 rw[vY hg] at hS
 exact Bk hm c Q _ h hd hS
theorem Pu (hc:c=.seq x y) (hx:fP ro P n x (QX N' R X) g h) (hy:∀{g h},N' g h->fP ro P n y (QX N R X) g h):fP ro P n c (QX N R X) g h:=by
 refine LF hc hx fun e g h hq=>?_
 cases e with
 | normal=>exact hy hq
 | _=>exact hq
theorem Uq {b:Nat} (hc:c=.block b x) (hx:fP ro P n x (QX N R (exX b N X)) g h):fP ro P n c (QX N R X) g h:=by
 refine FL hc hx fun e g h hq=>?_
 cases e <;> exact hq
theorem Y7 {i:Nat} {b:Bool} {A B:Prop} (hc:c=.cond (.tmp i) x y) (hi:Nat.blt i n=true) (hv:g.v i=.bool b) (hS:cond b A B) (hx:A->b=true->fP ro P n x Q g h) (hy:B->b=false->fP ro P n y Q g h):fP ro P n c Q g h:=by
 have e:lR n g (.tmp i)=.bool b:=by
  show cond (Nat.blt i n) (g.v i) undef=_
  rw[hi,hv];rfl
 refine IY hc e (fun hb=>?_) (fun hb=>?_)
 ·subst hb;exact hx hS rfl
 ·subst hb;exact hy hS rfl
theorem Y8 {I:Nat->Env->H->Prop} (hc:c=.loop x) (h0:∀{g h},I 0 g h->False) (hs:∀{k g h},I (k+1) g h->fP ro P n x (QX (I k) R X) g h) (k:Nat) (hx:I k g h):fP ro P n c (QX N R X) g h:=by
 refine IZ hc I (fun g h hi=>h0 hi) (fun k g h hi=>(hs hi).mono ?_) k hx
 intro e g h hq
 cases e <;> exact hq
end
section
variable {v:Value} {p:Prop}
end
section
variable {l:List Value}
end
section
variable {P:Program} {n:Nat} {g:Env} {h:H} {K:KV}
theorem aeC {A:Prop} {l:HL} {rs:List ResultVar} (hg:mQ g l) (hS:A) (he:A=yQ P n rs K .normal (nN ⟨g.v,[]⟩ l) h):yQ P n rs K .normal g h:=by
 subst he
 rw[vY hg] at hS
 exact hS
theorem LH {f:FuncId} {fn:Func} {c:Code} {args:Array Value} {N:Env->H->Prop} (hf:P.funcs[f]? =some fn) (hb:fn.body=some c) (hn:Nat.ble args.size fn.ntmps=true)
  (hx:fP none P fn.ntmps c (QX N N noX) (Pt args.toList) h) (hr:∀{g h},N g h->yQ P fn.ntmps fn.results.toList K .normal g h):hG P f args h K:=by
 refine Bn hf hb (Nat.le_of_ble_eq_true hn) (hx.mono ?_)
 intro e g h hq
 cases e with
 | normal=>exact hr hq
 | ret=>exact hr hq
 | _=>exact hq.elim
end
set_option linter.unusedSimpArgs false
variable {P:Program}
def lO (o:Obj):Bool:=
 match o with
 | .loop _=>true
 | .deferred _=>true
 | _=>false
def ke (Pv:Nat->Prop) (L:Nat) (h h1:H):Prop:=h.size<=h1.size/\∀(b:Nat) (o:Obj),h[b]? =some o->¬Pv b->(b=L->lO o=false)->h1[b]? =some o
def yq (Rd:Nat->Prop) (h h1:H):Prop:=h.size<=h1.size/\∀(b:Nat) (o:Obj),h[b]? =some o->Rd b->lO o=false->h1[b]? =some o
def tJ (Rd:Nat->Prop) (h h1:H):Prop:=(∀(b:Nat) (o:Obj),h[b]? =some o->lO o=true->h1[b]? =some o)/\yq Rd h h1
def R1 (Pv:Nat->Prop) (h h1:H):Prop:=h.size<=h1.size/\∀(b:Nat) (o:Obj),h[b]? =some o->(Pv b->lO o=true)->h1[b]? =some o
def dp (D:Nat) (h:H):Prop:=h[D]? =some (.deferred (some []))
theorem ke.refl (Pv:Nat->Prop) (L:Nat) (h:H):ke Pv L h h:=⟨Nat.le_refl _,fun _ _ e _ _=>e⟩
theorem ke.trans {Pv:Nat->Prop} {L:Nat} {a b c:H} (h:ke Pv L a b) (k:ke Pv L b c):ke Pv L a c:=⟨Nat.le_trans h.1 k.1,fun i o e hp hl=>k.2 i o (h.2 i o e hp hl) hp hl⟩
theorem R1.nz {Pv:Nat->Prop} {a b:H} (L:Nat) (h:R1 Pv a b):ke Pv L a b:=⟨h.1,fun i o e hp hl=>h.2 i o e fun x=>absurd x hp⟩
theorem R1.loop {Pv:Nat->Prop} {a b:H} (h:R1 Pv a b) {i:Nat} {o:Obj} (e:a[i]? =some o) (hl:lO o=true):b[i]? =some o:=h.2 i o e fun _=>hl
theorem ke.push (Pv:Nat->Prop) (L:Nat) (h:H) (o:Obj):ke Pv L h (h.push o):=
 ⟨by simp,fun b o' e _ _=>by
  have cP:b<h.size:=(Array.getElem?_eq_some_iff.1 e).1
  rw[Array.getElem?_push_lt cP,<-e,Array.getElem?_eq_getElem cP]⟩
theorem ke.set {Pv:Nat->Prop} {h:H} {L:Nat} {o:Obj} (o':Obj) (e:h[L]? =some o) (hl:lO o=true):ke Pv L h (h.setIfInBounds L o'):=
 ⟨by simp,fun b ob hb _ Ca=>by
  by_cases Fa:L=b
  ·subst Fa
   have:=Ca rfl
   rw[e] at hb;cases hb;rw[hl] at this;cases this
  ·rw[Array.getElem?_setIfInBounds_ne Fa];exact hb⟩
theorem yq.refl (Rd:Nat->Prop) (h:H):yq Rd h h:=⟨Nat.le_refl _,fun _ _ e _ _=>e⟩
theorem yq.trans {Rd:Nat->Prop} {a b c:H} (h:yq Rd a b) (k:yq Rd b c):yq Rd a c:=⟨Nat.le_trans h.1 k.1,fun i o e hr hl=>k.2 i o (h.2 i o e hr hl) hr hl⟩
theorem yq.set {Rd:Nat->Prop} {h:H} {L:Nat} {o:Obj} (o':Obj) (e:h[L]? =some o) (hl:lO o=true):yq Rd h (h.setIfInBounds L o'):=
 ⟨by simp,fun b ob hb _ Ca=>by
  by_cases Fa:L=b
  ·subst Fa;rw[e] at hb;cases hb;rw[hl] at Ca;cases Ca
  ·rw[Array.getElem?_setIfInBounds_ne Fa];exact hb⟩
abbrev Round:=List Value->(H->(H->Prop)->Prop)->(H->H->Prop)->(H->H->(H->Prop)->Prop)->H->Prop
def rounds (D:Nat) (Pv Rd:Nat->Prop) (rd:Round) (done:H->Prop):List (List Value)->H->Prop
 | [],h=>∀h1,ke Pv (D+1) h h1->dp D h1->done h1
 | x::xs,h=>∀h1,ke Pv (D+1) h h1->rd x (fun he p=>tJ Rd h1 he/\∀h2,ke Pv (D+1) he h2->p h2) (fun hb h'=>tJ Rd hb h'/\rounds D Pv Rd rd done xs h')
   (fun hb h' p=>tJ Rd hb h'/\∀h4,ke Pv (D+1) h' h4->dp D h4->p h4) h1
theorem ug {D:Nat} {Pv Rd:Nat->Prop} {rd:Round} {done:H->Prop}:∀{xs:List (List Value)} {h h1:H},rounds D Pv Rd rd done xs h->ke Pv (D+1) h h1->rounds D Pv Rd rd done xs h1
 | [],_,_,hr,hn=>fun h2 h2n=>hr h2 (hn.trans h2n)
 | _::_,_,_,hr,hn=>fun h2 h2n=>hr h2 (hn.trans h2n)
def Hd (P:Program) (f:Value) (h:H) (xs:List (List Value)) (Pv Rd:Nat->Prop):Prop:=
 ∃k first captured,f=.func (.func k) first captured/\(∀args w,(callFunc k args).run P w=.ok (.enter k args) w)/\
  ∀(L:Nat) (J:List (List Value)->H->Prop) (Stop:H->Prop) (h2:H),ke (fun _=>False) L h h2->
   (∀r h' l6,J r h'->R1 Pv h' l6->J r l6)->(∀h' l6,Stop h'->R1 Pv h' l6->Stop l6)->
   (∀x rest h',J (x::rest) h'->ub P L ⟨x⟩ h' fun v l6=>(v=.bool true/\J rest l6/\yq Rd h' l6)∨(v=.bool false/\Stop l6/\yq Rd h' l6))->
   J xs h2->
   hG P k ⟨first.toList++ [.func (.yield L) ⟨[]⟩ ⟨[]⟩]++captured.toList⟩ h2 fun _ h3=>J [] h3∨Stop h3
def FM (P:Program) (f:Value) (m:Nat) (h:H) (rd:Round) (done:H->Prop):Prop:=
 ∃xs Pv Rd,Hd P f h xs Pv Rd/\(∀x ∈ xs,x.length=m)/\rounds h.size Pv Rd rd done xs h
def cr (D:Nat):Deferred:={target:=.collected D,args:=#[]}
def zM (g:Env):List Nat->List Value->Env
 | p::ps,v::vs=>zM (g.upd (some p) v) ps vs
 | _,_=>⟨g.v,[]⟩
def LI (Kc:H->H->Prop) (Fin:H->H->(H->Prop)->Prop) (Q:de) (gD:Env) (hb:H):de
 | .normal,_,h'=>Kc hb h'
 | .exit id,_,h'=>Fin hb h' fun h4=>Q (.exit id) gD h4
 | .ret,_,h'=>Fin hb h' fun h4=>Q .ret gD h4
 | _,_,_=>False
theorem uQ {n:Nat} {ds:List Deferred}:∀{ps:List Nat} {vs:List Value} {a:Act} {g:Env},ps.length=vs.length->dV n a g->
  dV n {tmps:=(ps.zip vs).foldl (fun tmps (t,v)=>tmps.setIfInBounds t v) a.tmps,defers:=[]} (zM g ps vs)
 | [],[],a,g,_,ha=>⟨rfl,ha.size,ha.tmp⟩
 | p::ps,v::vs,a,g,hl,ha=>by
  have h2:=ha.put (some p) v
  have:=uQ (ds:=ds) (ps:=ps) (vs:=vs) (by simpa using hl) h2
  exact this
 | [],_::_,_,_,hl,_=>by simp at hl
 | _::_,[],_,_,hl,_=>by simp at hl
theorem qi (w:World) (o:Obj) (b:Nat) (h:b<w.heap.size):(w.alloc o).heap[b]? =w.heap[b]? :=by
 show(w.heap.push o)[b]? =w.heap[b]?
 rw[Array.getElem?_push_lt h,Array.getElem?_eq_getElem h]
theorem I0 {n:Nat} {fo:Operand} {ps:Array Tmp} {assign body:Code} {Q:de} {g:Env} {h:H} {f:Value} {rd:Round} {done:H->Prop}
  (hf:lR n g fo=f) (hR:FM P f ps.toList.length h rd done)
  (Hs:∀h',done h'->Q .normal ⟨g.v,cr h.size::g.ds⟩ h')
  (Bh:∀L x Mid Kc Fin h1,(∀he (p q:H->Prop),(∀h,p h->q h)->Mid he p->Mid he q)->rd x Mid Kc Fin h1->
   fP (some L) P n assign (q9 (fun g1 he=>Mid he fun hb=>fP (some L) P n body (LI Kc Fin Q ⟨g.v,cr h.size::g.ds⟩ hb) g1 hb) fun _ _ _=>False) (zM g ps.toList x) h1):
  fP none P n (.rangeFunc fo ps assign body) Q g h:=by
 intro w0 w a hw ho ha
 obtain⟨xs,Pv,Rd,⟨k,first,captured,hfv,Ur,hem⟩,hlen,hro⟩:=hR
 refine wpIn_rangeFunc fun fn _=>?_
 subst hw
 obtain⟨rec,Br⟩:∃rec:LoopState->Option Code->Loop,rec=fun st pe=>{state:=st,pending:=pe,fn,tmps:=a.tmps,params:=ps,assign,body,defers:=w.heap.size}:=⟨_,rfl⟩
 obtain⟨W1,Xk⟩:∃W1,(w.alloc (.deferred (some []))).alloc (.loop (rec .ready none))=W1:=⟨_,rfl⟩
 have hL1:W1.heap[w.heap.size+1]? =some (.loop (rec .ready none)):=by
  rw[<-Xk];have:=World.alloc_heap_new (w.alloc (.deferred (some []))) (.loop (rec .ready none));rwa[World.size_alloc] at this
 have hD1:dp w.heap.size W1.heap:=by
  show W1.heap[w.heap.size]? =_
  rw[<-Xk];exact(qi _ _ _ (by simp)).trans (World.alloc_heap_new w _)
 have hO1:bw w W1:=by rw[<-Xk];exact⟨rfl,rfl,rfl⟩
 have Y9:ke Pv (w.heap.size+1) w.heap W1.heap:=by rw[<-Xk];exact(ke.push Pv _ _ _).trans (ke.push Pv _ _ _)
 have hev:a.eval fo=.func (.func k) first captured:=by rw[ha.eval,hf,hfv]
 refine⟨w.heap.size+1,[cr w.heap.size],W1,{target:=.fn (.func k) captured,args:=first++#[.func (.yield (w.heap.size+1)) #[] #[]]},W1,k,
  (first++#[.func (.yield (w.heap.size+1)) #[] #[]])++captured,W1,?_,?_,fun _ _=>trivial,?_,(fun hd=>by cases hd),?_⟩
 ·rw[<-Xk,Br];exact run_enterLoop_outer _ _ _ _ _
 ·show(resolve a.eval (rangeCall fo (w.heap.size+1)) 0).run P W1=_
  show(Deferred.ofValue (a.eval fo) ((#[Operand.const (.func (.yield (w.heap.size+1)) #[] #[])]:Array Operand).map a.eval)).run P W1=_
  rw[hev]
  simp[Deferred.ofValue,Act.eval]
 ·show(invoke (.fn (.func k) captured) _).run P W1=_
  exact Ur _ W1
 ·refine xp ?_
  have Rl:(first++#[.func (.yield (w.heap.size+1)) #[] #[]])++captured=(⟨first.toList++ [.func (.yield (w.heap.size+1)) ⟨[]⟩ ⟨[]⟩]++captured.toList⟩:Array Value):=Array.ext' (by simp)
  rw[Rl]
  let J:List (List Value)->H->Prop:=fun r h'=>(∀x ∈ r,x.length=ps.toList.length)/\h'[w.heap.size+1]? =some (.loop (rec .ready none))/\dp w.heap.size h'/\rounds w.heap.size Pv Rd rd done r h'
  let Stop:H->Prop:=fun h'=>∃c,h'[w.heap.size+1]? =some (.loop (rec .done (some c)))/\dp w.heap.size h'/\
   ((c=.ret/\∀h4,ke Pv (w.heap.size+1) h' h4->dp w.heap.size h4->Q .ret ⟨g.v,cr w.heap.size::g.ds⟩ h4)∨
    ∃id,c=.exit id/\∀h4,ke Pv (w.heap.size+1) h' h4->dp w.heap.size h4->Q (.exit id) ⟨g.v,cr w.heap.size::g.ds⟩ h4)
  have hJ:∀r h' l6,J r h'->R1 Pv h' l6->J r l6:=fun r h' l6 ⟨h0,h1,h2,h3⟩ hi=>⟨h0,hi.loop h1 rfl,hi.loop h2 rfl,ug h3 (hi.nz _)⟩
  have hS:∀h' l6,Stop h'->R1 Pv h' l6->Stop l6:=fun h' l6 ⟨c,h1,h2,h3⟩ hi=>⟨c,hi.loop h1 rfl,hi.loop h2 rfl,h3.imp
   (fun⟨e,k⟩=>⟨e,fun h4 hn=>k h4 ((hi.nz _).trans hn)⟩) (fun⟨id,e,k⟩=>⟨id,e,fun h4 hn=>k h4 ((hi.nz _).trans hn)⟩)⟩
  have FN:dV n {a with defers:=[cr w.heap.size]++a.defers} ⟨g.v,cr w.heap.size::g.ds⟩:=⟨by show [cr w.heap.size]++a.defers=_;rw[ha.ds];rfl,ha.size,ha.tmp⟩
  have hY:∀x rest h',J (x::rest) h'->ub P (w.heap.size+1) ⟨x⟩ h' fun v l6=>(v=.bool true/\J rest l6/\yq Rd h' l6)∨(v=.bool false/\Stop l6/\yq Rd h' l6):=by
   rintro x rest h' ⟨hlx,hl,hd,hr⟩ W hWh
   subst hWh
   have wV:x.length=ps.toList.length:=hlx x (by simp)
   have hy:=run_yield (P:=P) (args:=⟨x⟩) hl (by rw[Br];simp[wV])
   rw[Br] at hy
   refine⟨fn,_,assign,body,hy,roundIn_of_wpIn (F:=Fence.wide) trivial ?_⟩
   have hx:=hr W.heap (ke.refl _ _ _)
   have hwp:=Bh (w.heap.size+1) x _ _ _ W.heap (fun he p q hpq hm=>⟨hm.1,fun h2 hn=>hpq _ (hm.2 h2 hn)⟩) hx
   have LJ:dV n {tmps:=(ps.zip ⟨x⟩).foldl (fun tmps (t,v)=>tmps.setIfInBounds t v) a.tmps,defers:=[]} (zM g ps.toList x):=by
    have:=uQ (ds:=[]) (ps:=ps.toList) (vs:=x) (by rw[wV]) ha
    have e:(ps.zip ⟨x⟩).foldl (fun tmps (t,v)=>tmps.setIfInBounds t v) a.tmps=(ps.toList.zip x).foldl (fun tmps (t,v)=>tmps.setIfInBounds t v) a.tmps:=by
     rw[<-Array.foldl_toList];simp
    rw[e];exact this
   refine wpIn_mono (hwp W W _ rfl (bw.refl W) LJ) fun e a1 w1 he=>?_
   cases e with
   | normal=>
    obtain⟨g1,ha1,⟨BZ,Zc⟩,ho1⟩:=he
    have Ro:=BZ.1 _ _ hl rfl
    have hd1:=BZ.1 _ _ hd rfl
    refine⟨_,run_beginRound Ro (by rw[Br]),?_⟩
    have vQ:ke Pv (w.heap.size+1) w1.heap (w1.putObj (w.heap.size+1) (.loop {rec .ready none with state:=.busy})).heap:=ke.set _ Ro rfl
    have hr2:yq Rd w1.heap (w1.putObj (w.heap.size+1) (.loop {rec .ready none with state:=.busy})).heap:=yq.set _ Ro rfl
    have AN:=Zc _ vQ
    have cP:w.heap.size+1<w1.heap.size:=(Array.getElem?_eq_some_iff.1 Ro).1
    have yl:(w1.putObj (w.heap.size+1) (.loop {rec .ready none with state:=.busy})).heap[w.heap.size+1]? =some (.loop {rec .ready none with state:=.busy}):=World.putObj_heap_same cP
    have Xl:dp w.heap.size (w1.putObj (w.heap.size+1) (.loop {rec .ready none with state:=.busy})).heap:=(World.putObj_heap_other (by omega)).trans hd1
    have Pw:bw W (w1.putObj (w.heap.size+1) (.loop {rec .ready none with state:=.busy})):=⟨ho1.tape,ho1.os,ho1.output⟩
    refine wpIn_mono (AN W _ a1 rfl Pw ha1) fun e2 a3 W3 hp=>?_
    have fin:∀(jump:Option Code),tJ Rd (w1.putObj (w.heap.size+1) (.loop {rec .ready none with state:=.busy})).heap W3.heap->
      (Instr.endRound (w.heap.size+1) jump).run P W3=.ok (.bool jump.isNone) (W3.putObj (w.heap.size+1) (.loop (rec (if jump.isNone then .ready else .done) jump)))/\
      (W3.putObj (w.heap.size+1) (.loop (rec (if jump.isNone then .ready else .done) jump))).heap[w.heap.size+1]? =some (.loop (rec (if jump.isNone then .ready else .done) jump))/\
      dp w.heap.size (W3.putObj (w.heap.size+1) (.loop (rec (if jump.isNone then .ready else .done) jump))).heap/\
      ke Pv (w.heap.size+1) W3.heap (W3.putObj (w.heap.size+1) (.loop (rec (if jump.isNone then .ready else .done) jump))).heap/\
      yq Rd W.heap (W3.putObj (w.heap.size+1) (.loop (rec (if jump.isNone then .ready else .done) jump))).heap:=fun jump Px=>by
     have O0:=Px.1 _ _ yl rfl
     have hd3:=Px.1 _ _ Xl rfl
     have:=run_endRound (P:=P) jump O0
     rw[Br] at this ⊢
     exact⟨this,World.putObj_heap_same (Array.getElem?_eq_some_iff.1 O0).1,(World.putObj_heap_other (by omega)).trans hd3,ke.set _ O0 rfl,
      ((yq.trans BZ.2 hr2).trans Px.2).trans (yq.set _ O0 rfl)⟩
    cases e2 with
    | normal=>
     obtain⟨g3,ha3,⟨Px,hrs⟩,JC⟩:=hp
     obtain⟨kJ,Zd,Ze,Zf,FJ⟩:=fin none Px
     exact⟨_,_,kJ,_,rfl,⟨JC.tape,JC.os,JC.output⟩,.inl ⟨rfl,⟨fun y hy=>hlx y (by simp[hy]),Zd,Ze,ug hrs Zf⟩,FJ⟩⟩
    | ret=>
     obtain⟨g3,ha3,⟨Px,hf3⟩,JC⟩:=hp
     obtain⟨kJ,Zd,Ze,Zf,FJ⟩:=fin (some .ret) Px
     exact⟨_,_,kJ,_,rfl,⟨JC.tape,JC.os,JC.output⟩,.inr ⟨rfl,⟨.ret,Zd,Ze,.inl ⟨rfl,fun h4 hn hdo=>hf3 h4 (Zf.trans hn) hdo⟩⟩,FJ⟩⟩
    | exit id=>
     obtain⟨g3,ha3,⟨Px,hf3⟩,JC⟩:=hp
     obtain⟨kJ,Zd,Ze,Zf,FJ⟩:=fin (some (.exit id)) Px
     exact⟨_,_,kJ,_,rfl,⟨JC.tape,JC.os,JC.output⟩,.inr ⟨rfl,⟨.exit id,Zd,Ze,.inr ⟨id,rfl,fun h4 hn hdo=>hf3 h4 (Zf.trans hn) hdo⟩⟩,FJ⟩⟩
    | goto t=>obtain⟨g3,ha3,hx3,JC⟩:=hp;exact hx3.elim
    | panic ch=>exact hp.elim
    | outgrown=>exact hp.elim
   | ret=>obtain⟨_,_,hx,_⟩:=he;exact hx.elim
   | exit id=>obtain⟨_,_,hx,_⟩:=he;exact hx.elim
   | goto t=>obtain⟨_,_,hx,_⟩:=he;exact hx.elim
   | panic ch=>exact he.elim
   | outgrown=>exact he.elim
  refine(hem (w.heap.size+1) J Stop W1.heap (by rw[<-Xk];exact(ke.push _ _ _ _).trans (ke.push _ _ _ _)) hJ hS hY ⟨hlen,hL1,hD1,ug hro Y9⟩ W1 rfl).mono ?_
  rintro e W2 ⟨v,rfl,Pw,hx⟩
  rcases hx with ⟨_,hl,hd,hr⟩ | ⟨c,hl,hd,hc⟩
  ·have he:=run_endLoop (P:=P) hl (by rw[Br];simp)
   have hn:ke Pv (w.heap.size+1) W2.heap (W2.putObj (w.heap.size+1) (.loop {rec .ready none with state:=.exhausted})).heap:=ke.set _ hl rfl
   have Xl:dp w.heap.size (W2.putObj (w.heap.size+1) (.loop {rec .ready none with state:=.exhausted})).heap:=(World.putObj_heap_other (by omega)).trans hd
   have e2:(rec .ready none).pending=none:=by rw[Br]
   have he:=he.trans (congrArg (fun j=>Result.ok j (W2.putObj (w.heap.size+1) (.loop {rec .ready none with state:=.exhausted}))) e2)
   refine⟨none,_,he,_,FN,Hs _ (hr _ hn Xl),?_⟩
   have:=ho.trans (hO1.trans Pw)
   exact⟨this.tape,this.os,this.output⟩
  ·have he:=run_endLoop (P:=P) hl (by rw[Br];simp)
   have hn:ke Pv (w.heap.size+1) W2.heap (W2.putObj (w.heap.size+1) (.loop {rec .done (some c) with state:=.exhausted})).heap:=ke.set _ hl rfl
   have Xl:dp w.heap.size (W2.putObj (w.heap.size+1) (.loop {rec .done (some c) with state:=.exhausted})).heap:=(World.putObj_heap_other (by omega)).trans hd
   have Xm:=ho.trans (hO1.trans Pw)
   have e2:(rec .done (some c)).pending=some c:=by rw[Br]
   have he:=he.trans (congrArg (fun j=>Result.ok j (W2.putObj (w.heap.size+1) (.loop {rec .done (some c) with state:=.exhausted}))) e2)
   refine⟨some c,_,he,?_⟩
   rcases hc with ⟨rfl,hc⟩ | ⟨id,rfl,hc⟩
   ·exact wpIn_ret ⟨_,FN,hc _ hn Xl,⟨Xm.tape,Xm.os,Xm.output⟩⟩
   ·exact wpIn_exit ⟨_,FN,hc _ hn Xl,⟨Xm.tape,Xm.os,Xm.output⟩⟩
set_option linter.unusedSimpArgs false
variable {P:Program}
theorem DB {b:Frame} {a:Act} {k:List Item} {cs:List Frame} {w:World} {c:Code}:
  step P (lone (b.atR a (.code (.scope c)::k)) cs w)=.next (lone (b.atR a (.code c::.inScope c::k)) cs w):=
 step_lone_go (by simp[stepG,stepG.exec,Frame.atR])
theorem re {b:Frame} {a:Act} {k:List Item} {cs:List Frame} {w:World} {c:Code}:
  step P (lone (b.atR a (.inScope c::k)) cs w)=.next (lone (b.atR a k) cs w):=
 step_lone_go (by simp[stepG,stepG.exec,Frame.atR])
def FO (R:Nat->Env->H->Prop) (Q:de):de
 | .goto l,g,h=>R l g h
 | e,g,h=>Q e g h
theorem I1 {ro:Option Nat} {n:Nat} {c body:Code} {Q:de} {g:Env} {h:H} (hc:c=.scope body) (R:Nat->Nat->Env->H->Prop) (h0:∀l g h,¬R 0 l g h)
  (hs:∀N l g h,R (N+1) l g h->∃rest,findLabel body l=some rest/\fP ro P n rest (FO (R N) Q) g h) (N:Nat) (hx:fP ro P n body (FO (R N) Q) g h):
  fP ro P n c Q g h:=by
 subst hc
 intro w0 w a hw ho ha b k cs hro hb hr
 have key:∀(N:Nat) (x:Code) (g:Env) (h:H) (w:World) (a:Act),fP ro P n x (FO (R N) Q) g h->w.heap=h->bw w0 w->dV n a g->
   ∃e a' w',lift n w0 Q e a' w'/\ArrivesIn (Machine.fenced P (Fr ro)) P (lone (b.atR a (.code x::.inScope body::k)) cs w) b k cs e a' w':=by
  intro N
  induction N with
  | zero=>
   intro x g h w a hx hw ho ha
   obtain⟨e,a₁,w₁,hq,vu⟩:=hx w0 w a hw ho ha b (.inScope body::k) cs hro hb hr
   cases e with
   | normal=>exact⟨.normal,a₁,w₁,hq,StepsIn.trans vu (.one (fenced_calm hb hr rfl) re)⟩
   | exit id=>exact⟨.exit id,a₁,w₁,hq,fun k' hk=>vu.1 k' (by simp[exitTo,hk]),fun Xj hk=>vu.2 Xj (by simp[exitTo,hk])⟩
   | goto l=>obtain⟨g',_,hg,_⟩:=hq;exact absurd hg (h0 l g' _)
   | ret=>exact⟨.ret,a₁,w₁,hq,vu⟩
   | panic ch=>exact hq.elim
   | outgrown=>exact hq.elim
  | succ N ih=>
   intro x g h w a hx hw ho ha
   obtain⟨e,a₁,w₁,hq,vu⟩:=hx w0 w a hw ho ha b (.inScope body::k) cs hro hb hr
   cases e with
   | normal=>exact⟨.normal,a₁,w₁,hq,StepsIn.trans vu (.one (fenced_calm hb hr rfl) re)⟩
   | exit id=>exact⟨.exit id,a₁,w₁,hq,fun k' hk=>vu.1 k' (by simp[exitTo,hk]),fun Xj hk=>vu.2 Xj (by simp[exitTo,hk])⟩
   | goto l=>
    obtain⟨g',Ob,hg,Cb⟩:=hq
    obtain⟨rest,hf,Pm⟩:=hs N l g' _ hg
    obtain⟨e',a₂,w₂,hq₂,Zg⟩:=ih rest g' _ w₁ a₁ Pm rfl Cb Ob
    exact⟨e',a₂,w₂,hq₂,.of_steps (vu.1 (.code rest::.inScope body::k) (by simp[gotoIn,hf])) Zg⟩
   | ret=>exact⟨.ret,a₁,w₁,hq,vu⟩
   | panic ch=>exact hq.elim
   | outgrown=>exact hq.elim
 obtain⟨e,a₁,w₁,hq,vu⟩:=key N body g h w a hx hw ho ha
 exact⟨e,a₁,w₁,hq,.of_steps (.one (fenced_calm hb hr rfl) DB) vu⟩
def bW:List Deferred->Option (List Nat)
 | []=>some []
 | d::ds=>
  match d.target,d.args.toList,bW ds with
  | .collected D,[],some l=>some (D::l)
  | _,_,_=>none
theorem Us {ro:Option Nat} {n:Nat} {c x:Code} {g:Env} {h:H} {N R:Env->H->Prop} {X:Nat->Env->H->Prop} (hc:c=.scope x) (hx:fP ro P n x (QX N R X) g h):fP ro P n c (QX N R X) g h:=by
 refine I1 hc (fun _ _ _ _=>False) (fun _ _ _ h=>h) (fun _ _ _ _ h=>h.elim) 0 (hx.mono ?_)
 intro e g h hq
 cases e <;> exact hq
end Go.Sh
