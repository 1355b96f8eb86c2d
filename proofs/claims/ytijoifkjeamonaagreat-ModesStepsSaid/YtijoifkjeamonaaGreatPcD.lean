import Derived.Test.YtijoifkjeamonaaGreatHc
import Derived.Test.YtijoifkjeamonaaGreatDoE
import Derived.Test.YtijoifkjeamonaaGreatTxA
import Derived.Test.YtijoifkjeamonaaGreatHmI
import Derived.Test.YtijoifkjeamonaaGreatOpA
import Derived.Test.YtijoifkjeamonaaGreatShelf
import Derived.Laws.IdiomStrings
import Derived.Laws.Cover4
namespace Go.Proofs
open Go Go.Sh
set_option linter.unusedVariables false
set_option maxRecDepth 100000
abbrev bo:El aP:=ik (jz .i64) (ik (jz .u8) (ik cN (jz .u8)))
abbrev aW (x:aP):List Value:=[.int .i64 x.1,.int .u8 x.2.1,S x.2.2.1,.int .u8 x.2.2.2]
abbrev q9 (A:Nat->Prop) (h:H) (m:aP):Prop:=bo.R A h m (aW m)
def gG (m:aP):Prop:=bd .i64 m.1/\bd .u8 m.2.1/\m.2.2.1.length<=maxLen/\bd .u8 m.2.2.2
theorem gG.r {A:Nat->Prop} {h:H} {m:aP} (w:gG m):q9 A h m:=⟨[.int .i64 m.1],_,rfl,⟨rfl,w.1⟩,[.int .u8 m.2.1],_,rfl,⟨rfl,w.2.1⟩,[S m.2.2.1],_,rfl,⟨rfl,w.2.2.1⟩,rfl,w.2.2.2⟩
theorem cT {A:Nat->Prop} {h:H} {a:Addr} {m:aP} {K:Int->Int->Bs->Int->Prop} (hA:At bo A h a m) (hk:gG m->K m.1 m.2.1 m.2.2.1 m.2.2.2):
  ∃i,cell h (a.add 0)=some (.int .i64 i)/\∃j,cell h (a.add 1)=some (.int .u8 j)/\∃s,cell h (a.add 2)=some (S s)/\∃k,cell h (a.add 3)=some (.int .u8 k)/\K i j s k:=
 have h1:=hA.fst.int
 have h2:=hA.snd.fst.int
 have h3:=(hA.snd.dt (k:=2) rfl).fst.str
 have h4:=((hA.snd.dt (k:=2) rfl).dt (k:=3) rfl).int
 ⟨_,h1.1,_,h2.1,_,h3.1,_,h4.1,hk ⟨h1.2,h2.2,h3.2,h4.2⟩⟩
theorem Vt {A:Nat->Prop} {h:H} {a:Addr} {m:aP} (hA:At bo A h a m):gG m:=
 ⟨hA.fst.int.2,hA.snd.fst.int.2,(hA.snd.dt (k:=2) rfl).fst.str.2,((hA.snd.dt (k:=2) rfl).dt (k:=3) rfl).int.2⟩
theorem gY {h:H} {a:Addr} {t:Nat} {m:aP} {K:Int->Int->Bs->Int->Prop} (v:Var h a t (aW m)) (hk:K m.1 m.2.1 m.2.2.1 m.2.2.2):
  ∃i,cell h (a.add 0)=some (.int .i64 i)/\∃j,cell h (a.add 1)=some (.int .u8 j)/\∃s,cell h (a.add 2)=some (S s)/\∃k,cell h (a.add 3)=some (.int .u8 k)/\K i j s k:=
 ⟨_,v.cell 0 rfl,_,v.cell 1 rfl,_,v.cell 2 rfl,_,v.cell 3 rfl,hk⟩
theorem HU {A:Nat->Prop} {h:H}:∀{l:List Bs},(∀s ∈ l,s.length<=maxLen)->eH cN A h l (l.map S)
 | [],_=>rfl
 | s::l,hs=>⟨[S s],l.map S,rfl,⟨rfl,hs s (by simp)⟩,HU fun x hx=>hs x (by simp[hx])⟩
def tI (l:List Bs):Bool:=l.all fun s=>Nat.ble s.length maxLen
theorem iM {h:H} {a:Addr} {t:Nat} {ws:List Bs} (v:Var h a t (ws.map S)) (hs:tI ws=true) (hl:Nat.ble ws.length maxLen=true):Row cN (fun _=>True) h (some a) ws.length ws.length ws:=
 Row.of (HU fun s h=>Nat.le_of_ble_eq_true (List.all_eq_true.1 hs s h)) (fun j x hx=>⟨a,rfl,v.cell j hx⟩) rfl (Nat.le_refl _) (Nat.le_of_ble_eq_true hl) fun x e=>trivial
theorem yY (l:Bs) (c:UInt8):0<=Lib.indexByte l c↔c ∈ l:=by
 by_cases h:0<=Lib.indexByte l c
 ·refine⟨fun _=>?_,fun _=>h⟩
  obtain⟨o,ho⟩:=Int.eq_ofNat_of_zero_le h
  exact List.mem_of_getElem? (Lib.indexByte_some ho).1
 ·refine⟨fun h2=>absurd h2 h,fun hm=>?_⟩
  have e:Lib.indexByte l c= -1:=by have:=Lib.indexByte_ge l c;omega
  obtain⟨i,hi,he⟩:=List.mem_iff_getElem.1 hm
  exact absurd (by rw[List.getElem?_eq_getElem hi,he]) (Lib.indexByte_none e i)
section
variable {A B:Nat->Prop} {h:H} {b b2:OA} {n c n2 c2:Nat} {ns:List Bs} {s row:Bs} {x:aP} {sc sp:Int}
theorem xD (m:ML h) {t u:Bs} (ht:t.length<4294967281) {K:KV} (hk:K (.bool (Lib.contains t u)) h):zC 199 [S t,S u] h K:=
 tJ (v:=.bool (Lib.contains t u)) (fun w hw=>by
  obtain⟨x,hx⟩:=m
  exact Tryz.strings_Contains ⟨⟨t⟩⟩ ⟨⟨u⟩⟩ x w (by rw[Lib.size_eq];exact ht) (by rw[lj,hw];exact hx)) hk
theorem rL {t:Bs} {u:UInt8} {K:KV} (hk:K (.bool (Lib.contains t [u])) h):zC 199 [S t,S [u]] h K:=
 tJ (v:=.bool (Lib.contains t [u])) (fun w hw=>by
  have:=Tryz.strings_Contains_one ⟨⟨t⟩⟩ u w
  have e:decide (0<=Lib.indexByte t u)=Lib.contains t [u]:=by
   rw[sH,Bool.eq_iff_iff,decide_eq_true_eq,decide_eq_true_eq];exact yY t u
  rw[<-e];exact this) hk
theorem Je (m:ML h) (hr:row.length<4294967281) (hs:s.length<=9000000000000000000) {K:KV} (hk:K (.bool (Bf row s)) h):zC 157 [S row,S s] h K:=by
 refine Xc4.ok _ _ _ _ (bf (fun e=>?_) fun e=>rL (ag (aR (fun e2=>?_) fun e2=>⟨by simp;omega,by simp;omega,xD m hr (ag (dm (K:=fun b=>K (.bool b) h) ?_))⟩)))
 ·have:Bf row s=false:=by unfold Bf;rw[decide_eq_true e];rfl
  rwa[this] at hk
 ·have:Bf row s=false:=by unfold Bf;rw[e2];simp
  rwa[this] at hk
 ·have:Bf row s=Lib.contains row ([32]++s++ [32]):=by unfold Bf;rw[e2,decide_eq_false e];simp
  rwa[this] at hk
theorem gq (ws:List Bs) (hp:ph ws=true) (hl:row=rowOf ws) (hr:row.length<4294967281) (m:ML h) (hs:s.length<=9000000000000000000) {K:KV} (hk:K (.bool (bn ws s)) h):zC 157 [S row,S s] h K:=by
 subst hl
 refine Je m hr hs ?_
 rw[Pg hp];exact hk
theorem xE (r:Row cN A h b n c ns) {K:KV} (hk:∀i:Int,(0<=i↔s ∈ ns)->K (.int .i64 i) h):zC 215 [.slice b n c,S s] h K:=by
 refine Xgb.ok _ _ _ _ _ _ ?_
 have hl:=r.len
 have hm:n<=maxLen:=Nat.le_trans r.cap r.max
 simp only[maxLen] at hm
 refine⟨n+1,?_⟩
 have key:∀k i,i+k=n->(∀j (h1:j<ns.length),j<i->ns[j]≠s)->
   Xgb.cQ (fun h=>K (.int .i64 (-1)) h) (fun h=>K (.int .i64 (-1)) h) (fun y4 h=>K (.int .i64 y4) h) (k+1) b n c s (n:Int) (i:Int) h:=by
  intro k
  induction k with
  | zero=>
   intro i hi bm
   refine cg (by omega) (hk (-1) ⟨fun h=>absurd h (by decide),fun hm=>?_⟩)
   obtain⟨j,hj,e⟩:=List.mem_iff_getElem.1 hm
   exact absurd e (bm j hj (by omega))
  | succ k ih=>
   intro i hi bm
   refine bK (by omega) (r.bj (i:=i) (by omega) rfl fun a hA=>Of hA fun _=>bf (fun e=>hk i ⟨fun _=>by rw[e];exact List.getElem_mem _,fun _=>by omega⟩) fun e=>⟨aF (by omega) (by omega),ih (i+1) (by omega) fun j h1 hj=>?_⟩)
   by_cases e2:j<i
   ·exact bm j h1 e2
   ·have:j=i:=by omega
    subst this
    exact fun e3=>e e3.symm
 exact key n 0 (by omega) fun j _ hj=>absurd hj (Nat.not_lt_zero _)
theorem lu (r:Row cN A h b n c ns) {K:KV} (hk:K (.bool (bn ns s)) h):zC 189 [.slice b n c,S s] h K:=by
 refine Xf2.ok _ _ _ _ _ _ (xE r fun i hi=>aO (Zy (K:=fun b=>K (.bool b) h) ?_))
 have:decide (i ≥ 0)=bn ns s:=by unfold bn;rw[Bool.eq_iff_iff,decide_eq_true_eq,decide_eq_true_eq];exact hi
 rwa[this]
theorem fJ (m:ML h) (hs:s.length<=9000000000000000000) {K:KV} (hk:K (.bool (ct sp s)) h):zC 162 [.int .u8 sp,S s] h K:=by
 refine Xc1.ok _ _ _ _ (bf (fun e=>aD <| gq Db Lg (by decide+kernel) (by decide+kernel) m hs (ag (dm (K:=fun b=>K (.bool b) h) ?_))) fun e=>aC <| bf (fun e2=>gq qT Lh (by decide+kernel) (by decide+kernel) m hs (ag (dm (K:=fun b=>K (.bool b) h) ?_))) fun e2=>bf (fun e3=>gq FC Ph (by decide+kernel) (by decide+kernel) m hs (ag (dm (K:=fun b=>K (.bool b) h) ?_))) fun e3=>?_)
 ·unfold ct at hk;rwa[if_pos e] at hk
 ·unfold ct at hk;rwa[if_neg e,if_pos e2] at hk
 ·unfold ct at hk;rwa[if_neg e,if_neg e2,if_pos e3] at hk
 ·unfold ct at hk;rwa[if_neg e,if_neg e2,if_neg e3] at hk
theorem tg (r:Row cN A h b n c ns) {K:KV} (hk:∀h',KB h h'->K (.bool (ju x ns)) h'):zC 179 [.agg ⟨aW x⟩,.slice b n c] h K:=by
 refine Xc5.ok _ _ _ _ _ _ _ _ _ (af fun a h1 v1 k1 _ _=>⟨_,v1.cell 1 rfl,bf (fun e=>⟨_,v1.cell 2 rfl,lu (r.kb k1) (ag (dm (K:=fun b=>K (.bool b) h1) ?_))⟩) fun e=>?_⟩)
 ·have:=hk h1 k1
  unfold ju at this;rwa[decide_eq_true e,Bool.true_and] at this
 ·have:=hk h1 k1
  unfold ju at this;rwa[decide_eq_false e,Bool.false_and] at this
theorem lF (ws:List Bs) {k:Nat} (hn:ws.length=k) (hs:tI ws=true) (hl:Nat.ble ws.length maxLen=true) {h':H} {a:Addr} {t:Nat} (v:Var h' a t (ws.map S)) {K:KV} (hk:∀h2,KB h' h2->K (.bool (ju x ws)) h2):
  zC 179 [.agg ⟨aW x⟩,.slice (some a) k k] h' K:=by
 subst hn
 exact tg (iM v hs hl) hk
end
def lT (l:List aP):Nat->List (List Value)
 | 0=>[]
 | i+1=>[.int .i64 i,.agg ⟨aW (l.getD i (0,0,[],0))⟩]::lT l i
theorem rM (l:List aP):∀{i:Nat},∀x ∈ lT l i,x.length=2
 | 0,x,hx=>by cases hx
 | i+1,x,hx=>by
  unfold lT at hx
  rcases List.mem_cons.1 hx with rfl | hx
  ·rfl
  ·exact rM l x hx
theorem tZ {L:Nat} {args:Array Value} {h:H} {next:KV}:fQ Tryz.prog 4 (.func (.yield L) ⟨[]⟩ ⟨[]⟩) args h next=tS Tryz.prog L ⟨args.toList⟩ h fun v h'=>au v fun b=>cond b (next (.bool true) h') (next (.bool false) h'):=by kernel_rfl
section
variable {A:Nat->Prop} {h:H} {b:OA} {n c:Nat} {l:List aP}
theorem uR {a:Addr} (r:Row bo A h b n c l) (v:Var h a 39 [.slice b n c]):
  Hj Tryz.prog (.func (.func 203) ⟨[]⟩ ⟨[.pointer (some a)]⟩) h (lT l l.length) vf (fun k=>A k∨k=a.block):=by
 have hl:=r.len
 have hm:n<=maxLen:=Nat.le_trans r.cap r.max
 simp only[maxLen] at hm
 refine⟨203,_,_,rfl,fun args w=>by kernel_rfl,fun L J Stop h2 hn hJ hS hY hj=>?_⟩
 refine Xft.ok (.func (.yield L) ⟨[]⟩ ⟨[]⟩) a _ _ ?_
 refine⟨_,_,_,(v.kw hn.kw).dA rfl,aF (by omega) (by omega),l.length+1,?_⟩
 rw[<-hl]
 have key:∀i,i<=l.length->∀h',bZ (fun k=>(A k∨k=a.block)/\k<h.size) h h'->J (lT l i) h'->
   Xft.tX (fun h3=>J [] h3∨Stop h3) (fun h3=>J [] h3∨Stop h3) (fun h3=>J [] h3∨Stop h3) (i+1) (.func (.yield L) ⟨[]⟩ ⟨[]⟩) a ((i:Int) - 1) h':=by
  intro i
  induction i with
  | zero=>exact fun _ h' hk hJ=>cg (by omega) (.inl hJ)
  | succ i ih=>
   intro hi h' hk hJ
   obtain⟨ar,On,hA⟩:=r.gE i _ (List.getElem?_eq_getElem (by omega))
   have hx:((i+1:Nat):Int) - 1=(i:Int):=by omega
   rw[hx]
   have Um:At bo (fun _=>True) h' (ar.add (i*bo.sz)) l[i]:=hA.keep (hk.less fun k hk=>⟨.inl hk.1,hk.2⟩) fun _ _ _=>trivial
   have v':Var h' a 39 [.slice b n c]:=v.keep hk ⟨.inr rfl,v.lt⟩
   refine bK (by omega) ⟨_,_,_,v'.dA rfl,⟨by omega,by omega⟩,?_⟩
   rw[On]
   refine cT Um fun _=>?_
   rw[tZ]
   unfold lT at hJ
   rw[aJ (by omega)] at hJ
   refine fun w uB=>?_
   obtain⟨fn,tmps,assign,body,ku,Bl⟩:=hY _ _ _ hJ w uB
   refine⟨fn,tmps,assign,body,ku,Bl.mono ?_⟩
   rintro e w' ⟨v,he,ho,mA⟩
   refine⟨v,he,ho,?_⟩
   rcases mA with ⟨rfl,Zn,FI⟩ | ⟨rfl,hS,FI⟩
   ·exact⟨aF (by omega) (by omega),ih (by omega) _ (bZ.trans (uB▸hk) (FI.keep.less fun _ h=>h.1)) Zn⟩
   ·exact .inr hS
 exact key l.length (Nat.le_refl _) h2 (hn.kw.less fun _ h=>h.2) hj
theorem iz {K:KV} (hk:∀a h',Var h' a 39 [.slice b n c]->KB h h'->a.block=h.size->K (.func (.func 203) ⟨[]⟩ ⟨[.pointer (some a)]⟩) h'):
  zC 178 [.slice b n c] h K:=
 Xc6.ok _ _ _ _ _ (Xfv.ok _ _ _ _ _ (af fun a1 h1 v1 k1 e1 _=>hk a1 h1 v1 k1 e1))
abbrev aai (D:Nat) (Rd:Nat->Prop) (h1:H):H->(H->Prop)->Prop:=fun he p=>tC Rd h1 he/\∀h2,jV vf (D+1) he h2->p h2
abbrev Vu (D:Nat) (Rd:Nat->Prop):H->H->(H->Prop)->Prop:=fun hb h' p=>tC Rd hb h'/\∀h4,jV vf (D+1) h' h4->dp D h4->p h4
theorem vW {h0 h:H} {D t:Nat} {a:Addr} {cs:List Value} {Q:H->Prop} (hd:dp D h) (k:KB h0 h) (hD:h0.size<=D) (v:Var h a t cs) (hk:∀h',KB h0 h'->Var h' a t cs->Q h'):dE [cu D] h Q:=
 ⟨hd,hk _ (k.leave hD) (v.kw ((KW.refl h).leave hd))⟩
theorem kK {D:Nat} {Rd:Nat->Prop} {h h1:H} {t:Nat} {x:aP} {Bd:Addr->H->Prop} (k1:KB h h1) (hRd:∀k,Rd k->k<h.size) (hD:h.size<=D) (hk:∀a hb,KB h hb->Var hb a t (aW x)->Bd a hb):
  aw h1 ⟨[(.int .i64 (0:Int)),(.int .u8 (0:Int)),(S ([]:List UInt8)),(.int .u8 (0:Int))]⟩ t fun a h2=>bc a [.int .i64 x.1,.int .u8 x.2.1,S x.2.2.1,.int .u8 x.2.2.2] 0 h2 fun h3=>aai D Rd h1 h3 (Bd a):=by
 have k1s:=k1.1
 refine af fun a4 h4 v4 k4 e4 _=>aQ v4 (Nat.le_refl _) fun h5 v5 k5 s5=>⟨(k4.kp).trans (KX.kp v4 k5 fun e=>?_),fun h6 n6=>?_⟩
 ·have:=hRd _ e;omega
 ·exact hk a4 h6 ((k1.trans (KB.step k4 k5 (by omega))).nz n6 (by omega)) (v5.kw n6.kw)
theorem qd {R:Type} {f:Nat->aP->Option R} {val:R->Value} {d res:R} {h0:H} {a y:Addr} {ty:Nat} {z:Value} {rdd:Round} {PR:H->Prop}
  (k0:KB h0 h) (r:Row bo A h b n c l) (hA:∀k,A k->k<h0.size) (va:Var h a 39 [.slice b n c]) (vy:Var h y ty [z]) (hy:h0.size<=y.block) (bL:y.block≠a.block)
  (ke:scan f d l=res)
  (Bl:∀(i:Nat) (hi:i<l.length) (h1:H) (Kc:H->H->Prop),KB h h1->
   (∀hb h',KB h hb->KB hb h'->f i l[i]=none->Kc hb h')->
   (∀hb h' q,KB h hb->KB hb h'->f i l[i]=some q->bc y [val q] 0 h' fun lM=>Vu h.size (fun k=>A k∨k=a.block) hb lM PR)->
   (∀hb h',KB h hb->KB hb h'->f i l[i]=some d->Vu h.size (fun k=>A k∨k=a.block) hb h' fun h4=>bc y [val d] 0 h4 PR)->
   rdd [.int .i64 i,.agg ⟨aW l[i]⟩] (aai h.size (fun k=>A k∨k=a.block) h1) Kc (Vu h.size (fun k=>A k∨k=a.block)) h1)
  (hPR:∀h',KB h0 h'->dp h.size h'->Var h' y ty [val res]->PR h'):
  FM Tryz.prog (.func (.func 203) ⟨[]⟩ ⟨[.pointer (some a)]⟩) 2 h rdd fun h4=>bc y [val d] 0 h4 PR:=by
 have k0s:=k0.1
 have agC:¬(A y.block∨y.block=a.block):=fun e=>by
  rcases e with e | e
  ·have:=hA _ e;omega
  ·exact bL e
 have vyl:=vy.lt
 have PY:∀h4,KB h h4->dp h.size h4->res=d->bc y [val d] 0 h4 PR:=fun h4 k4 hd e=>by
  have vx:=vy.kb k4
  refine aQ vx (Nat.le_refl _) fun h7 v7 k7 s7=>?_
  exact hPR h7 (KB.step (k0.trans k4) k7 hy) (vx.dp k7 hd) (by rw[e];exact v7)
 refine⟨_,vf,_,uR r va,rM l,jW (fun xs h'=>KB h h'/\∃i,i<=l.length/\xs=lT l i/\eV f d l i=res) (fun xs h' lM ⟨k,i,hi,hb,e⟩ n=>⟨k.nz n (Nat.le_succ _),i,hi,hb,e⟩) ?_ ?_ _ h ⟨KB.refl _,l.length,Nat.le_refl _,rfl,ke⟩⟩
 ·rintro x xs h3 Kc ⟨k3,i,hi,e,hs⟩ Lp
  cases i with
  | zero=>cases e
  | succ i=>
   have bQ:i<l.length:=by omega
   unfold lT at e
   rw[aJ bQ] at e
   cases e
   unfold eV at hs
   rw[aJ bQ] at hs
   refine Bl i bQ h3 Kc k3 (fun hb h' kb k' hf=>?_) (fun hb h' q kb k' hf=>?_) fun hb h' kb k' hf=>?_
   ·rw[hf] at hs
    exact Lp hb h' k'.kp ⟨kb.trans k',i,by omega,rfl,hs⟩
   ·rw[hf] at hs
    have hs:q=res:=hs
    have kk:=kb.trans k'
    have vx:=vy.kb kk
    refine aQ vx (Nat.le_refl _) fun h7 v7 k7 s7=>⟨k'.kp.trans (KX.kp vx k7 agC),fun h8 n8 hd=>?_⟩
    exact hPR h8 ((KB.step (k0.trans kk) k7 hy).nz n8 (by omega)) hd (by rw[<-hs];exact v7.kw n8.kw)
   ·rw[hf] at hs
    exact⟨k'.kp,fun h8 n8 hd=>PY h8 ((kb.trans k').nz n8 (Nat.le_succ _)) hd hs.symm⟩
 ·rintro h3 ⟨k3,i,hi,e,hs⟩ hd
  cases i with
  | succ i=>cases e
  | zero=>exact PY h3 k3 hd hs.symm
end
theorem BS {p q:Nat} {RD:TB RT [.o p (.i .i64),.g q [.i .i64,.i .u8,.s,.i .u8]]} {Mid:H->(H->Prop)->Prop} {Kc:H->H->Prop} {Fin:H->H->(H->Prop)->Prop} {h1:H} {i:Int} {x:aP} (h:RD i x.1 x.2.1 x.2.2.1 x.2.2.2 Mid Kc Fin h1):
  dB [.o p (.i .i64),.g q [.i .i64,.i .u8,.s,.i .u8]] [.int .i64 i,.agg ⟨aW x⟩] RD fun K=>K Mid Kc Fin h1:=h
section
variable {A B:Nat->Prop} {h:H} {b b2:OA} {n c n2 c2:Nat} {l:List aP} {ns:List Bs} {s:Bs} {sc:Int}
theorem nY (hA:∀k,A k->k<h.size) (r:Row bo A h b n c l) (rn:Row cN B h b2 n2 c2 ns) {K:KV} (hk:∀h',KB h h'->K (.int .i64 (bP l ns)) h'):
  zC 128 [.slice b n c,.slice b2 n2 c2] h K:=by
 refine Xc2.ok _ _ _ _ _ _ _ _ (af fun x2 h2 v2 k2 e2 s2=>af fun y h3 v3 k3 e3 s3=>iz fun a h4 va k4 ea=>?_)
 have jH:=(k2.trans k3).trans k4
 have r4:=r.kb jH
 refine qd (f:=iR ns) (val:=.int .i64) (d:= -1) (res:=bP l ns) jH r4 hA va (v3.kb k4) (by omega) (by omega) rfl (fun i hi h5 Kc k5 uS lU BT=>BS (kK k5 (fun k hk=>?_) (Nat.le_refl _) fun ax hb kb vb=>?_)) (fun h' k' hd v=>vW hd k' jH.1 v fun lM Vv Vw=>⟨_,Vw.dA rfl,hk lM Vv⟩)
 ·rcases hk with hk | hk
  ·exact Nat.lt_of_lt_of_le (hA _ hk) jH.1
  ·rw[hk];exact va.lt
 ·have w2:=((v2.kb k3).kb k4).kb kb
  exact gY vb ⟨_,_,_,w2.dA rfl,tg ((rn.kb jH).kb kb) fun h6 k6=>ag (aR (fun ht=>lU hb h6 _ kb k6 (by unfold iR;rw[if_pos ht])) fun hf=>uS hb h6 kb k6 (by unfold iR;rw[if_neg (by rw[hf];simp)]))⟩
end
theorem iu:oH Tryz.prog bo 39 77 40:=kr (sz:=4) (by kernel_rfl) rfl
theorem pF (ns:List Bs) (l:List aP):∀k:Nat, -1<=eV (iR ns) (-1) l k/\eV (iR ns) (-1) l k<(k:Int)
 | 0=>by simp[eV]
 | k+1=>by
  have:=pF ns l k
  unfold eV
  generalize l.getD k (0,0,[],0)=x at*
  unfold iR
  by_cases h1:ju x ns=true
  ·rw[if_pos h1];simp;omega
  ·rw[if_neg h1];simp only;unfold iR at this;omega
abbrev aS:=Int × Bs × List bw
abbrev aX:El aS:=ik (jz .i64) (ik cN (EJ aY))
def cr (col:bY) (g:Nat) (v:Nat × Nat):bY:=fun k=>if k=g then some v else col k
theorem fX {col:bY} {g:Nat} {v:Nat × Nat}:cr col g v g=some v:=if_pos rfl
theorem dG {col:bY} {g k:Nat} {v:Nat × Nat} (h:k≠g):cr col g v k=col k:=if_neg h
abbrev bh (h:H) (col:bY):Prop:=∀k,h.size<=k->col k=none
theorem bh.kb {h h':H} {col:bY} (f:bh h col) (k:KB h h'):bh h' col:=fun g hg=>f g (Nat.le_trans k.1 hg)
theorem bh.cr {h:H} {col:bY} (f:bh h col) {g:Nat} {v:Nat × Nat} (hg:g<h.size):bh h (cr col g v):=fun k hk=>by rw[dG (by omega)];exact f k hk
theorem bh.cz {h h':H} {col:bY} (f:bh h col) (hs:h.size<=h'.size) {b:OA} {v:Nat × Nat} (hb:∀q,b=some q->q.block<h'.size):bh h' (cz col h b v):=fun k hk=>by
 rw[pn hb hk];exact f k (Nat.le_trans hs hk)
structure al (S:Nat->Prop) (h:H) (col:bY) (h':H) (col':bY):Prop where
 sk:SK (fun k=>k<h.size/\∀s p,S s->col k≠some (s,p)) h h'
 cl:∀k,k<h.size->col' k=col k
variable {S:Nat->Prop}
theorem al.refl (S:Nat->Prop) (h:H) (col:bY):al S h col h col:=⟨SK.refl _ _,fun _ _=>rfl⟩
theorem al.trans {a b c:H} {x y z:bY} (e:al S a x b y) (f:al S b y c z):al S a x c z:=
 ⟨e.sk.trans (f.sk.less fun k hk=>⟨Nat.lt_of_lt_of_le hk.1 e.sk.1,fun s p hs=>by rw[e.cl k hk.1];exact hk.2 s p hs⟩),fun k hk=>by rw[f.cl k (Nat.lt_of_lt_of_le hk e.sk.1),e.cl k hk]⟩
theorem al.kb {h h':H} {col:bY} (k:KB h h'):al S h col h' col:=⟨k.less fun _ hk=>hk.1,fun _ _=>rfl⟩
theorem Ext.p {s:Nat} {h h':H} {col col':bY} (e:Ext s h col h' col') (hs:S s):al S h col h' col':=⟨e.sk.less fun k hk=>⟨hk.1,fun p=>hk.2 s p hs⟩,e.cl⟩
theorem al.free {h h':H} {col col':bY} (e:al S h col h' col') {k:Nat} (hk:bT col h k):bT col' h' k:=⟨by rw[e.cl k hk.2];exact hk.1,Nat.lt_of_lt_of_le hk.2 e.sk.1⟩
theorem al.eR {h h':H} {col col':bY} (e:al S h col h' col'):bZ (bT col h) h h':=e.sk.w.less fun k hk=>⟨hk.2,fun s p _ e2=>by rw[hk.1] at e2;cases e2⟩
theorem al.row {α:Type} {E:El α} {h h':H} {col col':bY} {b:OA} {n c:Nat} {l:List α} (e:al S h col h' col') (r:Row E (bT col h) h b n c l):Row E (bT col' h') h' b n c l:=
 r.keep (e.eR.less fun k hk=>hk.1) fun k hk _=>e.free hk
theorem al.gE {α:Type} {E:El α} {h h':H} {col col':bY} {a:Addr} {x:α} (e:al S h col h' col') (r:At E (bT col h) h a x):At E (bT col' h') h' a x:=
 r.keep (e.eR.less fun k hk=>hk.1) fun k hk _=>e.free hk
theorem bT.kb {h h':H} {col:bY} (k:KB h h') {g:Nat} (hg:bT col h g):bT col h' g:=⟨hg.1,Nat.lt_of_lt_of_le hg.2 k.1⟩
theorem bz.cf {h h':H} {col col':bY} {s:Nat} {t:Addr} {cp:List Addr} {ns:List ay} (T:bz h col s t cp ns) (hs:¬S s) (e:al S h col h' col') (hf:bh h' col'):bz h' col' s t cp ns:=
 T.keep e.sk.w e.cl hf fun k hk hc=>⟨hk,fun s' p hs' e2=>by
  rcases hc with hc | ⟨q,hc⟩
  ·rw[hc] at e2;cases e2
  ·rw[hc] at e2;cases e2;exact hs hs'⟩
structure kS (h:H) (col:bY):Prop where
 ml:ML h
 free:col 0=none
theorem kS.ext {h h':H} {col col':bY} (l:kS h col) (e:al S h col h' col'):kS h' col':=by
 obtain⟨m,hm⟩:=l.ml
 have hl:0<h.size:=fP hm
 exact⟨⟨m,e.eR.cell ⟨l.free,hl⟩ hm⟩,by rw[e.cl 0 hl];exact l.free⟩
theorem kS.kb {h h':H} {col:bY} (l:kS h col) (k:KB h h'):kS h' col:=⟨l.ml.kb k,l.free⟩
structure du {α:Type} (E:El α) (h:H) (col:bY) (v:Nat × Nat) (e:Nat) (b:OA) (n c:Nat) (l:List α):Prop where
 own:dX E (bT col h) h 0 e b n c l
 col:∀q,b=some q->col q.block=some v
 hi:∀q,b=some q->q.block<h.size
 nil:b=none->c=0
section
variable {α:Type} {E:El α} {h h':H} {col col':bY} {v:Nat × Nat} {e n c:Nat} {b:OA} {l:List α}
theorem du.len (o:du E h col v e b n c l):l.length=n:=o.own.len
theorem du.none:du E h col v e none 0 0 []:=⟨dX.nil _ _ _ _ _,(fun _ h=>nomatch h),(fun _ h=>nomatch h),fun _=>rfl⟩
theorem du.keep (o:du E h col v e b n c l) {B:Nat->Prop} (k:bZ B h h') (hc:∀k,k<h.size->col' k=col k) (hB:∀k,k<h.size->(col k=Option.none∨col k=some v)->B k):du E h' col' v e b n c l:=
 ⟨o.own.keep k (fun g hg hs=>hB g hs (.inl hg.1)) (fun g hg hs=>⟨by rw[hc g hs];exact hg.1,Nat.lt_of_lt_of_le hs k.1⟩) fun g hg _ hs=>hB g hs (.inr (o.col _ hg)),
  fun q hq=>by rw[hc _ (o.hi q hq)];exact o.col q hq,fun q hq=>Nat.lt_of_lt_of_le (o.hi q hq) k.1,o.nil⟩
theorem du.ext (o:du E h col v e b n c l) (x:al S h col h' col') (hv:¬S v.1):du E h' col' v e b n c l:=
 o.keep x.sk.w x.cl fun k hk hc=>⟨hk,fun s p hs e2=>by
  rcases hc with hc | hc
  ·rw[hc] at e2;cases e2
  ·rw[hc] at e2;cases e2;exact hv hs⟩
theorem du.kb (o:du E h col v e b n c l) (k:KB h h'):du E h' col v e b n c l:=o.keep k.w (fun _ _=>rfl) fun k hk _=>hk
theorem du.row (o:du E h col v e b n c l):Row E (rS h.size) h b n c l:=o.own.row (fun k hk=>hk.2) fun g hg hs _=>hs
theorem du.agD (o:du E h col v e b n c l):Row E (fun k=>bT col h k∨(col k=some v/\k<h.size)) h b n c l:=o.own.row (fun k hk=>.inl hk) fun g hg hs _=>.inr ⟨o.col _ hg,hs⟩
theorem du.append {t by':Nat} {P:Program} (ap:oH P E t e by') {rb:OA} {m k:Nat} {l2:List α} (o:du E h col v e b n c l) (r:Row E (bT col h) h rb m k l2)
  (jZ:n+m<=maxLen) (hb:(n+m)*by'<=140737488355328) (hf:bh h col) {ty:TypeId} {K:KV}
  (hk:∀b' c' h',du E h' (cz col h b' v) v e b' (n+m) c' (l++l2)->dW h h' b->Fu h b b'->bh h' (cz col h b' v)->K (.slice b' (n+m) c') h'):
  aZ P (Builtin.append_ #[t,t] ty ⟨[.slice b n c,.slice rb m k]⟩) h K:=by
 refine dX.append ap o.own r jZ hb (Nat.zero_le _) (fun k hk _ a ha=>fun e2=>by have:=o.col a ha;rw[e2,hk.1] at this;cases this) fun b2 c2 h2 o2 hg AO h0=>?_
 have IN:∀q,b2=some q->q.block<h2.size:=fun q e=>by
  rcases o2.own with ⟨xs,ow,_⟩
  rcases ow.lt with ⟨hn,hc⟩ | ⟨g,e1,_,cR⟩
  ·have:=h0 hn
   rw[this.1] at e
   exact Nat.lt_of_lt_of_le (o.hi q e) hg.size
  ·rw[e] at e1;cases e1;exact cR
 refine hk b2 c2 h2 ⟨?_,fun q e=>?_,IN,fun e=>?_⟩ hg (fun q e=>?_) (hf.cz hg.size IN)
 ·refine o2.keep (bZ.refl (fun _=>True) _) (fun _ _ _=>trivial) (fun k FG EB=>⟨by rw[eJ FG.2];exact FG.1,EB⟩) fun _ _ _ _=>trivial
 ·refine nq e fun cR=>?_
  rcases AO with rfl | rfl
  ·exact o.col q e
  ·cases e;exact absurd cR (Nat.lt_irrefl _)
 ·subst e
  rcases AO with rfl | h
  ·rcases o2.own with ⟨xs,ow,_⟩
   rcases ow.is with ⟨hn,hc⟩ | ⟨g,cur,e,_⟩
   ·exact hc
   ·cases e
  ·cases h
 ·rcases AO with rfl | rfl
  ·exact .inl e
  ·cases e;exact .inr (Nat.le_refl _)
theorem du.take (o:du E h col v e b n c l) {m:Nat} (hm:m<=n):du E h col v e b m c (l.take m):=by
 obtain⟨xs,ow,en⟩:=o.own.own
 refine⟨⟨by rw[List.length_take,o.len];omega,xs.take (m*E.sz),⟨?_,by have:=ow.cap;omega,ow.max,?_⟩,en.take m⟩,o.col,o.hi,o.nil⟩
 ·rw[List.length_take,ow.len]
  have:m*E.sz<=n*E.sz:=Nat.mul_le_mul_right _ hm
  omega
 ·rcases ow.is with ⟨hn,hc⟩ | ⟨g,cur,e,h1,h2,h3,h4⟩
  ·exact .inl ⟨by omega,hc⟩
  ·refine .inr ⟨g,cur,e,h1,h2,h3,?_⟩
   rw[<-h4,List.take_take,Nat.min_eq_left (Nat.mul_le_mul_right _ hm)]
theorem du.of {h0:H} (o:bH E h h0.size e b n c l) (hf:Flat E) (hc:bh h0 col) (hs:h0.size<=h.size):du E h (cz col h0 b v) v e b n c l:=
 ⟨(o.own.flat hf (A':=bT (cz col h0 b v) h)).lower (Nat.zero_le _),fun q e=>nq e fun cR=>absurd (o.lo q e) (by omega),o.hi,o.nil⟩
theorem _root_.Go.Sh.bO.toC {h0:H} (o:bO E (bT col h0) h h0.size e b n c l) (k:h0.size<=h.size):du E h (cz col h0 b v) v e b n c l:=
 ⟨(o.own.keep (bZ.refl (fun _=>True) _) (fun _ _ _=>trivial) (fun g hg hs=>⟨by rw[eJ hg.2];exact hg.1,hs⟩) fun _ _ _ _=>trivial).lower (Nat.zero_le _),fun q e=>nq e fun cR=>absurd (o.lo q e) (by omega),o.hi,o.nil⟩
theorem du.parts (o:du E h col v e b n c l):∃xs,eH E (bT col h) h l xs/\Cells h b xs/\xs.length=n*E.sz:=by
 obtain⟨xs,ow,en⟩:=o.own.own
 exact⟨xs,en,ow.cells,ow.len⟩
theorem du.cap (o:du E h col v e b n c l):n<=c/\c<=maxLen:=o.own.cap
end
abbrev aI:aP:=(0,0,[],0)
structure WM where
 ns:List ay
 op:List aP
 aE:List aS
 fo:Bool
 hi:Int
def fH:List Bs:=[[116,97,98,108,101]]
def uT:List Bs:=[[116,97,98,108,101],[116,98,111,100,121],[116,102,111,111,116],[116,104,101,97,100],[116,114]]
def th (x:aP):Bool:=bn uT x.2.2.1&&decide (x.2.1=0)
def gP (ns:List ay) (id:Int):Int:=if 0<=id then((ns[id.toNat]?).map (·.parent)).getD (-1) else -1
def cy (ns:List ay) (op:List aP) (fo:Bool) (x:aP):Int × Int:=
 if fo&&th x then
  if bP op fH<0 then(0, -1)
  else if 0<=gP ns (op.getD (bP op fH).toNat aI).1 then(gP ns (op.getD (bP op fH).toNat aI).1,(op.getD (bP op fH).toNat aI).1)
  else((op.getD ((bP op fH).toNat - 1) aI).1, -1)
 else(x.1, -1)
def dP (op:List aP):aP:=op.getD (op.length - 1) aI
structure bq (h:H) (col:bY) (s ty:Nat) (w t:Addr) (op:List aP) (mk:List aS) (fo:Bool) (hi:Int):Prop where
 ex:∃ob oc mb mn mc,Var h w ty [.pointer (some t),.slice ob op.length oc,.slice mb mn mc,.bool fo,.int .i64 hi]/\du bo h col (s,1) 77 ob op.length oc op/\du aX h col (s,2) 79 mb mn mc mk
 col:col w.block=some (s,0)
 rh:bd .i64 hi
variable {S:Nat->Prop}
theorem al.grow {h h':H} {col:bY} {b b':OA} {s p:Nat} {v:Nat × Nat} (g:dW h h' b) (hc:∀q,b=some q->col q.block=some (s,p)) (hS:S s):al S h col h' (cz col h b' v):=
 ⟨⟨g.size,fun k hk=>g.vM k hk.1 fun a ea e2=>hk.2 s p hS (by rw[<-e2];exact hc a ea)⟩,fun k hk=>eJ hk⟩
theorem al.kx {h h':H} {col:bY} {g s p:Nat} (k:KX g h h') (hc:col g=some (s,p)) (hS:S s):al S h col h' col:=
 ⟨k.less fun q hq e=>hq.2 s p hS (by rw[e];exact hc),fun _ _=>rfl⟩
theorem al.mono {S':Nat->Prop} {h h':H} {col col':bY} (e:al S h col h' col') (hS:∀s,S s->S' s):al S' h col h' col':=
 ⟨e.sk.less fun k hk=>⟨hk.1,fun s p hs=>hk.2 s p (hS s hs)⟩,e.cl⟩
section
variable {h h':H} {col col':bY} {s ty:Nat} {w t:Addr} {op:List aP} {mk:List aS} {fo:Bool} {hi:Int}
theorem bq.ext (W:bq h col s ty w t op mk fo hi) (e:al S h col h' col') (hs:¬S s):bq h' col' s ty w t op mk fo hi:=by
 obtain⟨ob,oc,mb,mn,mc,v,o,om⟩:=W.ex
 refine⟨⟨ob,oc,mb,mn,mc,v.keep e.sk.w ⟨v.lt,fun s' p hs' e2=>?_⟩,o.ext e hs,om.ext e hs⟩,by rw[e.cl _ v.lt];exact W.col,W.rh⟩
 rw[W.col] at e2;cases e2;exact hs hs'
theorem bq.kb (W:bq h col s ty w t op mk fo hi) (k:KB h h'):bq h' col s ty w t op mk fo hi:=W.ext (S:=fun _=>False) (.kb k) id
theorem bq.YJ (W:bq h col s ty w t op mk fo hi):∀x ∈ op,gG x:=fun x hx=>by
 obtain⟨ob,oc,mb,mn,mc,v,o,om⟩:=W.ex
 obtain⟨i,hi,rfl⟩:=List.mem_iff_getElem.1 hx
 obtain⟨a,_,hA⟩:=o.row.gE i op[i] (List.getElem?_eq_getElem hi)
 exact Vt hA
end
section
variable {h:H} {K:KV} {col:bY} {s s0:Nat} {w t:Addr} {cp:List Addr} {ns:List ay} {op:List aP} {mk:List aS} {fo:Bool} {hi:Int} {x:aP}
theorem yZ (T:bz h col s t cp ns) {id:Int} (hk:K (.int .i64 (gP ns id)) h):zC 129 [.pointer (some t),.int .i64 id] h K:=by
 refine Bk T (fun dk=>?_) fun i x e hx=>?_
 ·have:gP ns id= -1:=by
   unfold gP
   by_cases h0:0<=id
   ·rw[if_pos h0,List.getElem?_eq_none (by omega)];rfl
   ·rw[if_neg h0]
  rwa[this] at hk
 ·have:gP ns id=x.parent:=by
   unfold gP
   rw[if_pos (by omega),e,Int.toNat_natCast,hx];rfl
  rwa[this] at hk
theorem eN (W:bq h col s 42 w t op mk fo hi) (bL:0<op.length) (hl:op.length<=1000000) (hk:∀h',KB h h'->K (.agg ⟨aW (dP op)⟩) h'):
  zC 55 [.pointer (some w)] h K:=by
 obtain⟨ob,oc,mb,mn,mc,v,o,om⟩:=W.ex
 have e:((op.length:Int) - 1)=((op.length - 1:Nat):Int):=by omega
 refine Xc9.ok _ _ _ (af fun a1 h1 v1 k1 e1 s1=>aa ⟨_,_,_,(v.kb k1).cell 1 rfl,aa ⟨_,_,_,(v.kb k1).cell 1 rfl,aF (by omega) (by omega),?_⟩⟩)
 rw[e]
 have hx:op[op.length - 1]'(by omega)=dP op:=(aJ (by omega)).symm
 exact(o.kb k1).row.bj (i:=op.length - 1) (by omega) rfl fun q hA=>cT hA fun ow=>aQ v1 (by show 4<=4;omega) fun h2 v2 k2 s2=>gY (m:=op[op.length - 1]'(by omega)) v2 (by rw[hx];exact hk h2 (KB.step k1 k2 (by omega)))
theorem Gk (hk:∀h',KB h h'->K (.bool (th x)) h'):zC 127 [.agg ⟨aW x⟩] h K:=by
 refine Xdh.ok _ _ _ _ _ _ (af fun a h1 v1 k1 e1 s1=>⟨_,v1.cell 2 rfl,?_⟩)
 have Y:x.2.2.1 ∈ uT->∃i62,cell h1 (a.add 1)=some (.int .u8 i62)/\(aM (i62=(0:Int)) (K (.bool true) h1) (K (.bool false) h1)):=fun hm=>by
  refine⟨_,v1.cell 1 rfl,Zy (K:=fun b=>K (.bool b) h1) ?_⟩
  have:=hk h1 k1
  unfold th bn at this
  rwa[decide_eq_true hm,Bool.true_and] at this
 refine bf (fun e=>aD (aD (Y (by rw[e];decide)))) fun e1=>aC (bf (fun e=>aD (Y (by rw[e];decide))) fun e2=>bf (fun e=>aD (Y (by rw[e];decide))) fun e3=>bf (fun e=>aD (Y (by rw[e];decide))) fun e4=>
  bf (fun e=>aD (Y (by rw[e];decide))) fun e5=>aC ?_)
 have dk:¬x.2.2.1 ∈ uT:=fun hm=>by
  simp only[uT,List.mem_cons,List.not_mem_nil,or_false] at hm
  rcases hm with h | h | h | h | h
  ·exact e1 h
  ·exact e2 h
  ·exact e3 h
  ·exact e4 h
  ·exact e5 h
 have:=hk h1 k1
 unfold th bn at this
 rwa[decide_eq_false dk,Bool.false_and] at this
theorem lk {ka kb:IntKind} {a c:Int} {k:Int->Int->Prop} (h:k a c):ni (.tuple ⟨[.int ka a,.int kb c]⟩) fun l=>aG l fun e l=>aL ka e fun s=>aG l fun e l=>aL kb e fun i=>cW l (k s i):=Zz h
theorem lr (T:bz h col s0 t cp ns) (W:bq h col s 42 w t op mk fo hi) (hl:op.length<=1000000) (hk:∀h',KB h h'->K (.tuple ⟨[.int .i64 (cy ns op fo x).1,.int .i64 (cy ns op fo x).2]⟩) h'):
  zC 54 [.pointer (some w),.agg ⟨aW x⟩] h K:=by
 obtain⟨ob,oc,mb,mn,mc,v,o,om⟩:=W.ex
 refine Xdf.ok _ _ _ _ _ _ _ (af fun a1 h1 v1 k1 e1 s1=>aa ⟨_,(v.kb k1).cell 3 rfl,aR (fun ef=>?_) fun ef=>?_⟩)
 ·refine gY (m:=x) v1 (Gk fun h2 k2=>ag (aR (fun eg=>?_) fun eg=>?_))
  ·have tK:=k1.trans k2
   refine aa ⟨_,_,_,(v.kb tK).cell 1 rfl,af fun a3 h3 v3 k3 e3 s3=>?_⟩
   have gi:=tK.trans k3
   have o3:=(o.kb gi).row
   refine nY (fun k hk=>hk) o3 (iM (ws:=fH) v3 (by decide) (by decide)) fun h4 k4=>aO ?_
   have nU:=gi.trans k4
   have v4:=v.kb nU
   have o4:=(o.kb nU).row
   have hr:=pF fH op op.length
   have hru: -1<=bP op fH/\bP op fH<(op.length:Int):=hr
   refine bf (fun eI=>?_) fun qv=>?_
   ·have hw:cy ns op fo x=(0, -1):=by unfold cy;rw[ef,eg,if_pos (by rfl),if_pos eI]
    have:=hk h4 nU
    rwa[hw] at this
   ·have Zd:(bP op fH).toNat<op.length:=by omega
    refine aa ⟨_,_,_,v4.cell 1 rfl,o4.idx (i:=bP op fH) (by omega) (by omega) rfl fun q hi hA=>⟨_,hA.fst.int.1,aa ⟨_,v4.cell 0 rfl,?_⟩⟩⟩
    have hg:op[(bP op fH).toNat]=op.getD (bP op fH).toNat aI:=(aJ Zd).symm
    rw[hg]
    refine yZ (T.kb nU) (aO (bf (fun hp=>?_) fun hp=>?_))
    ·have hw:cy ns op fo x=(gP ns (op.getD (bP op fH).toNat aI).1,(op.getD (bP op fH).toNat aI).1):=by unfold cy;rw[ef,eg,if_pos (by rfl),if_neg qv,if_pos hp]
     have:=hk h4 nU
     rwa[hw] at this
    ·have e:((if(1:Int)>bP op fH then(1:Int) else bP op fH) - 1)=(((bP op fH).toNat - 1:Nat):Int):=by split <;> omega
     rw[e]
     refine aa ⟨_,_,_,v4.cell 1 rfl,aF (by omega) (by omega),o4.bj (i:=(bP op fH).toNat - 1) (by omega) rfl fun q hA=>⟨_,hA.fst.int.1,?_⟩⟩
     have hw:cy ns op fo x=((op.getD ((bP op fH).toNat - 1) aI).1, -1):=by unfold cy;rw[ef,eg,if_pos (by rfl),if_neg qv,if_neg hp]
     have:=hk h4 nU
     rw[hw,aJ (by omega)] at this
     exact this
  ·refine⟨_,(v1.kb k2).cell 0 rfl,?_⟩
   have hw:cy ns op fo x=(x.1, -1):=by unfold cy;rw[eg,Bool.and_false];rfl
   have:=hk h2 (k1.trans k2)
   rwa[hw] at this
 ·refine⟨_,v1.cell 0 rfl,?_⟩
  have hw:cy ns op fo x=(x.1, -1):=by unfold cy;rw[ef,Bool.false_and];rfl
  have:=hk h1 k1
  rwa[hw] at this
def gW (op:List aP) (n:Int):List aP:=if 1<=n/\n<op.length then op.take n.toNat else op
theorem Gl {ty:Nat} (W:bq h col s ty w t op mk fo hi) {n:Int} (hf:bh h col) (h1:1<=n) (h2:n<op.length) {ob:OA} {oc:Nat} {mb:OA} {mn mc:Nat} (v:Var h w ty [.pointer (some t),.slice ob op.length oc,.slice mb mn mc,.bool fo,.int .i64 hi]) {Q:H->Prop}
  (hk:∀h',bq h' col s ty w t (gW op n) mk fo hi->al (fun k=>k=s) h col h' col->bh h' col->KX w.block h h'->Q h'):
  bc (w.add 1) [(.slice (if oc=Int.toNat (0:Int) then ob else Option.map (fun q=>q.add (Int.toNat (0:Int)*4)) ob) (Int.toNat n - Int.toNat (0:Int)) (oc - Int.toNat (0:Int)))] 0 h Q:=by
 obtain⟨X8,X9,Ya,Yb,Yc,v2,o,om⟩:=W.ex
 have ec:some (Value.slice ob op.length oc)=some (.slice X8 op.length X9):=(v.cell 1 rfl).symm.trans (v2.cell 1 rfl)
 have em:some (Value.slice mb mn mc)=some (.slice Ya Yb Yc):=(v.cell 2 rfl).symm.trans (v2.cell 2 rfl)
 cases ec
 cases em
 refine cv (m:=1) (i:=0) v (by show 1+0+1<=5;omega) fun h3 v3 k3 s3=>?_
 have E:al (fun k=>k=s) h col h3 col:=al.kx k3 W.col rfl
 have eb:(if oc=Int.toNat (0:Int) then ob else Option.map (fun q=>q.add (Int.toNat (0:Int)*4)) ob)=ob:=by
  split
  ·rfl
  ·cases ob with
   | none=>rfl
   | some q=>rfl
 have hlen:(op.take n.toNat).length=n.toNat - Int.toNat (0:Int):=by rw[List.length_take];show _=n.toNat - 0;omega
 refine hk h3 ?_ E (fun k hk=>hf k (by omega)) k3
 have hc:gW op n=op.take n.toNat:=by unfold gW;rw[if_pos ⟨h1,h2⟩]
 rw[hc]
 have bL:∀g p,col g=some (s,p)->p≠0->g≠w.block:=fun g p e hp e2=>by rw[e2,W.col] at e;cases e;exact hp rfl
 have ok:=(o.take (m:=n.toNat) (by omega)).keep (h':=h3) (col':=col) k3.w (fun _ _=>rfl) fun k hk hc=>by
  rcases hc with hc | hc
  ·intro e;rw[e,W.col] at hc;cases hc
  ·exact bL k 1 hc (by decide)
 have omk:=om.keep (h':=h3) (col':=col) k3.w (fun _ _=>rfl) fun k hk hc=>by
  rcases hc with hc | hc
  ·intro e;rw[e,W.col] at hc;cases hc
  ·exact bL k 2 hc (by decide)
 refine⟨⟨ob,oc,mb,mn,mc,?_,?_,omk⟩,W.col,W.rh⟩
 ·rw[hlen]
  have QD:=v3
  rw[eb] at QD
  exact QD
 ·rw[hlen];exact ok
theorem D9 (W:bq h col s 42 w t op mk fo hi) {n:Int} (hf:bh h col)
  (hk:∀h',bq h' col s 42 w t (gW op n) mk fo hi->al (fun k=>k=s) h col h' col->bh h' col->K (.tuple ⟨[]⟩) h'):
  zC 57 [.pointer (some w),.int .i64 n] h K:=by
 obtain⟨ob,oc,mb,mn,mc,v,o,om⟩:=W.ex
 have dk:¬(1<=n/\n<op.length)->K (.tuple ⟨[]⟩) h:=fun hn=>hk h (by unfold gW;rw[if_neg hn];exact W) (.refl _ _ _) hf
 refine Xc8.ok _ _ _ _ (bf (fun h1=>aa ⟨_,_,_,v.cell 1 rfl,bf (fun h2=>?_) fun h2=>aC (dk fun hn=>h2 hn.2)⟩) fun h1=>aC (dk fun hn=>h1 hn.1))
 have hcap:=o.own.cap
 exact aD (aa ⟨_,_,_,v.cell 1 rfl,⟨by omega,by omega,by omega⟩,aa (Gl W hf h1 h2 v fun h' a b c _=>hk h' a b c)⟩)
end
end Go.Proofs
namespace Go.Sh
open Go Go.Proofs
set_option linter.unusedVariables false
set_option linter.unusedSimpArgs false
variable {P:Program}
theorem QE (h:H) (o:Obj):(h.push o)[h.size]? =some o:=by simp
def QF:El UInt8 where
 sz:=1
 R:=fun _ _ x cs=>cs=[.int .u8 (x.toNat:Int)]
 len:=fun _ _ _ _ h=>by rw[h];rfl
 one:=fun _ _ _ _ h v hv=>by rw[h] at hv;simp at hv;subst hv;rfl
 keep:=fun _ _ _ _ _ _ h _ _=>h
 pos:=by decide
theorem At.byte {A:Nat->Prop} {h:H} {a:Addr} {x:UInt8} (hA:At QF A h a x):cell h a=some (.int .u8 (x.toNat:Int)):=by
 obtain⟨h1,cs,e,h4⟩:=hA
 cases e
 exact h4 0 _ rfl
theorem aak {A:Nat->Prop} {h:H}:∀(l:List UInt8),eH QF A h l (l.map fun x=>Value.int .u8 (x.toNat:Int))
 | []=>rfl
 | x::l=>⟨[.int .u8 (x.toNat:Int)],_,rfl,rfl,aak l⟩
theorem Row.SG {A:Nat->Prop} {h:H} {b:OA} {n c:Nat} {l:List UInt8} (r:Row QF A h b n c l) {j:Nat} (hj:j<l.length):∃a,b=some a/\cell h (a.add j)=some (.int .u8 (l[j].toNat:Int)):=by
 obtain⟨a,e,hA⟩:=r.gE j _ (List.getElem?_eq_getElem hj)
 have:=hA.byte
 rw[show j*QF.sz=j from Nat.mul_one j] at this
 exact⟨a,e,this⟩
theorem QG {src dst e:TypeId} (hs:P.underlying src=some (.slice e)) (he:P.underlying e=some (.int .u8)) (hd:P.underlying dst=some .string) {A:Nat->Prop} {h:H} {b:OA} {n c:Nat} {l:List UInt8}
  (r:Row QF A h b n c l) {K:Value->Prop} (hk:K (S l)):sK P (convert src dst (.slice b n c)) h K:=by
 have hn:=r.len
 subst hn
 refine⟨S l,hk,fun w hw=>?_⟩
 cases hb:b with
 | none=>
  have:l=[]:=by
   cases l with
   | nil=>rfl
   | cons x l=>obtain⟨a,e,_⟩:=r.SG (j:=0) (by simp);rw[hb] at e;cases e
  subst this
  rw[run_convert_bytes_string w src dst e none _ c hs he hd]
  simp[Conv.bytesToString]
  rfl
 | some a=>
  exact run_convert_bytes_back w src dst e a c l hs he hd fun j hj=>by
   obtain⟨a',e1,e2⟩:=r.SG hj
   rw[hb] at e1
   cases e1
   rw[lj];exact hw.cell e2
theorem HV {src dst e:TypeId} (hs:P.underlying src=some (.slice e)) (he:P.underlying e=some (.int .u8)) (hd:P.underlying dst=some .string) {A:Nat->Prop} {h:H} {b:OA} {n c:Nat} {l:List UInt8}
  (r:Row QF A h b n c l) {K:KV} (hk:K (S l) h):aZ P (convert src dst (.slice b n c)) h K:=(QG hs he hd r (K:=fun v=>K v h) hk).h
structure vB (h:H) (g:Nat) (c:Nat) (s:Bs):Prop where
 ex:∃(cur:Array Value) (e:Nat),h[g]? =some (.cells cur e (cur.size,cur.size+1))/\cur.size=c/\s.length<=c/\c<=maxLen/\∀(j:Nat) x,s[j]? =some x->cur[j]? =some (.int .u8 (x.toNat:Int))
theorem Gn {src dst e:TypeId} (hs:P.underlying src=some .string) (hd:P.underlying dst=some (.slice e)) (he:P.underlying e=some (.int .u8)) {h:H} {s:List UInt8} (hl:s.length<=maxLen)
  {K:KV} (hk:∀c h',vB h' h.size c s->KB h h'->h'.size=h.size+1->K (.slice (some ⟨h.size,0,none⟩) s.length c) h'):aZ P (convert src dst (S s)) h K:=by
 intro w hw
 have ib:(⟨⟨s⟩⟩:ByteArray).size=s.length:=rfl
 refine⟨_,_,run_bytes_of_string w src dst e ⟨⟨s⟩⟩ hs hd he,⟨rfl,rfl,rfl⟩,?_⟩
 rw[ib]
 have hg1:=grownCap_ge w s.length 0 e
 have Fk:=grownCap_le_maxLen w s.length 0 e hl
 have hh:(w.drew.alloc (.cells (bytesRow ⟨⟨s⟩⟩ (grownCap w s.length 0 e)) e ((bytesRow ⟨⟨s⟩⟩ (grownCap w s.length 0 e)).size,(bytesRow ⟨⟨s⟩⟩ (grownCap w s.length 0 e)).size+1))).heap=h.push (.cells (bytesRow ⟨⟨s⟩⟩ (grownCap w s.length 0 e)) e ((bytesRow ⟨⟨s⟩⟩ (grownCap w s.length 0 e)).size,(bytesRow ⟨⟨s⟩⟩ (grownCap w s.length 0 e)).size+1)):=by rw[<-hw];rfl
 rw[hh,hw]
 have hbs:(bytesRow ⟨⟨s⟩⟩ (grownCap w s.length 0 e)).size=grownCap w s.length 0 e:=by
  unfold bytesRow
  simp
  exact Nat.add_sub_cancel' hg1
 refine hk _ _ ⟨_,_,QE h _,hbs,hg1,Fk,fun j x hx=>?_⟩ (SK.push h _) (by simp)
 have hj:=(List.getElem?_eq_some_iff.1 hx).1
 rw[bytesRow_at ⟨⟨s⟩⟩ _ j hj]
 rw[List.getElem?_eq_getElem hj] at hx
 cases hx
 rfl
theorem vB.kb {h h':H} {g c:Nat} {s:Bs} (b:vB h g c s) (k:KB h h'):vB h' g c s:=by
 obtain⟨cur,e,h1,r⟩:=b.ex
 have cR:g<h.size:=by
  rcases Nat.lt_or_ge g h.size with h2 | h2
  ·exact h2
  ·rw[Array.getElem?_eq_none h2] at h1;cases h1
 exact⟨cur,e,by rw[k.2 g cR];exact h1,r⟩
theorem vB.cell {h:H} {g c:Nat} {s:Bs} (b:vB h g c s) {j:Nat} (hj:j<s.length):Sh.cell h ((⟨g,0,none⟩:Addr).add j)=some (.int .u8 (s[j].toNat:Int)):=by
 obtain⟨cur,e,h1,h2,h3,h4,h5⟩:=b.ex
 rw[je h1]
 exact h5 j _ (List.getElem?_eq_getElem hj)
theorem vB.row {h:H} {g c:Nat} {s:Bs} (b:vB h g c s):Row QF (fun _=>True) h (some ⟨g,0,none⟩) s.length c s:=by
 obtain⟨cur,e,h1,h2,h3,h4,h5⟩:=b.ex
 refine Row.of (aak s) (fun j v hv=>⟨_,rfl,?_⟩) rfl h3 h4 fun _ _=>trivial
 have hj:j<s.length:=by simpa using (List.getElem?_eq_some_iff.1 hv).1
 rw[b.cell hj]
 rw[List.getElem?_map,List.getElem?_eq_getElem hj] at hv
 exact hv
theorem vB.st {h:H} {g c:Nat} {s:Bs} (b:vB h g c s) {j:Nat} (hj:j<s.length) {y:UInt8} {K:H->Prop} (hk:∀h',vB h' g c (s.set j y)->KX g h h'->h'.size=h.size->K h'):
  bc ((⟨g,0,none⟩:Addr).add j) [.int .u8 (y.toNat:Int)] 0 h K:=by
 obtain⟨cur,e,h1,h2,h3,h4,h5⟩:=b.ex
 have ea:((⟨g,0,none⟩:Addr).add j).add 0=⟨g,j,none⟩:=by rw[add_zero',IK]
 refine⟨⟨_,by rw[add_zero'];exact b.cell hj⟩,?_,?_⟩
 ·rw[ea]
  unfold FJ
  simp only[h1]
  rw[Bool.and_eq_false_iff]
  left
  exact decide_eq_false (by show¬cur.size<=j;omega)
 ·rw[ea]
  have jF:eE h ⟨g,j,none⟩ (.int .u8 (y.toNat:Int))=h.setIfInBounds g (.cells (cur.setIfInBounds j (.int .u8 (y.toNat:Int))) e (cur.size,cur.size+1)):=by
   unfold eE
   apply Array.ext_getElem?
   intro k
   rw[Array.getElem?_modify,Array.getElem?_setIfInBounds]
   by_cases hk:g=k
   ·subst hk
    rw[if_pos rfl,if_pos rfl,h1]
    have cR:g<h.size:=by
     rcases Nat.lt_or_ge g h.size with h2 | h2
     ·exact h2
     ·rw[Array.getElem?_eq_none h2] at h1;cases h1
    rw[if_pos cR]
    rfl
   ·rw[if_neg hk,if_neg hk]
  refine hk _ ⟨cur.setIfInBounds j (.int .u8 (y.toNat:Int)),e,?_,by simp[h2],by simp[h3],h4,fun k x hx=>?_⟩ ⟨by rw[jF];simp,fun k hk=>?_⟩ (by rw[jF];simp)
  ·rw[jF,Array.getElem?_setIfInBounds,if_pos rfl]
   have cR:g<h.size:=by
    rcases Nat.lt_or_ge g h.size with h2 | h2
    ·exact h2
    ·rw[Array.getElem?_eq_none h2] at h1;cases h1
   rw[if_pos cR]
   simp
  ·rw[Array.getElem?_setIfInBounds]
   rw[List.getElem?_set] at hx
   by_cases e2:j=k
   ·subst e2
    rw[if_pos rfl] at hx ⊢
    rw[if_pos hj] at hx
    rw[if_pos (by omega)]
    cases hx;rfl
   ·rw[if_neg e2] at hx ⊢
    exact h5 k x hx
  ·rw[jF,Array.getElem?_setIfInBounds,if_neg (fun e=>hk e.symm)]
end Go.Sh
namespace Go.Proofs
open Go Go.Sh
set_option linter.unusedVariables false
def ti (c:UInt8):UInt8:=if 65<=c.toNat/\c.toNat<=90 then c+32 else c
def oC (s:Bs):Bs:=s.map ti
theorem Jf:∀c:Fin 256,65<=c.val->c.val<=90->bits .or .u8 (c.val:Int) 32=((c.val+32:Nat):Int):=by decide+kernel
theorem M5 (c:UInt8):((ti c).toNat:Int)=if 65<=c.toNat/\c.toNat<=90 then bits .or .u8 (c.toNat:Int) 32 else(c.toNat:Int):=by
 unfold ti
 split
 ·rename_i hc
  have:=Jf ⟨c.toNat,c.toNat_lt⟩ hc.1 hc.2
  rw[this]
  have h2:(c+32).toNat=c.toNat+32:=by
   rw[UInt8.toNat_add]
   show(c.toNat+32) % 256=_
   exact Nat.mod_eq_of_lt (by omega)
  rw[h2]
 ·rfl
section
variable {h:H} {K:KV}
theorem Ea {c:UInt8} (hk:K (.int .u8 ((ti c).toNat:Int)) h):zC 212 [.int .u8 (c.toNat:Int)] h K:=by
 rw[M5] at hk
 refine Xal.ok _ _ _ (bf (fun h1=>bf (fun h2=>?_) fun h2=>?_) fun h1=>?_)
 ·rw[if_pos (by omega)] at hk;exact hk
 ·rw[if_neg (by omega)] at hk;exact hk
 ·rw[if_neg (by omega)] at hk;exact hk
theorem Eb {s:Bs} (hs:s.length<=100000000) (hk:∀h',KB h h'->K (S (oC s)) h'):zC 184 [S s] h K:=by
 refine Xak.ok _ _ _ (Gn Tryz.underlying9 Tryz.underlying176 Tryz.underlying5 (by simp only[maxLen];omega) fun c h1 B1 k1 s1=>aH ⟨s.length+1,?_⟩)
 have key:∀k i h2 s2,i+k=s.length->s2=(s.take i).map ti++s.drop i->vB h2 h.size c s2->KB h h2->h2.size=h.size+1->
   Xak.ia (fun M6 M7 M8 h=>Xak.n4 M6 M7 M8 (fun y2 h=>K (S y2) h) (fun y2 h=>K (S y2) h) h) (fun M6 M7 M8 h=>Xak.n4 M6 M7 M8 (fun y2 h=>K (S y2) h) (fun y2 h=>K (S y2) h) h) (fun y2 h=>K (S y2) h) (k+1) (some ⟨h.size,0,none⟩) s.length c (some ⟨h.size,0,none⟩) s.length c (s.length:Int) (i:Int) h2:=by
  intro k
  induction k with
  | zero=>
   intro i h2 s2 hi e2 B k2 z2
   have:s2=oC s:=by rw[e2,List.take_of_length_le (by omega),List.drop_of_length_le (by omega),List.append_nil];rfl
   subst this
   have hr:=B.row
   refine cg (by omega) ?_
   show aZ _ _ _ _
   have e3:(oC s).length=s.length:=List.length_map _
   rw[e3] at hr
   exact HV Tryz.underlying176 Tryz.underlying5 Tryz.underlying9 hr (Bn (hk h2 k2))
  | succ k ih=>
   intro i h2 s2 hi e2 B k2 z2
   have uo:s2.length=s.length:=by rw[e2,List.length_append,List.length_map,List.length_take,List.length_drop];omega
   have bQ:i<s2.length:=by omega
   have hc:=B.cell bQ
   have QH:s2[i]=s[i]'(by omega):=by
    have O7:((s.take i).map ti).length=i:=by rw[List.length_map,List.length_take];omega
    have h5:s2[i]? =s[i]? :=by
     rw[e2,List.getElem?_append_right (by omega),O7,Nat.sub_self,List.getElem?_drop,Nat.add_zero]
    rw[List.getElem?_eq_getElem bQ,List.getElem?_eq_getElem (by omega)] at h5
    exact Option.some.inj h5
   refine bK (by omega) ⟨⟨by omega,by omega⟩,aa ⟨_,?_,Ea (c:=s2[i]) (aO ⟨⟨by omega,by omega⟩,aa ?_⟩)⟩⟩
   ·rw[Int.toNat_natCast,Nat.mul_one];exact hc
   ·rw[Int.toNat_natCast,Nat.mul_one]
    refine B.st bQ fun h3 B3 k3 z3=>⟨⟨by show(-9223372036854775808:Int)<=_;omega,by show _<=(9223372036854775807:Int);omega⟩,ih (i+1) h3 _ (by omega) ?_ B3 (KB.step k2 k3 (Nat.le_refl _)) (by omega)⟩
    have O7:((s.take i).map ti).length=i:=by rw[List.length_map,List.length_take];omega
    rw[QH,e2,List.set_append_right _ _ (by omega),O7,Nat.sub_self]
    have hd:s.drop i=s[i]'(by omega)::s.drop (i+1):=List.drop_eq_getElem_cons (by omega)
    have ht:s.take (i+1)=s.take i++ [s[i]'(by omega)]:=by rw[List.take_add_one,List.getElem?_eq_getElem (by omega)];rfl
    rw[hd,ht,List.map_append,List.append_assoc]
    rfl
 exact key s.length 0 h1 s (by omega) (by simp) B1 k1 s1
end
def Gp:Bs:=[101,110,99,111,100,105,110,103]
def wTH:Bs:=[116,101,120,116,47,104,116,109,108]
def wXH:Bs:=[97,112,112,108,105,99,97,116,105,111,110,47,120,104,116,109,108,43,120,109,108]
def Gq:Bs:=[97,110,110,111,116,97,116,105,111,110,45,120,109,108]
def gx (a:bw):Bool:=decide (a.1=Gp)&&(decide (oC a.2=wTH)||decide (oC a.2=wXH))
def dr (sp:Int) (nm:Bs) (attrs:List bw):Int:=
 if sp=1/\ct 1 nm=true then 2
 else if¬(sp=2/\ct 2 nm=true) then 0
 else if nm≠Gq then 1
 else if attrs.any gx=true then 2 else 0
theorem xF (sp:Int) (nm:Bs) (attrs:List bw):bd .u8 (dr sp nm attrs):=by
 unfold dr
 repeat' split
 all_goals exact⟨by decide,by decide⟩
def rB (l:List bw):Prop:=∀a ∈ l,a.2.length<=100000000
section
variable {A:Nat->Prop} {h:H} {K:KV} {b:OA} {n c:Nat} {attrs:List bw} {sp tk:Int} {nm tx:Bs} {cl:Bool}
theorem Ec (m:ML h) (r:Row aY A h b n c attrs) (hv:rB attrs) (M9:nm.length<=1000000000) (hk:∀h',KB h h'->K (.int .u8 (dr sp nm attrs)) h'):
  zC 139 [.int .u8 sp,.agg ⟨[.int .u8 tk,S nm,.slice b n c,.bool cl,S tx]⟩] h K:=by
 have aan:nm.length<=9000000000000000000:=by omega
 refine JM.ok _ _ _ _ _ _ _ _ _ _ (af fun a h1 v1 k1 e1 s1=>?_)
 have m1:=m.kb k1
 have r1:=r.kb k1
 have hl:=r1.len
 have loop:(attrs.any gx=true->∀h',KB h h'->K (.int .u8 2) h')->(attrs.any gx=false->∀h',KB h h'->K (.int .u8 0) h')->
   JM.n3 a (fun y4 h=>K (.int .u8 y4) h) (fun y4 h=>K (.int .u8 y4) h) h1:=by
  intro hy hn
  refine⟨_,_,_,v1.cell 2 rfl,n+1,?_⟩
  have TZ:n<=maxLen:=Nat.le_trans r.cap r.max
  simp only[maxLen] at TZ
  have key:∀k i h2,i+k=n->(attrs.take i).any gx=false->KB h1 h2->
    JM.ia (fun h=>JM.n4 (fun y4 h=>K (.int .u8 y4) h) (fun y4 h=>K (.int .u8 y4) h) h) (fun h=>JM.n4 (fun y4 h=>K (.int .u8 y4) h) (fun y4 h=>K (.int .u8 y4) h) h) (fun y4 h=>K (.int .u8 y4) h) (k+1) b n c (n:Int) (i:Int) h2:=by
   intro k
   induction k with
   | zero=>
    intro i h2 hi dk k2
    refine cg (by omega) (hn ?_ h2 (k1.trans k2))
    rwa[List.take_of_length_le (by omega)] at dk
   | succ k ih=>
    intro i h2 hi dk k2
    have bQ:i<attrs.length:=by omega
    refine bK (by omega) ((r1.kb k2).bj (i:=i) bQ rfl fun q hA=>?_)
    have h3:=hA.fst.str
    have h4:=hA.snd.str
    refine⟨_,h3.1,_,h4.1,af fun a3 h3 v3 k3 e3 s3=>aQ v3 (by show 2<=2;omega) fun h4 v4 k4 s4=>⟨_,v4.cell 1 rfl,?_⟩⟩
    have k2s:=k2.1
    have nU:KB h1 h4:=KB.step (k2.trans k3) k4 (by omega)
    ·refine Eb (hv _ (List.getElem_mem bQ)) fun h5 k5=>Bn ⟨_,(v4.kb k5).dA rfl,?_⟩
     have GX:=nU.trans k5
     have jF:(attrs.take (i+1)).any gx=gx attrs[i]:=by
      rw[List.take_add_one,List.getElem?_eq_getElem bQ,List.any_append,dk]
      simp
     have next:gx attrs[i]=false->bd .i64 ((i:Int)+1)/\JM.ia (fun h=>JM.n4 (fun y4 h=>K (.int .u8 y4) h) (fun y4 h=>K (.int .u8 y4) h) h) (fun h=>JM.n4 (fun y4 h=>K (.int .u8 y4) h) (fun y4 h=>K (.int .u8 y4) h) h) (fun y4 h=>K (.int .u8 y4) h) (k+1) b n c (n:Int) ((i:Int)+1) h5:=fun he=>
      ⟨aF (by omega) (by omega),ih (i+1) h5 (by omega) (by rw[jF];exact he) GX⟩
     have yes:gx attrs[i]=true->K (.int .u8 2) h5:=fun he=>hy (List.any_eq_true.2 ⟨_,List.getElem_mem bQ,he⟩) h5 (k1.trans GX)
     refine bf (fun e1=>bf (fun e2=>yes ?_) fun e2=>bf (fun e3=>yes ?_) fun e3=>next ?_) fun e1=>next ?_
     ·unfold gx
      rw[decide_eq_true (show attrs[i].1=Gp from e1),decide_eq_true (show oC attrs[i].2=wTH from e2)];rfl
     ·unfold gx
      rw[decide_eq_true (show attrs[i].1=Gp from e1),decide_eq_true (show oC attrs[i].2=wXH from e3),Bool.or_true];rfl
     ·unfold gx
      rw[decide_eq_false (show¬oC attrs[i].2=wTH from e2),decide_eq_false (show¬oC attrs[i].2=wXH from e3)];simp
     ·unfold gx
      rw[decide_eq_false (show¬attrs[i].1=Gp from e1)];rfl
  exact key n 0 h1 (by omega) rfl (KB.refl _)
 have XQ:¬(sp=1/\ct 1 nm=true)->JM.ui sp a (fun z3 h=>JM.n3 z3 (fun y4 h=>K (.int .u8 y4) h) (fun y4 h=>K (.int .u8 y4) h) h) (fun z3 h=>JM.n3 z3 (fun y4 h=>K (.int .u8 y4) h) (fun y4 h=>K (.int .u8 y4) h) h) (fun y4 h=>K (.int .u8 y4) h) h1:=by
  intro dk
  have hz:¬(sp=2/\ct 2 nm=true)->K (.int .u8 0) h1:=fun h2=>by
   have:=hk h1 k1
   unfold dr at this
   rwa[if_neg dk,if_pos h2] at this
  refine bf (fun e2=>⟨_,v1.cell 1 rfl,fJ m1 aan (ag (aR (fun eb=>aC ?_) fun eb=>aD (hz fun h2=>?_)))⟩) fun e2=>aD (hz fun h2=>e2 h2.1)
  ·refine⟨_,v1.cell 1 rfl,bf (fun e3=>?_) fun e3=>?_⟩
   ·refine loop (fun he h' k'=>?_) fun he h' k'=>?_
    ·have:=hk h' k'
     unfold dr at this
     rw[if_neg dk,if_neg (fun h=>h ⟨e2,by rw[<-e2];exact eb⟩),if_neg (fun h=>h e3),if_pos he] at this
     exact this
    ·have:=hk h' k'
     unfold dr at this
     rw[if_neg dk,if_neg (fun h=>h ⟨e2,by rw[<-e2];exact eb⟩),if_neg (fun h=>h e3),if_neg (by rw[he];decide)] at this
     exact this
   ·have:=hk h1 k1
    unfold dr at this
    rw[if_neg dk,if_neg (fun h=>h ⟨e2,by rw[<-e2];exact eb⟩),if_pos (show nm≠Gq from e3)] at this
    exact this
  ·rw[<-e2,eb] at h2;exact absurd h2.2 (by decide)
 refine bf (fun e2=>⟨_,v1.cell 1 rfl,fJ m1 aan (ag (aR (fun eb=>aD ?_) fun eb=>aC (XQ fun h2=>?_)))⟩) fun e2=>aC (XQ fun h2=>e2 h2.1)
 ·have:=hk h1 k1
  unfold dr at this
  rw[if_pos ⟨e2,by rw[<-e2];exact eb⟩] at this
  exact this
 ·rw[<-e2,eb] at h2;exact absurd h2.2 (by decide)
end
def sx:Bs:=[104,116,109,108]
def EP:WM:=⟨[mH],[(0,0,sx,0)],[],false,1⟩
def cS (m:WM):Int × Int:=cy m.ns m.op m.fo (dP m.op)
noncomputable def bs (m:WM) (sp:Int) (nm:Bs) (attrs:List bw):WM:=
 {m with ns:=(cV (bE m.ns (bF 1 sp nm attrs [])).1 (cS m).1 (cS m).2 m.ns.length).1,op:=m.op++ [((m.ns.length:Int),sp,nm,dr sp nm attrs)],hi:=if((m.op.length+1:Nat):Int)>m.hi then((m.op.length+1:Nat):Int) else m.hi}
noncomputable def fW (m:WM) (tx:Bs):WM:={m with ns:=(cD m.ns (cS m).1 (cS m).2 tx).1}
def cZ (m:WM) (n:Int):WM:={m with op:=gW m.op n}
def PS (s:Nat):Prop:=s=0∨s=2
structure PW (h:H) (col:bY) (w:Addr) (m:WM):Prop where
 ex:∃t cp,bz h col 0 t cp m.ns/\bq h col 2 42 w t m.op m.aE m.fo m.hi
section
variable {Z:Nat->Prop} {h h':H} {K:KV} {col col':bY} {w:Addr} {m:WM}
theorem PW.fresh (p:PW h col w m):bh h col:=by obtain⟨t,cp,T,W⟩:=p.ex;exact T.fresh
theorem PW.ext (p:PW h col w m) (e:al Z h col h' col') (h0:¬Z 0) (h2:¬Z 2) (f:bh h' col'):PW h' col' w m:=by
 obtain⟨t,cp,T,W⟩:=p.ex
 exact⟨t,cp,T.cf h0 e f,W.ext e h2⟩
theorem PW.kb (p:PW h col w m) (k:KB h h'):PW h' col w m:=p.ext (Z:=fun _=>False) (.kb k) id id (p.fresh.kb k)
theorem PW.mQ (p:PW h col w m):m.ns.length<=1000000:=by obtain⟨t,cp,T,W⟩:=p.ex;exact T.mQ
theorem YQ {A:Nat->Prop} {h:H} {x:aP} (w:gG x):bo.R A h x (aW x):=w.r
theorem ko:Flat bo:=fun A A' h h' x cs hR=>by
 obtain⟨c1,c2,e,r1,d1,d2,e2,r2,f1,f2,e3,r3,r4⟩:=hR
 exact⟨c1,c2,e,r1,d1,d2,e2,r2,f1,f2,e3,r3,r4⟩
theorem wG (f:bh h col) (hk:∀w h' col',PW h' col' w EP->al PS h col h' col'->K (.pointer (some w)) h'):zC 33 [] h K:=by
 refine Xc7.ok _ _ (IM (s:=0) f fun t h1 c1 cp T1 E1=>cL (af fun a2 h2 v2 k2 e2 s2=>af fun a3 h3 v3 k3 e3 s3=>?_))
 have ow:gG (0,0,sx,0):=⟨⟨by decide,by decide⟩,⟨by decide,by decide⟩,by decide,⟨by decide,by decide⟩⟩
 have o2:=v2.Hi (E:=bo) (x:=(0,0,sx,0)) fun A=>ow.r
 have f1:bh h1 c1:=T1.fresh
 have f3:=(f1.kb k2).kb k3
 have h3s:h3.size=h1.size+2:=by omega
 have hc:∀k,k<h1.size->cr (cr c1 a2.block (2,1)) a3.block (2,0) k=c1 k:=fun k hk=>by rw[dG (by omega),dG (by omega)]
 have ff:bh h3 (cr (cr c1 a2.block (2,1)) a3.block (2,0)):=(f3.cr (by omega)).cr (by omega)
 refine hk a3 h3 (cr (cr c1 a2.block (2,1)) a3.block (2,0)) ⟨t,cp,T1.keep (k2.trans k3).w hc ff fun k hk _=>hk,⟨⟨some a2,1,none,0,0,v3,?_,du.none⟩,fX,⟨by decide,by decide⟩⟩⟩ ?_
 ·refine⟨((o2.kb k3).own.flat ko).lower (Nat.le_refl _),fun q e=>?_,fun q e=>?_,fun e=>by cases e⟩
  ·cases e;rw[dG (by omega)];exact fX
  ·cases e;omega
 ·exact(E1.p (.inl rfl)).trans ⟨(k2.trans k3).less fun k hk=>hk.1,hc⟩
theorem jm {x:aP} {k:Int->Int->Bs->Int->Prop} (h:k x.1 x.2.1 x.2.2.1 x.2.2.2):
  kV (.agg ⟨aW x⟩) fun l=>aG l fun e l=>aL .i64 e fun i=>aG l fun e l=>aL .u8 e fun j=>aG l fun e l=>gL e fun s=>aG l fun e l=>aL .u8 e fun p=>cW l (k i j s p):=h
theorem Na:oH Tryz.prog bo 39 77 40:=iu
theorem xG {s wt:Nat} {t:Addr} {op:List aP} {mk:List aS} {fo:Bool} {hi:Int} (W:bq h col s wt w t op mk fo hi) (hf:bh h col) (hl:op.length<1000000) {x:aP} (hx:gG x)
  {ob:OA} {on oc:Nat} {mb:OA} {mn mc:Nat} (v:Var h w wt [.pointer (some t),.slice ob on oc,.slice mb mn mc,.bool fo,.int .i64 hi])
  {a:Addr} {ty:Nat} (va:Var h a ty (aW x)) (hca:col a.block=none) {Q:H->Prop}
  (hk:∀h' col',bq h' col' s wt w t (op++ [x]) mk fo (if((op.length+1:Nat):Int)>hi then((op.length+1:Nat):Int) else hi)->al (fun k=>k=s) h col h' col'->bh h' col'->cell h' (w.add 2)=some (.slice mb mn mc)->Q h'):
  aZ Tryz.prog (Builtin.append_ #[39,39] 39 ⟨[.slice ob on oc,.slice (some a) 1 1]⟩) h fun v143 Vx=>aB v143 fun aap aaq aar=>ae (some w) fun a146=>bc (a146.add 1) [(.slice aap aaq aar)] 0 Vx fun Ed=>ae (some w) fun a148=>∃i149,cell Ed (a148.add 4)=some (.int .i64 i149)/\(ae (some w) fun Vy=>∃aas Nb aat,cell Ed (Vy.add 1)=some (.slice aas Nb aat)/\(ae (some w) fun a152=>bc (a152.add 4) [(.int .i64 (if(Nb:Int)>i149 then(Nb:Int) else i149))] 0 Ed fun Vz=>Q Vz)):=by
 obtain⟨X8,X9,Ya,Yb,Yc,v2,o,om⟩:=W.ex
 have ec:some (Value.slice ob on oc)=some (.slice X8 op.length X9):=(v.cell 1 rfl).symm.trans (v2.cell 1 rfl)
 have em:some (Value.slice mb mn mc)=some (.slice Ya Yb Yc):=(v.cell 2 rfl).symm.trans (v2.cell 2 rfl)
 cases ec
 cases em
 have r1:Row bo (bT col h) h (some a) 1 1 [x]:=va.wJ hx.r ⟨hca,va.lt⟩
 refine o.append Na r1 (by simp only[maxLen];omega) (by omega) hf fun b' c' h1 o1 g1 nb f1=>aH ?_
 have YH:∀q,ob=some q->q.block≠w.block:=fun q e e2=>by have:=o.col q e;rw[e2,W.col] at this;cases this
 have vk:Var h1 w wt [.pointer (some t),.slice ob op.length oc,.slice mb mn mc,.bool fo,.int .i64 hi]:=v.keep g1.keep.w ⟨v.lt,fun q e=>YH q e⟩
 have E1:al (fun k=>k=s) h col h1 (cz col h b' (s,1)):=al.grow g1 o.col rfl
 have zz:cz col h b' (s,1) w.block=some (s,0):=by rw[eJ v.lt];exact W.col
 refine aa (cv (m:=1) (i:=0) vk (by show 1+0+1<=5;omega) fun h2 v2 k2 s2=>aa ⟨_,v2.cell 4 rfl,aa ⟨_,_,_,v2.cell 1 rfl,aa (cv (m:=4) (i:=0) v2 (by show 4+0+1<=5;omega) fun h3 v3 k3 s3=>?_)⟩⟩)
 have Nc:KX w.block h1 h3:=k2.trans k3
 have E3:al (fun k=>k=s) h1 (cz col h b' (s,1)) h3 (cz col h b' (s,1)):=al.kx Nc zz rfl
 have bL:∀k,k<h1.size->(cz col h b' (s,1) k=none∨∃p,p≠0/\cz col h b' (s,1) k=some (s,p))->k≠w.block:=fun k hk hc e=>by
  subst e
  rcases hc with hc | ⟨p,hp,hc⟩
  ·rw[zz] at hc;cases hc
  ·rw[zz] at hc;cases hc;exact hp rfl
 have o3:=o1.keep (h':=h3) (col':=cz col h b' (s,1)) Nc.w (fun _ _=>rfl) fun k hk hc=>bL k hk (hc.imp id fun h=>⟨1,by decide,h⟩)
 have om1:du aX h1 (cz col h b' (s,1)) (s,2) 79 mb mn mc mk:=om.keep g1.keep.w E1.cl fun k hk hc=>⟨hk,fun q e e2=>by
  have h5:=o.col q e
  rw[e2] at h5
  rcases hc with hc | hc
  ·rw[h5] at hc;cases hc
  ·rw[h5] at hc;cases hc⟩
 have Az:=om1.keep (h':=h3) (col':=cz col h b' (s,1)) Nc.w (fun _ _=>rfl) fun k hk hc=>bL k hk (hc.imp id fun h=>⟨2,by decide,h⟩)
 have hrh:=W.rh
 have hlen:(op++ [x]).length=op.length+1:=by simp
 refine hk h3 _ ⟨⟨b',c',mb,mn,mc,?_,?_,Az⟩,zz,?_⟩ (E1.trans E3) (fun k hk=>f1 k (by rw[<-s2,<-s3];exact hk)) (v3.cell 2 rfl)
 ·rw[hlen];exact v3
 ·rw[hlen];exact o3
 ·split
  ·exact aF (by omega) (by omega)
  ·exact hrh
theorem qY (L:kS h col) (p:PW h col w m) (G:aV m.ns) (bL:0<m.op.length) (eD:m.op.length<1000000) (AB:m.ns.length<1000000) {ab:OA} {an ac:Nat} {attrs:List bw} {sp tk:Int} {nm tx:Bs} {cl:Bool}
  (r:Row aY (bT col h) h ab an ac attrs) (hz:ab=none->ac=0) (JI:an<=1000000) (hv:rB attrs) (hsp:bd .u8 sp) (pP:bd .u8 tk) (M9:nm.length<=1000000000)
  (hk:∀h' col',PW h' col' w (bs m sp nm attrs)->al PS h col h' col'->(∀v,cell h (w.add 2)=some v->cell h' (w.add 2)=some v)->K (.int .i64 m.ns.length) h'):
  zC 64 [.pointer (some w),.int .u8 sp,.agg ⟨[.int .u8 tk,S nm,.slice ab an ac,.bool cl,S tx]⟩] h K:=by
 obtain⟨t,cp,T,W⟩:=p.ex
 have Pp:nm.length<=maxLen:=by simp only[maxLen];omega
 refine Xdc.ok _ _ _ _ _ _ _ _ _ _ _ (af fun a1 h1 v1 k1 e1 s1=>?_)
 refine eN (W.kb k1) bL (by omega) fun h2 k2=>?_
 refine jm (x:=dP m.op) ?_
 refine lr (x:=dP m.op) (T.kb (k1.trans k2)) (W.kb (k1.trans k2)) (by omega) fun h3 k3=>lk ?_
 have gi:=(k1.trans k2).trans k3
 obtain⟨ob,oc,mb,mn,mc,vw,ow,Yo⟩:=(W.kb gi).ex
 have v3:=v1.kb (k2.trans k3)
 refine aa ⟨_,vw.cell 0 rfl,_,v3.cell 1 rfl,_,_,_,v3.cell 2 rfl,?_⟩
 refine j9 (T.kb gi) (r.kb gi) hz JI ⟨by decide,by decide⟩ hsp Pp (by decide) AB fun h4 c4 su T4 E4=>aO ?_
 have Cv:al (fun s=>s=0) h3 col h4 c4:=E4.p rfl
 have W4:=(W.kb gi).ext Cv (by decide)
 obtain⟨OS,OT,Th,Ks,Kt,yE,ow4,agE⟩:=W4.ex
 have G4:aV (bE m.ns (bF 1 sp nm attrs [])).1:=G.bE _ _ _ _ _
 refine aa ⟨_,yE.cell 0 rfl,?_⟩
 refine pM T4 G4 fun h5 c5 T5 E5=>ag ?_
 have Kv:al (fun s=>s=0) h4 c4 h5 c5:=E5.p rfl
 have QI:=Cv.trans Kv
 have W5:=W4.ext Kv (by decide)
 obtain⟨Xu,oc5,Ym,Xv,Yn,B4,ow5,agG⟩:=W5.ex
 have f3:bh h3 col:=p.fresh.kb gi
 have hca:col a1.block=none:=p.fresh _ (by omega)
 have v5:Var h5 a1 45 [.int .u8 tk,S nm,.slice ab an ac,.bool cl,S tx]:=v3.keep QI.eR ⟨hca,v3.lt⟩
 have r5:Row aY (bT c5 h5) h5 ab an ac attrs:=QI.row ((r.kb gi).keep (bZ.refl (fun _=>True) _ |>.less fun _ _=>trivial) fun k hk _=>bT.kb gi hk)
 have L5:kS h5 c5:=(L.kb gi).ext QI
 have hw:(cy m.ns m.op m.fo (dP m.op))=cS m:=rfl
 have e2:(bE m.ns (bF 1 sp nm attrs [])).2=(m.ns.length:Int):=rfl
 have tail:Xdc.n5 (some w) sp a1 (bE m.ns (bF 1 sp nm attrs [])).2 (fun y6 h=>K (.int .i64 y6) h) (fun y6 h=>K (.int .i64 y6) h) h5:=by
  refine aa ⟨_,_,_,B4.cell 1 rfl,_,v5.cell 1 rfl,_,v5.cell 0 rfl,_,v5.cell 1 rfl,_,_,_,v5.cell 2 rfl,_,v5.cell 3 rfl,_,v5.cell 4 rfl,?_⟩
  refine Ec L5.ml r5 hv M9 fun h6 k6=>aO ⟨k6.ext,af fun a7 h7 v7 k7 e7 s7=>⟨k7.ext,?_⟩⟩
  have HW:=k6.trans k7
  have hxo:gG ((m.ns.length:Int),sp,nm,dr sp nm attrs):=⟨aF (by omega) (by omega),hsp,Pp,xF _ _ _⟩
  have f5:bh h5 c5:=T5.fresh
  refine xG (x:=((m.ns.length:Int),sp,nm,dr sp nm attrs)) (W5.kb HW) (f5.kb HW) eD hxo (B4.kb HW) v7 (f5 _ (by have:=k6.1;omega)) fun h8 c8 W8 E8 f8 m8=>?_
  have E3:al PS h col h3 col:=.kb gi
  refine hk h8 c8 ⟨t,su,(T5.kb HW).cf (S:=fun k=>k=2) (by decide) E8 f8,W8⟩ (((E3.trans (QI.mono fun s hs=>.inl hs)).trans (.kb HW)).trans (E8.mono fun s hs=>.inr hs)) fun v hv=>?_
  have hwl:w.block<h.size:=by have:=fP hv;rwa[br] at this
  have h3v:cell h3 (w.add 2)=some v:=(KB.w gi).cell (by rw[br];exact hwl) hv
  have h5v:cell h5 (w.add 2)=some v:=QI.sk.w.cell ⟨by rw[br];exact Nat.lt_of_lt_of_le hwl gi.1,fun s p hs e2=>by
   rw[br,W.col] at e2
   cases e2
   exact absurd hs (by decide)⟩ h3v
  rw[B4.cell 2 rfl] at h5v
  rw[m8];exact h5v
 exact dm (K:=fun _=>Xdc.n5 (some w) sp a1 (bE m.ns (bF 1 sp nm attrs [])).2 (fun y6 h=>K (.int .i64 y6) h) (fun y6 h=>K (.int .i64 y6) h) h5) tail
theorem sr (L:kS h col) (p:PW h col w m) (G:aV m.ns) (bL:0<m.op.length) (eD:m.op.length<1000000) (AB:m.ns.length<1000000) {ab:OA} {an ac:Nat} {attrs:List bw} {sp tk:Int} {nm tx:Bs} {cl:Bool}
  (r:Row aY (bT col h) h ab an ac attrs) (hz:ab=none->ac=0) (JI:an<=1000000) (hv:rB attrs) (hsp:bd .u8 sp) (pP:bd .u8 tk) (M9:nm.length<=1000000000)
  (hk:∀h' col',PW h' col' w (bs m sp nm attrs)->al PS h col h' col'->K (.int .i64 m.ns.length) h'):
  zC 64 [.pointer (some w),.int .u8 sp,.agg ⟨[.int .u8 tk,S nm,.slice ab an ac,.bool cl,S tx]⟩] h K:=
 qY L p G bL eD AB r hz JI hv hsp pP M9 fun h' col' p' E' _=>hk h' col' p' E'
theorem AL (p:PW h col w m) (G:aV m.ns) (bL:0<m.op.length) (eD:m.op.length<1000000) (AB:m.ns.length<1000000) {tx:Bs} (hlen:∀(i:Nat) x,m.ns[i]? =some x->x.text.length+tx.length<=9223372036854775807) (Fb:tx.length<=maxLen)
  (hk:∀h' col',PW h' col' w (fW m tx)->al PS h col h' col'->K (.tuple ⟨[]⟩) h'):
  zC 36 [.pointer (some w),S tx] h K:=by
 obtain⟨t,cp,T,W⟩:=p.ex
 refine Xdg.ok _ _ _ _ ?_
 refine eN W bL (by omega) fun h2 k2=>?_
 refine jm (x:=dP m.op) ?_
 refine lr (x:=dP m.op) (T.kb k2) (W.kb k2) (by omega) fun h3 k3=>lk ?_
 have gi:=k2.trans k3
 obtain⟨ob,oc,mb,mn,mc,vw,ow,Yo⟩:=(W.kb gi).ex
 refine aa ⟨_,vw.cell 0 rfl,?_⟩
 refine CY (T.kb gi) G hlen Fb AB fun h4 c4 su T4 E4=>ag ?_
 have Cv:al (fun s=>s=0) h3 col h4 c4:=E4.p rfl
 have W4:=(W.kb gi).ext Cv (by decide)
 have tail:K (.tuple ⟨[]⟩) h4:=hk h4 c4 ⟨t,su,T4,W4⟩ ((al.kb gi).trans (Cv.mono fun s hs=>.inl hs))
 exact dm (K:=fun _=>K (.tuple ⟨[]⟩) h4) tail
theorem np (p:PW h col w m) {n:Int} (hk:∀h' col',PW h' col' w (cZ m n)->al PS h col h' col'->K (.tuple ⟨[]⟩) h'):zC 57 [.pointer (some w),.int .i64 n] h K:=by
 obtain⟨t,cp,T,W⟩:=p.ex
 exact D9 W p.fresh fun h' W' E' f'=>hk h' col ⟨t,cp,T.cf (S:=fun k=>k=2) (by decide) E' f',W'⟩ (E'.mono fun s hs=>.inr hs)
end
end Go.Proofs
