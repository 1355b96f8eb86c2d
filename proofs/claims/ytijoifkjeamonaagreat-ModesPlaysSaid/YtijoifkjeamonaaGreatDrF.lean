import Derived.Test.YtijoifkjeamonaaGreatHc
import Derived.Test.YtijoifkjeamonaaGreatPcM
import Derived.Test.YtijoifkjeamonaaGreatOpA
import Derived.Test.YtijoifkjeamonaaGreatTxD
namespace Go.Proofs
open Go Go.Sh
set_option linter.unusedVariables false
set_option maxRecDepth 100000
abbrev noMark:aS:=(0,[],[])
theorem iT (l:List aS) (o:List aP):∀i:Nat,0<=jA l o i/\jA l o i<=(i:Int)
 | 0=>⟨Int.le_refl _,Int.le_refl _⟩
 | i+1=>by
  unfold jA
  have:=iT l o i
  split
  ·omega
  ·omega
noncomputable def wX:Nat->WM->Nat->WM
 | 0,m,_=>m
 | k+1,m,i=>wX k {bt m 0 (m.aD.getD i noMark).2.1 (m.aD.getD i noMark).2.2 with aD:=m.aD.set i ((m.ns.length:Int),(m.aD.getD i noMark).2)} (i+1)
noncomputable def aU (m:WM):WM:=wX (m.aD.length - (gE m.aD m.op).toNat) m (gE m.aD m.op).toNat
def pP (l:List aS):Prop:=∀x ∈ l,x.2.1.length<=1000000000/\x.2.2.length<=1000000/\rH x.2.2
theorem pP.set {l:List aS} (w:pP l) {i:Nat} (hi:i<l.length) (id:Int):pP (l.set i (id,l[i].2)):=fun x hx=>by
 rcases List.mem_or_eq_of_mem_set hx with h | h
 ·exact w x h
 ·rw[h];exact w l[i] (List.getElem_mem hi)
def bu (op:List aP) (id:Int):List aP:=if 0<cK op (fun x=>decide (x.1=id)) then op.eraseIdx (cK op fun x=>decide (x.1=id)).toNat else op
def gC (m:WM) (id:Int):WM:={m with op:=bu m.op id}
theorem lH {α:Type} {l:List α} {p:α->Bool}:cK l p<l.length/\ -1<=cK l p:=by
 unfold cK
 cases h:l.findIdx? p with
 | none=>exact⟨by show(-1:Int)<_;omega,Int.le_refl _⟩
 | some i=>
  obtain⟨hi,_⟩:=List.findIdx?_eq_some_iff_getElem.1 h
  exact⟨by show(i:Int)<_;omega,by show(-1:Int)<=(i:Int);omega⟩
section
variable {A:Nat->Prop} {h:H} {K:KV} {col:cd} {w:Addr} {m:WM} {b:OA} {n c:Nat}
theorem wS (L:kt h col) (p:PW h col w m) (G:aV m.ns) (bI:0<m.op.length) (eH:m.op.length+m.aD.length<1000000) (AA:m.ns.length+m.aD.length<1000000) (hm:pP m.aD)
  (hk:∀h' col',PW h' col' w (aU m)->al PS h col h' col'->K (.tuple ⟨[]⟩) h'):
  zC 40 [.pointer (some w)] h K:=by
 obtain⟨t,ct,T,W⟩:=p.ex
 obtain⟨ob,oc,mb,mn,mc,v,o,om⟩:=W.ex
 have jn:=om.len
 have MN:=iT m.aD m.op m.aD.length
 have YN:0<=gE m.aD m.op:=MN.1
 have Ro:gE m.aD m.op<=(m.aD.length:Int):=MN.2
 obtain⟨f,hf⟩:=Int.eq_ofNat_of_zero_le YN
 have It:(gE m.aD m.op).toNat=f:=by rw[hf];rfl
 refine Xde.ok _ _ _ (aa ⟨_,_,_,v.cell 2 rfl,aa ⟨_,_,_,v.cell 1 rfl,Gc (fun k hk=>hk) om.row o.row fun h1 k1=>aN ?_⟩⟩)
 rw[hf]
 obtain⟨xs,he,hc,_⟩:=(om.kb k1).parts
 have hcap:=om.cap
 refine aa ⟨_,_,_,(v.kb k1).cell 2 rfl,fw (fun k hk=>hk.2) he hc jn hcap.1 om.nil (by omega) fun b' c' h2 o2 k2=>aC (aa (dZ (W.kb k1) (p.fresh.kb k1) k2 o2 fun h3 W3 E3 f3 B7=>?_))⟩
 have Sg:=o2.own.cap
 have ni:al PS h col h3 (cw col h1 b' (2,2)):=(al.kb k1).trans (E3.mono fun s hs=>.inr hs)
 have p3:PW h3 (cw col h1 b' (2,2)) w m:=⟨t,ct,(T.kb k1).cJ (S:=fun k=>k=2) (by decide) E3 f3,W3⟩
 have hrw:wX (m.aD.length - f) m f=aU m:=by unfold aU;rw[It]
 refine aa ⟨_,_,_,B7,⟨by omega,by omega,by omega⟩,?_⟩
 have e28:Int.toNat (mn:Int) - Int.toNat (f:Int)=m.aD.length - f:=by rw[jn];rfl
 rw[e28]
 refine⟨m.aD.length - f+1,?_⟩
 have key:∀k j (mj:WM) hj cj,j+k=m.aD.length - f->PW hj cj w mj->aV mj.ns->mj.op.length=m.op.length+j->mj.ns.length=m.ns.length+j->mj.aD.length=m.aD.length->pP mj.aD->wX k mj (f+j)=aU m->al PS h col hj cj->
   cell hj (w.add 2)=some (.slice b' mn c')->
   Xde.MO (fun h=>K (.tuple ⟨[]⟩) h) (fun h=>K (.tuple ⟨[]⟩) h) (fun h=>K (.tuple ⟨[]⟩) h) (k+1) (some w) (f:Int) ((m.aD.length - f:Nat):Int) (j:Int) hj:=by
  intro k
  induction k with
  | zero=>
   intro j mj hj cj hjk pj Gj lo ln lm U8 hr Ej hcj
   refine bX (by omega) ?_
   have hr:mj=aU m:=hr
   exact hk hj cj (by rw[<-hr];exact pj) Ej
  | succ k ih=>
   intro j mj hj cj hjk pj Gj lo ln lm U8 hr Ej hcj
   have tG:f+j<mj.aD.length:=by omega
   have ej:((f:Int)+(j:Int))=((f+j:Nat):Int):=rfl
   obtain⟨tj,adsj,Tj,Wj⟩:=pj.ex
   obtain⟨obj,ocj,mbj,mnj,mcj,vj,oj,Xo⟩:=Wj.ex
   have ec:some (Value.slice mbj mnj mcj)=some (.slice b' mn c'):=(vj.cell 2 rfl).symm.trans hcj
   cases ec
   obtain⟨xsj,PH,U9,_⟩:=Xo.parts
   obtain⟨a,b2,n2,c2,eb,m0,m1,m2,mR⟩:=kz PH U9 tG
   subst eb
   have hw:=U8 mj.aD[f+j] (List.getElem_mem tG)
   have yo:=mR.inv
   have vQ:=yo.1.len
   refine bQ (by omega) (aa ⟨_,_,_,hcj,?_⟩)
   rw[ej]
   refine⟨aG (by omega) (by omega),⟨by omega,by omega⟩,aa ?_⟩
   rw[Int.toNat_natCast]
   refine⟨_,m1,_,_,_,m2,?_⟩
   refine rj (L.ext Ej) pj Gj (by omega) (by omega) (by omega) yo.1 yo.2.1 (by omega) hw.2.2 ⟨by decide,by decide⟩ ⟨by decide,by decide⟩ hw.1 fun h5 c5 p5 E5 m5=>aN ?_
   obtain⟨t5,afL,T5,W5⟩:=p5.ex
   have Jy:=m5 _ hcj
   refine pw W5 p5.fresh Jy (i:=f+j) tG (aG (by omega) (by omega)) fun h6 W6 E6 f6 hc6=>⟨aG (by omega) (by omega),?_⟩
   have hg:mj.aD.getD (f+j) noMark=mj.aD[f+j]:=aJ tG
   have hr:wX k {bt mj 0 (mj.aD.getD (f+j) noMark).2.1 (mj.aD.getD (f+j) noMark).2.2 with aD:=mj.aD.set (f+j) ((mj.ns.length:Int),(mj.aD.getD (f+j) noMark).2)} (f+j+1)=aU m:=hr
   rw[hg] at hr
   have:=ih (j+1) {bt mj 0 mj.aD[f+j].2.1 mj.aD[f+j].2.2 with aD:=mj.aD.set (f+j) ((mj.ns.length:Int),mj.aD[f+j].2)} h6 c5 (by omega) ⟨t5,afL,T5.cJ (S:=fun k=>k=2) (by decide) E6 f6,W6⟩
    (pQ Gj) (by show(mj.op++ [_]).length=_;rw[List.length_append];show mj.op.length+1=_;omega) (by rw[ic Gj];omega) (by show(mj.aD.set _ _).length=_;rw[List.length_set];exact lm) (U8.set tG _) hr ((Ej.trans E5).trans (E6.mono fun s hs=>.inr hs)) hc6
   exact this
 exact key (m.aD.length - f) 0 m h3 _ (by omega) p3 G rfl rfl rfl hm hrw ni B7
theorem yW {base i:Nat} {l:List aP} (o:bN bp vm h base 77 b n c l) (hi:i<n) (hk:∀h',bN bp vm h' base 77 b (n - 1) c (l.eraseIdx i)->dW h h' b->K (.slice b (n - 1) c) h'):
  zC 195 [.slice b n c,.int .i64 (i:Int),.int .i64 ((i+1:Nat):Int)] h K:=by
 have hcap:=o.own.cap
 refine Xf8.ok _ _ _ _ _ _ _ ⟨⟨by omega,by omega,by omega,by omega⟩,bX (by omega) ⟨⟨by omega,by omega,by omega⟩,⟨by omega,by omega,by omega⟩,?_⟩⟩
 have e0:(if c=Int.toNat (0:Int) then b else Option.map (fun q=>q.add (Int.toNat (0:Int)*4)) b)=b:=by
  split
  ·rfl
  ·cases b with
   | none=>rfl
   | some q=>rfl
 rw[e0]
 exact Dm iz (by kernel_rfl) o (fun k hk=>hk.elim) hi (K:=fun sb sn sc h=>K (.slice sb sn sc) h) fun h' o' g' _=>hk h' o' g'
theorem lI (p:PW h col w m) {id:Int} (hl:m.op.length<1000000) (hk:∀h' col',PW h' col' w (gC m id)->al PS h col h' col'->(0<cK m.op (fun x=>decide (x.1=id))->∃b c,cell h' (w.add 1)=some (.slice b (bu m.op id).length c)/\(bu m.op id).length+1<=c)->K (.tuple ⟨[]⟩) h'):
  zC 155 [.pointer (some w),.int .i64 id] h K:=by
 obtain⟨t,ct,T,W⟩:=p.ex
 obtain⟨ob,oc,mb,mn,mc,v,o,om⟩:=W.ex
 refine Xda.ok _ _ _ _ (af fun a1 h1 v1 k1 e1 s1=>aa ⟨_,_,_,(v.kb k1).cell 1 rfl,?_⟩)
 refine dI (p:=fun x=>decide (x.1=id)) (o.kb k1).row (fun x h2 next hx k2 hR hn=>?_) fun h2 k2=>aN ?_
 ·have e:fT Tryz.prog 4 (.func (.func 194) ⟨[]⟩ ⟨[.pointer (some a1)]⟩) ⟨[.agg ⟨[.int .i64 x.1,.int .u8 x.2.1,S x.2.2.1,.int .u8 x.2.2.2]⟩]⟩ h2 next=
    zC 194 [.agg ⟨[.int .i64 x.1,.int .u8 x.2.1,S x.2.2.1,.int .u8 x.2.2.2]⟩,.pointer (some a1)] h2 fun v h'=>au v fun b=>cond b (next (.bool true) h') (next (.bool false) h'):=by kernel_rfl
  rw[e]
  refine Xdb.ok _ _ _ _ _ _ _ (af fun a8 h8 v8 k8 e8 _=>⟨_,v8.cell 0 rfl,_,((v1.kb k2).kb k8).dy rfl,?_⟩)
  have:=hn h8 k8
  refine bh (fun e=>?_) fun e=>?_
  ·rw[decide_eq_true e] at this;exact this
  ·rw[decide_eq_false e] at this;exact this
 ·have gI:=k1.trans k2
  have cP:=lH (l:=m.op) (p:=fun x=>decide (x.1=id))
  refine bh (fun hp=>aF ?_) fun hp=>aE ?_
  ·obtain⟨k,ek⟩:=Int.eq_ofNat_of_zero_le (Int.le_of_lt hp)
   have dJ:k<m.op.length:=by have:=cP.1;rw[ek] at this;exact Int.ofNat_lt.1 this
   rw[ek]
   obtain⟨xs,he,hc,_⟩:=(o.kb gI).parts
   refine aa ⟨_,_,_,(v.kb gI).cell 1 rfl,BM he hc rfl o.cap.1 o.nil (by omega) fun b' c' h3 o3 k3=>aC ⟨aG (by show _<=(k:Int)+1;omega) (by show(k:Int)+1<=_;omega),?_⟩⟩
   have e1:((k:Int)+(1:Int))=((k+1:Nat):Int):=rfl
   rw[e1]
   refine yW o3 dJ fun h4 o4 g4=>aC (aa (tX (W.kb gI) (p.fresh.kb gI) (g4.vN k3 o3.lo) o4 fun h5 W5 E5 f5 c5=>?_))
   have hd:bu m.op id=m.op.eraseIdx k:=by unfold bu;rw[if_pos hp,ek];rfl
   refine hk h5 _ ⟨t,ct,(T.kb gI).cJ (S:=fun k=>k=2) (by decide) E5 f5,?_⟩ ((al.kb gI).trans (E5.mono fun s hs=>.inr hs)) fun _=>?_
   rotate_left
   ·have hcap:=o3.own.cap
    have SS:(bu m.op id).length=m.op.length - 1:=by rw[hd,List.length_eraseIdx,if_pos dJ]
    rw[SS]
    exact⟨_,_,c5,by omega⟩
   show bs _ _ _ _ _ _ (bu m.op id) _ _ _
   rw[hd];exact W5
  ·have hd:bu m.op id=m.op:=by unfold bu;rw[if_neg hp]
   refine hk h2 col ?_ (.kb gI) fun h=>absurd h hp
   have p2:=p.kb gI
   have e2:gC m id=m:=by unfold gC;rw[hd]
   rw[e2];exact p2
end
structure jR where
 x:ay
 ab:OA
 an:Nat
 ac:Nat
 kb:OA
 kn:Nat
 kc:Nat
def xH (r:jR):List Value:=mO r.x r.ab r.an r.ac r.kb r.kn r.kc
def rl:El jR where
 sz:=8
 R:=fun _ _ r cs=>cs=xH r
 len:=fun _ _ _ _ h=>by rw[h];rfl
 one:=fun _ _ _ _ h v hv=>by
  rw[h] at hv
  simp only[xH,mO,List.mem_cons,List.not_mem_nil,or_false] at hv
  rcases hv with rfl | rfl | rfl | rfl | rfl | rfl | rfl | rfl <;> rfl
 keep:=fun _ _ _ _ _ _ h _ _=>h
 pos:=by decide
theorem tn:Flat rl:=fun _ _ _ _ _ _ h=>h
theorem Va:oG Tryz.prog rl 116 115 120:=js (sz:=8) (by kernel_rfl) rfl
structure D2 (h:H) (col:cd) (s i:Nat) (r:jR):Prop where
 ra:Row aW (bT col h) h r.ab r.an r.ac r.x.attrs
 az:r.ab=none->r.ac=0
 ok:fG h r.kb r.kn r.kc r.x.kids
 oV:∀q,r.kb=some q->col q.block=some (s,2*i+3)
 rk:bc .u8 r.x.kind
 rs:bc .u8 r.x.space
 rp:bc .i64 r.x.parent
 fa:r.x.attrs.length<=1000000
 fn:r.x.name.length<=maxLen
 ft:r.x.text.length<=maxLen
structure kS (h:H) (col:cd) (s:Nat) (t:Addr) (lb:OA) (lc:Nat) (rs:List jR):Prop where
 v:Var h t 118 [.slice lb rs.length lc]
 o:bE rl h 0 115 lb rs.length lc rs
 hl:∀q,lb=some q->col q.block=some (s,1)
 nodes:∀(i:Nat) r,rs[i]? =some r->D2 h col s i r
 kH:col t.block=some (s,0)
 fresh:∀k,h.size<=k->col k=none
 nh:rs.length<=1000000
def dD (h:H) (col:cd) (s:Nat) (t:Addr) (ns:List ay):Prop:=∃lb lc rs,kS h col s t lb lc rs/\rs.map (·.x)=ns
section
variable {h h':H} {K:KV} {col col':cd} {s i p:Nat} {t a:Addr} {ns:List ay} {x y:ay} {lb:OA} {lc:Nat} {rs:List jR} {r:jR}
theorem D2.keep (N:D2 h col s i r) {B:Nat->Prop} (k:bY B h h') (hc:∀k,k<h.size->col' k=col k) (hB:∀k,k<h.size->(col k=none∨col k=some (s,2*i+3))->B k):D2 h' col' s i r:=
 ⟨N.ra.keep (k.less fun q hq=>hB q hq.1.2 (.inl hq.1.1)) (fun q hq hs=>⟨by rw[hc q hs];exact hq.1,Nat.lt_of_lt_of_le hs k.1⟩),N.az,N.ok.keep k fun q e=>hB _ (N.ok.hi q e) (.inr (N.oV q e)),fun q e=>by rw[hc _ (N.ok.hi q e)];exact N.oV q e,N.rk,N.rs,N.rp,N.fa,N.fn,N.ft⟩
theorem kS.keep (T:kS h col s t lb lc rs) {B:Nat->Prop} (k:bY B h h') (hc:∀k,k<h.size->col' k=col k) (hf:∀k,h'.size<=k->col' k=none) (hB:∀k,k<h.size->(col k=none∨∃p,col k=some (s,p))->B k):kS h' col' s t lb lc rs:=by
 refine⟨T.v.keep k (hB _ T.v.lt (.inr ⟨_,T.kH⟩)),?_,fun q e=>by rw[hc _ (T.o.hi q e)];exact T.hl q e,fun i r hr=>(T.nodes i r hr).keep k hc fun q hq mK=>hB q hq (by rcases mK with h | h;exact .inl h;exact .inr ⟨_,h⟩),by rw[hc _ T.v.lt];exact T.kH,hf,T.nh⟩
 refine⟨?_,T.o.lo,fun q e=>Nat.lt_of_lt_of_le (T.o.hi q e) k.1,T.o.nil⟩
 obtain⟨xs,h1,h2⟩:=T.o.own.own
 exact⟨T.o.own.len,xs,h1.keep k fun g e _ hg=>hB _ hg (.inr ⟨_,T.hl _ e⟩),eG.flat tn h2⟩
theorem kS.kw (T:kS h col s t lb lc rs) (k:KW h h'):kS h' col s t lb lc rs:=T.keep k (fun _ _=>rfl) (fun k' hk=>T.fresh k' (Nat.le_trans k.1 hk)) fun k hk _=>hk
theorem kS.kb (T:kS h col s t lb lc rs) (k:KB h h'):kS h' col s t lb lc rs:=T.kw (KB.w k)
theorem kS.other {s':Nat} (T:kS h col s t lb lc rs) (hs:s≠s') (e:Ext s' h col h' col') (hf:∀k,h'.size<=k->col' k=none):kS h' col' s t lb lc rs:=
 T.keep e.sk.w e.cl hf fun k hk mK=>⟨hk,fun p e=>by
  rcases mK with h | ⟨q,h⟩
  ·rw[h] at e;cases e
  ·rw[h] at e;cases e;exact hs rfl⟩
theorem dD.kb (T:dD h col s t ns) (k:KB h h'):dD h' col s t ns:=by
 obtain⟨lb,lc,rs,C,e⟩:=T
 exact⟨lb,lc,rs,C.kb k,e⟩
theorem dD.other {s':Nat} (T:dD h col s t ns) (hs:s≠s') (e:Ext s' h col h' col') (hf:∀k,h'.size<=k->col' k=none):dD h' col' s t ns:=by
 obtain⟨lb,lc,rs,C,e2⟩:=T
 exact⟨lb,lc,rs,C.other hs e hf,e2⟩
theorem dD.nh (T:dD h col s t ns):ns.length<=1000000:=by
 obtain⟨lb,lc,rs,C,rfl⟩:=T
 rw[List.length_map];exact C.nh
theorem dD.fresh (T:dD h col s t ns):∀k,h.size<=k->col k=none:=by
 obtain⟨lb,lc,rs,C,rfl⟩:=T
 exact C.fresh
theorem kS.upd (T:kS h col s t lb lc rs) {r':jR} (o:bE rl h' 0 115 lb rs.length lc (rs.set i r')) (k:SK (fun k=>k<h.size/\∀p,col k=some (s,p)->p≠1/\p≠2*i+3) h h') (hc:∀k,k<h.size->col' k=col k) (hf:∀k,h'.size<=k->col' k=none) (hn:D2 h' col' s i r'):
  kS h' col' s t lb lc (rs.set i r'):=by
 have kp:=k.w
 refine⟨by rw[List.length_set];exact T.v.keep kp ⟨T.v.lt,fun p e=>by rw[T.kH] at e;cases e;omega⟩,by rw[List.length_set];exact o,fun q e=>by rw[hc _ (T.o.hi q e)];exact T.hl q e,fun j r hr=>?_,by rw[hc _ T.v.lt];exact T.kH,hf,by rw[List.length_set];exact T.nh⟩
 by_cases hij:i=j
 ·subst hij
  by_cases cP:i<rs.length
  ·rw[List.getElem?_set_self cP] at hr;cases hr
   exact hn
  ·have:=dv hr
   rw[List.length_set] at this
   omega
 ·rw[List.getElem?_set_ne hij] at hr
  exact(T.nodes j r hr).keep kp hc fun q hq mK=>⟨hq,fun p e=>by
   rcases mK with h | h
   ·rw[h] at e;cases e
   ·rw[h] at e;cases e;omega⟩
theorem fx (e:rs.map (·.x)=ns) (hx:ns[i]? =some x):∃r,rs[i]? =some r/\r.x=x:=by
 subst e
 rw[List.getElem?_map] at hx
 cases hr:rs[i]? with
 | none=>rw[hr] at hx;cases hx
 | some r=>rw[hr] at hx;cases hx;exact⟨r,rfl,rfl⟩
theorem MP (C:kS h col s t lb lc rs) (hr:rs[i]? =some r) {Q:Addr->Prop} (hq:∀a,(∀(j:Nat) v,(xH r)[j]? =some v->cell h ((a.add (Int.toNat (i:Int)*8)).add j)=some v)->Q a):
  (0<=(i:Int)/\(i:Int)<(rs.length:Int))/\ae lb Q:=by
 have hi:=dv hr
 have hg:rs[i]'hi=r:=Option.some.inj ((List.getElem?_eq_getElem hi).symm.trans hr)
 exact(C.o.rowAt tn (bY.refl (fun _=>True) h) (fun _ _=>trivial)).bn hi rfl fun a hA=>hq a fun j v hj=>by
  obtain⟨_,cs,hR,hc⟩:=hA
  have hR:cs=xH rs[i]:=hR
  rw[hg] at hR
  exact hc j v (by rw[hR];exact hj)
theorem iy (C:kS h col s t lb lc rs) (hr:rs[i]? =some r) {Q:Addr->Prop} (hq:∀a,(∀(j:Nat) v,(xH r)[j]? =some v->cell h ((a.add (Int.toNat (i:Int)*8)).add j)=some v)->Q a):
  ae (some t) fun a=>∃b n c,cell h (a.add 0)=some (.slice b n c)/\((0<=(i:Int)/\(i:Int)<(n:Int))/\ae b Q):=aa ⟨_,_,_,C.v.cell 0 rfl,MP C hr hq⟩
theorem lM (T:dD h col s t ns) {id:Int} (hk:K (.bool (decide (0<=id/\id<ns.length))) h):zC 125 [.pointer (some t),.int .i64 id] h K:=by
 obtain⟨lb,lc,rs,C,rfl⟩:=T
 rw[List.length_map] at hk
 refine Xd3.ok _ _ _ _ (bh (fun e=>aa ⟨_,_,_,C.v.cell 0 rfl,bh (fun e2=>?_) fun e2=>?_⟩) fun e=>?_)
 ·rw[decide_eq_true ⟨e,e2⟩] at hk;exact hk
 ·rw[decide_eq_false (fun h=>e2 h.2)] at hk;exact hk
 ·rw[decide_eq_false (fun h=>e h.1)] at hk;exact hk
theorem vV (T:dD h col s t ns) {id:Int} (hk:K (.bool (dU ns id)) h):zC 134 [.pointer (some t),.int .i64 id] h K:=by
 refine Xd1.ok _ _ _ _ (lM T (ag (aR (fun e=>?_) fun e=>?_)))
 ·have e:=of_decide_eq_true e
  obtain⟨i,rfl⟩:=Int.eq_ofNat_of_zero_le e.1
  have hx:ns[i]? =some (ns[i]'(by omega)):=List.getElem?_eq_getElem (by omega)
  have eh:dU ns (i:Int)=decide ((i:Int)=0∨(ns[i]'(by omega)).kind=1):=by
   unfold dU
   rw[decide_eq_true e,Int.toNat_natCast,hx]
   rfl
  have hk:K (.bool (dU ns (i:Int))) h:=hk
  rw[eh] at hk
  obtain⟨lb,lc,rs,C,em⟩:=T
  obtain⟨r,hr,ex⟩:=fx em hx
  refine bh (fun e0=>?_) fun e0=>iy C hr fun a hc=>⟨_,hc 0 _ rfl,bh (fun e1=>?_) fun e1=>?_⟩
  ·rw[decide_eq_true (Or.inl e0)] at hk;exact hk
  ·rw[decide_eq_true (Or.inr (by rw[<-ex];exact e1))] at hk;exact hk
  ·rw[decide_eq_false (fun hh=>hh.elim e0 fun h2=>e1 (by rw[ex];exact h2))] at hk;exact hk
 ·have e:=of_decide_eq_false e
  unfold dU at hk
  rw[decide_eq_false e] at hk
  exact hk
theorem wb (T:dD h col s t ns) (hy:ns[p]? =some y) {lq:Int} (hk:K (.int .i64 (fh y.kids lq)) h):zC 135 [.pointer (some t),.int .i64 (p:Int),.int .i64 lq] h K:=by
 obtain⟨lb,lc,rs,C,em⟩:=T
 obtain⟨r,hr,rfl⟩:=fx em hy
 have N:=C.nodes p r hr
 have hl:=N.ok.len
 have hm:=N.ok.own.cap
 have AW:=N.ok.own.max
 simp only[maxLen] at AW
 refine Vb.ok _ _ _ _ _ (iy C hr fun a hc=>⟨_,_,_,hc 7 _ rfl,bh (fun e=>?_) fun e=>⟨r.kn+1,?_⟩⟩)
 ·unfold fh at hk
  rw[if_pos e,hl] at hk
  exact hk
 ·unfold fh A8 at hk
  rw[if_neg e] at hk
  have R:=N.ok.row (A:=fun _=>True) fun _ _=>trivial
  have key:∀N i,i+N=r.kn->lq ∉ r.x.kids.take i->Vb.gJ (fun h=>Vb.n5 (fun y6 h=>K (.int .i64 y6) h) (fun y6 h=>K (.int .i64 y6) h) h) (fun h=>Vb.n5 (fun y6 h=>K (.int .i64 y6) h) (fun y6 h=>K (.int .i64 y6) h) h) (fun y6 h=>K (.int .i64 y6) h) (N+1) lq r.kb r.kn r.kc (i:Int) h:=by
   intro N
   induction N with
   | zero=>
    intro i hi hn
    unfold Vb.gJ
    refine bX (by omega) ?_
    rw[List.take_of_length_le (by omega)] at hn
    rw[if_neg hn] at hk
    exact hk
   | succ N ih=>
    intro i hi hn
    have bM:i<r.x.kids.length:=by omega
    unfold Vb.gJ
    refine bQ (by omega) (R.bn bM rfl fun q hA=>Fx hA fun _=>bh (fun e2=>?_) fun e2=>⟨jt (by omega) (by omega),ih (i+1) (by omega) ?_⟩)
    ·have je:lq ∈ r.x.kids:=by rw[<-e2];exact List.getElem_mem bM
     rw[if_pos je,Bf hn (by rw[<-e2];exact List.getElem?_eq_getElem bM)] at hk
     exact hk
    ·rw[List.take_add_one,List.getElem?_eq_getElem bM]
     intro hm
     rcases List.mem_append.1 hm with hm | hm
     ·exact hn hm
     ·simp at hm
      exact e2 hm.symm
  exact key r.kn 0 (by omega) (by simp)
theorem CX (T:dD h col s t ns) (G:aV ns) {id of:Int} (hid:id<ns.length) (hk:K (.bool (cm ns id of)) h):zC 164 [.pointer (some t),.int .i64 id,.int .i64 of] h K:=by
 obtain⟨M,hM⟩:=G.Lb id
 obtain⟨lb,lc,rs,C,em⟩:=T
 have hT:∀{b:Bool},(ou ns id of↔b=true)->cm ns id of=b:=fun {b} hb=>by
  unfold cm
  cases b with
  | true=>exact @decide_eq_true _ (Classical.propDecidable _) (hb.2 rfl)
  | false=>exact @decide_eq_false _ (Classical.propDecidable _) fun h=>by have:=hb.1 h;cases this
 refine Vc.ok _ _ _ _ _ ⟨M+1,?_⟩
 have key:∀N (i:Int),i<ns.length->sC ns N i->(ou ns id of↔ou ns i of)->Vc.MO (fun h=>Vc.n3 (fun y6 h=>K (.bool y6) h) (fun y6 h=>K (.bool y6) h) h) (fun h=>Vc.n3 (fun y6 h=>K (.bool y6) h) (fun y6 h=>K (.bool y6) h) h) (fun y6 h=>K (.bool y6) h) (N+1) (some t) i of h:=by
  intro N
  induction N with
  | zero=>
   intro i hi he CZ
   unfold Vc.MO
   have he:i<0:=he
   refine bX (by omega) ?_
   rw[hT (b:=false) (CZ.trans ⟨fun h=>absurd h (G5 he),fun h=>by cases h⟩)] at hk
   exact hk
  | succ N ih=>
   intro i hi he CZ
   unfold Vc.MO
   refine bh (fun h0=>?_) fun h0=>?_
   ·obtain⟨j,rfl⟩:=Int.eq_ofNat_of_zero_le (show 0<=i by omega)
    have hj:ns[j]? =some (ns[j]'(by omega)):=List.getElem?_eq_getElem (by omega)
    obtain⟨r,hr,ex⟩:=fx em hj
    refine bh (fun e=>?_) fun e=>iy C hr fun a hc=>⟨_,hc 6 _ rfl,ih r.x.parent ?_ ?_ ?_⟩
    ·rw[hT (b:=true) (CZ.trans ⟨fun _=>rfl,fun _=>dw.2 (.inl e.symm)⟩)] at hk
     exact hk
    ·rw[ex]
     rcases G.par j _ hj with h1 | h1 <;> omega
    ·rcases he with he | he
     ·have:((Int.ofNat j:Int))<0:=he
      omega
     ·have he:sC ns N (ju ns (j:Int)):=he
      rw[eY hj] at he
      rw[ex]
      exact he
    ·refine CZ.trans ((dw (j:=j)).trans ⟨fun h=>?_,fun h=>Or.inr ?_⟩)
     ·rcases h with h | h
      ·exact absurd h.symm e
      ·rw[eY hj] at h;rw[ex];exact h
     ·rw[eY hj,<-ex];exact h
   ·rw[hT (b:=false) (CZ.trans ⟨fun h=>absurd h (G5 (by omega)),fun h=>by cases h⟩)] at hk
    exact hk
 exact key M id hid hM Iff.rfl
theorem MR (T:dD h col s t ns) {id:Int} (hk:K (.int .i64 (ju ns id)) h) (eJ:id<0->ju ns id= -1):zC 133 [.pointer (some t),.int .i64 id] h K:=by
 refine Xdx.ok _ _ _ _ (lM T (ag (aR (fun e=>?_) fun e=>?_)))
 ·have e:=of_decide_eq_true e
  obtain⟨i,rfl⟩:=Int.eq_ofNat_of_zero_le e.1
  have hx:ns[i]? =some (ns[i]'(by omega)):=List.getElem?_eq_getElem (by omega)
  obtain⟨lb,lc,rs,C,em⟩:=T
  obtain⟨r,hr,ex⟩:=fx em hx
  refine iy C hr fun a hc=>⟨_,hc 6 _ rfl,?_⟩
  have hk:K (.int .i64 (ju ns (i:Int))) h:=hk
  rw[eY hx,<-ex] at hk
  exact hk
 ·have e:=of_decide_eq_false e
  by_cases h0:id<0
  ·rw[eJ h0] at hk;exact hk
  ·have:ju ns id= -1:=by
    unfold ju
    rw[List.getElem?_eq_none (by omega)]
    rfl
   rw[this] at hk
   exact hk
end
theorem D3:∀{A:Nat->Prop} {h:H} {l:List Int} {xs:List Value},eG (jG .i64) A h l xs->xs=l.map (Value.int .i64)/\∀x ∈ l,bc .i64 x
 | A,h,[],xs,e=>by
  have e:xs=[]:=e
  subst e;exact⟨rfl,fun x hx=>by cases hx⟩
 | A,h,x::l,xs,e=>by
  obtain⟨c1,c2,rfl,⟨rfl,hr⟩,e2⟩:=e
  obtain⟨rfl,h2⟩:=D3 e2
  exact⟨rfl,fun y hy=>by
   rcases List.mem_cons.1 hy with rfl | hy
   ·exact hr
   ·exact h2 y hy⟩
theorem HJ {h:H} {base n c:Nat} {b:OA} {l:List Int} (o:bE (jG .i64) h base 3 b n c l):fG h b n c l:=by
 obtain⟨xs,h1,h2⟩:=o.own.own
 obtain⟨rfl,hr⟩:=D3 h2
 exact⟨⟨h1.len,h1.cap,h1.max,h1.is.imp id fun⟨g,cur,e1,_,e3⟩=>⟨g,cur,e1,Nat.zero_le _,e3⟩⟩,hr,o.nil,o.hi⟩
theorem tp {α:Type} {E:El α} {t ty e by':Nat} (ap:oG Tryz.prog E t e by') {h0 h:H} {b b2:OA} {n c m k:Nat} {l l2:List α} {K:KV} (kb:KB h0 h) (o:bE E h h0.size e b n c l) (r:Row E (rX h0.size) h b2 m k l2) (hn:n+m<=2000000) (hb:by'<=1000)
  (hk:∀b' c' h',bE E h' h0.size e b' (n+m) c' (l++l2)->KB h0 h'->K (.slice b' (n+m) c') h'):bf Tryz.prog (Builtin.append_ #[t,t] ty ⟨[.slice b n c,.slice b2 m k]⟩) h K:=by
 have k1:=kb.1
 refine bE.append ap o (r.keep (bY.refl _ _) fun q hq hs=>⟨hs,fun x hx=>?_⟩) (by simp only[maxLen];omega) ?_ k1 fun b' c' h' o' g'=>hk b' c' h' o' (g'.vN kb fun q e=>o.lo q e)
 ·have:=o.lo x hx
  have hq:q<h0.size:=hq
  omega
 ·have:(n+m)*by'<=2000000*1000:=Nat.mul_le_mul hn hb
  omega
theorem uY {h h':H} {B:Nat->Prop} {b:OA} {n c:Nat} {rs:List jR} (o:bE rl h 0 115 b n c rs) (k:bY B h h') (hB:∀q,b=some q->B q.block):bE rl h' 0 115 b n c rs:=by
 refine⟨?_,o.lo,fun q e=>Nat.lt_of_lt_of_le (o.hi q e) k.1,o.nil⟩
 obtain⟨xs,h1,h2⟩:=o.own.own
 exact⟨o.own.len,xs,h1.keep k fun g e _ hg=>hB _ e,eG.flat tn h2⟩
section
variable {h h':H} {K:KV} {col col':cd} {s i p:Nat} {t a:Addr} {ns:List ay} {x y:ay} {lb:OA} {lc:Nat} {rs:List jR} {r:jR}
theorem Aa (C:kS h col s t lb lc rs) (hr:rs[i]? =some r) {f:Nat} {v:Value} {r':jR} (hf:f<8) (hv:IQ v=true) (hw:(xH r).set f v=xH r')
  (same:r'.ab=r.ab/\r'.an=r.an/\r'.ac=r.ac/\r'.kb=r.kb/\r'.kn=r.kn/\r'.kc=r.kc/\r'.x.attrs=r.x.attrs/\r'.x.kids=r.x.kids)
  (afM:bc .u8 r'.x.kind/\bc .u8 r'.x.space/\bc .i64 r'.x.parent/\r'.x.name.length<=maxLen/\r'.x.text.length<=maxLen) {Q:H->Prop}
  (hk:∀h',kS h' col s t lb lc (rs.set i r')->Ext s h col h' col->SK (fun k=>col k≠some (s,1)) h h'->Q h'):
  (0<=(i:Int)/\(i:Int)<(rs.length:Int))/\ae lb fun a=>aZ ((a.add (Int.toNat (i:Int)*8)).add f) [v] 0 h Q:=by
 have N:=C.nodes i r hr
 refine zG tn C.o hr (z:=8) rfl hf hv (x':=r') (fun A h cs e=>by have e:cs=xH r:=e;subst e;exact hw) fun a h2 ea o2 k2 s2 hb=>?_
 have Og:col a.block=some (s,1):=C.hl a ea
 have sk:SK (fun k=>col k≠some (s,1)) h h2:=k2.less fun k hk e=>hk (by rw[e];exact Og)
 refine hk h2 (C.upd o2 (k2.less fun k hk e=>(hk.2 1 (by rw[e];exact Og)).1 rfl) (fun _ _=>rfl) (fun k hk=>C.fresh k (by omega)) ?_) ⟨k2.less fun k hk e=>hk.2 1 (by rw[e];exact Og),fun _ _=>rfl⟩ sk
 obtain⟨x',ab,an,ac,kb,kn,kc⟩:=r'
 obtain⟨rfl,rfl,rfl,rfl,rfl,rfl,e7,e8⟩:=same
 obtain⟨g1,g2,g3,g4,g5⟩:=afM
 refine⟨?_,N.az,?_,N.oV,g1,g2,g3,?_,g4,g5⟩
 ·show Row aW (bT col h2) h2 r.ab r.an r.ac x'.attrs
  have e7:x'.attrs=r.x.attrs:=e7
  rw[e7]
  exact N.ra.keep (k2.w.less fun k hk e=>by have h1:=hk.1.1;rw[e,Og] at h1;cases h1) fun k hk hs=>⟨hk.1,by omega⟩
 ·show fG h2 r.kb r.kn r.kc x'.kids
  have e8:x'.kids=r.x.kids:=e8
  rw[e8]
  exact N.ok.keep k2.w fun q e e2=>by
   have h1:=N.oV q e
   rw[e2,Og] at h1
   have:=(Prod.mk.inj (Option.some.inj h1)).2
   omega
 ·have e7:x'.attrs=r.x.attrs:=e7
  show x'.attrs.length<=_
  rw[e7];exact N.fa
theorem map_set (em:rs.map (·.x)=ns) {r':jR}:(rs.set i r').map (·.x)=ns.set i r'.x:=by rw[List.map_set,em]
theorem AX (T:dD h col s t ns) (hx:ns[i]? =some x) {q:Int} (hq:bc .i64 q) {Q:H->Prop}
  (hk:∀h',dD h' col s t (ns.set i {x with parent:=q})->Ext s h col h' col->SK (fun k=>col k≠some (s,1)) h h'->Q h'):
  ae (some t) fun a=>∃b n c,cell h (a.add 0)=some (.slice b n c)/\((0<=(i:Int)/\(i:Int)<(n:Int))/\ae b fun a'=>aZ ((a'.add (Int.toNat (i:Int)*8)).add 6) [.int .i64 q] 0 h Q):=by
 obtain⟨lb,lc,rs,C,em⟩:=T
 obtain⟨r,hr,rfl⟩:=fx em hx
 have N:=C.nodes i r hr
 exact aa ⟨_,_,_,C.v.cell 0 rfl,Aa C hr (f:=6) (r':={r with x:={r.x with parent:=q}}) (by omega) rfl rfl ⟨rfl,rfl,rfl,rfl,rfl,rfl,rfl,rfl⟩ ⟨N.rk,N.rs,hq,N.fn,N.ft⟩ fun h' C' E' k'=>hk h' ⟨lb,lc,_,C',map_set em⟩ E' k'⟩
theorem sM (C:kS h col s t lb lc rs) (hr:rs[i]? =some r) {h1:H} (g:dW h h1 r.kb) {b':OA} {n' c':Nat} {l':List Int} (o:fG h1 b' n' c' l') (nb:Fv h r.kb b') {Q:H->Prop}
  (hk:∀h' col',kS h' col' s t lb lc (rs.set i ⟨{r.x with kids:=l'},r.ab,r.an,r.ac,b',n',c'⟩)->Ext s h col h' col'->SK (fun k=>k<h1.size/\col k≠some (s,1)) h1 h'->Q h'):
  (0<=(i:Int)/\(i:Int)<(rs.length:Int))/\ae lb fun a=>aZ ((a.add (Int.toNat (i:Int)*8)).add 7) [.slice b' n' c'] 0 h1 Q:=by
 have N:=C.nodes i r hr
 have im:=g.size
 have YU:∀q,r.kb=some q->∀q',lb=some q'->q.block≠q'.block:=fun q e q' e' e2=>by
  have h1:=N.oV q e
  rw[e2,C.hl q' e'] at h1
  have:=(Prod.mk.inj (Option.some.inj h1)).2
  omega
 have o1:bE rl h1 0 115 lb rs.length lc rs:=uY C.o g.keep.w fun q e=>⟨C.o.hi q e,fun q' e'=>YU q' e' q e⟩
 refine zG tn o1 hr (z:=8) rfl (show 7<8 by decide) rfl (x':=⟨{r.x with kids:=l'},r.ab,r.an,r.ac,b',n',c'⟩) (fun A h cs e=>by have e:cs=xH r:=e;subst e;rfl) fun a h2 ea o2 k2 s2 hb=>?_
 have Og:col a.block=some (s,1):=C.hl a ea
 have OC:=C.o.hi a ea
 have jz:∀k,k<h.size->cw col h b' (s,2*i+3) k=col k:=fun k hk=>eL hk
 have kk:∀k,k<h.size->k≠a.block->(∀q,r.kb=some q->q.block≠k)->h2[k]? =h[k]? :=fun k h1 ve h3=>(k2.2 k ve).trans (g.vS k h1 h3)
 have Uh:∀k,h2.size<=k->cw col h b' (s,2*i+3) k=none:=fun k hk=>by
  rw[pH (h':=h1) (fun q e=>o.hi q e) (by omega)];exact C.fresh k (by omega)
 refine hk h2 (cw col h b' (s,2*i+3)) (C.upd o2 ⟨by omega,fun k hk=>?_⟩ jz Uh ⟨?_,N.az,o.keep k2.w fun q e e2=>?_,fun q e=>?_,N.rk,N.rs,N.rp,N.fa,N.fn,N.ft⟩) ⟨⟨by omega,fun k hk=>?_⟩,jz⟩ (k2.less fun k hk e=>hk.2 (by rw[e];exact Og))
 ·exact kk k hk.1 (fun e=>(hk.2 _ (by rw[e];exact Og)).1 rfl) fun q e e2=>(hk.2 _ (by rw[<-e2];exact N.oV q e)).2 rfl
 ·refine N.ra.keep ⟨by omega,fun k hk o e hl=>?_⟩ fun k hk hs=>⟨by rw[jz k hs];exact hk.1,by omega⟩
  have hk:col k=none/\k<h.size:=hk.1
  rw[kk k hk.2 (fun e2=>by rw[e2,Og] at hk;cases hk.1) (fun q e2 e3=>by have:=N.oV q e2;rw[e3,hk.1] at this;cases this)];exact e
 ·rcases nb q e with h1 | h1
  ·exact YU q h1 a ea e2
  ·omega
 ·refine nJ e fun cP=>?_
  rcases nb q e with h1 | h1
  ·exact N.oV q h1
  ·omega
 ·exact kk k hk.1 (fun e=>hk.2 _ (by rw[e];exact Og)) fun q e e2=>hk.2 _ (by rw[<-e2];exact N.oV q e)
end
theorem Qn {a b:Int} {c d:Bs} {e1 f1:OA} {e2 e3 f2 f3:Nat} {k:Int->Int->Bs->OA->Nat->Nat->Bs->OA->Nat->Nat->Prop} (h:k a b c e1 e2 e3 d f1 f2 f3):
  lv (.agg ⟨[.int .u8 a,.int .u8 b,S c,.slice e1 e2 e3,S d,.slice f1 f2 f3]⟩) fun l76=>aH l76 fun e77 l78=>aL .u8 e77 fun i79=>aH l78 fun e80 l81=>aL .u8 e80 fun i82=>aH l81 fun e83 l84=>gU e83 fun s85=>aH l84 fun e86 l87=>aA e86 fun Vd Ve Vf=>aH l87 fun e89 l90=>gU e89 fun s91=>aH l90 fun e92 l93=>aA e92 fun afP afQ afR=>dc l93 (k i79 i82 s85 Vd Ve Vf s91 afP afQ afR):=h
section
variable {h h':H} {K:KV} {col col':cd} {s i p:Nat} {t a:Addr} {ns:List ay} {x y:ay} {lb:OA} {lc:Nat} {rs:List jR} {r:jR}
theorem Ab {q:Addr} {cs:List Value} (hc:∀(j:Nat) v,cs[j]? =some v->cell h (q.add j)=some v) (j:Nat) {v:Value} (e:cs[j]? =some v):cell h ((q.add 0).add j)=some v:=by rw[add_zero'];exact hc j v e
theorem ZL (hf:∀k,h.size<=k->col k=none) (hk:∀t h' col',dD h' col' s t [mP]->Ext s h col h' col'->K (.pointer (some t)) h'):zC 52 [] h K:=by
 refine Xds.ok _ _ (af fun a1 h1 v1 k1 e1 s1=>af fun a2 h2 v2 k2 e2 s2=>?_)
 have o2:bE rl h2 0 115 (some a1) 1 1 [⟨mP,none,0,0,none,0,0⟩]:=(v1.kb k2).Hc fun _=>rfl
 refine hk a2 h2 (fun k=>if k=h.size then some (s,1) else if k=h.size+1 then some (s,0) else col k) ⟨some a1,1,[⟨mP,none,0,0,none,0,0⟩],⟨v2,o2,fun q e=>by cases e;rw[if_pos e1],fun i r hr=>?_,by rw[if_neg (by omega),if_pos (by omega)],fun k hk=>?_,by decide⟩,rfl⟩ ⟨SK.less (k1.trans k2) fun k hk=>hk.1,fun k hk=>?_⟩
 ·cases i with
  | succ i=>simp at hr
  | zero=>
   simp at hr
   subst hr
   exact⟨⟨rfl,Nat.le_refl _,Nat.zero_le _,fun i x hx=>by simp[mP] at hx⟩,fun _=>rfl,fG.none _,(fun q e=>by cases e),⟨by decide,by decide⟩,⟨by decide,by decide⟩,⟨by decide,by decide⟩,by decide,Nat.zero_le _,Nat.zero_le _⟩
 ·show(if _ then _ else _)=_
  rw[if_neg (by omega),if_neg (by omega)];exact hf k (by omega)
 ·show(if _ then _ else _)=_
  rw[if_neg (by omega),if_neg (by omega)]
theorem MT {kd sp:Int} {nm tx:Bs} {ab kb:OA} {an ac kn kc:Nat} {attrs:List bx} {A:Nat->Prop} (r:Row aW A h ab an ac attrs) (GN:an<=1000000)
  (h1:kd=1->∀b' c' h',bE aW h' h.size 67 b' an c' attrs->KB h h'->K (.agg ⟨[.int .u8 kd,.int .u8 sp,S nm,.slice b' an c',S [],.slice none 0 0]⟩) h')
  (h2:kd≠1->∀h',KB h h'->K (.agg ⟨[.int .u8 kd,.int .u8 0,S [],.slice none 0 0,S tx,.slice none 0 0]⟩) h'):
  zC 126 [.agg ⟨[.int .u8 kd,.int .u8 sp,S nm,.slice ab an ac,S tx,.slice kb kn kc]⟩] h K:=by
 refine Xd5.ok _ _ _ _ _ _ _ _ _ _ _ _ (af fun x1 g1 v1 k1 e1 s1=>af fun x2 g2 v2 k2 e2 s2=>?_)
 have Uf:=v1.kb k2
 have tU:KB h g2:=k1.trans k2
 have hs1:=k1.1
 have S6:=k2.1
 refine⟨_,Uf.cell 0 rfl,bh (fun e=>⟨_,_,_,Uf.cell 3 rfl,?_⟩) fun e=>⟨_,Uf.cell 0 rfl,_,Uf.cell 4 rfl,aQ v2 (Nat.le_refl 6) fun g3 v3 k3 s3=>?_⟩⟩
 ·have on:bE aW g2 g2.size 67 none 0 0 []:=bE.none _ _ _
  refine tp Au (KB.refl g2) on (r.H0.keep ((KB.w tU).less fun k hk=>hk.2) fun k hk hs=>by show k<g2.size;omega) (by omega) (by decide) fun b' c' g3 o3 k3=>aC ?_
  have o3:bE aW g3 g2.size 67 b' an c' attrs:=by
   rw[Nat.zero_add] at o3;exact o3
  rw[Nat.zero_add]
  have Vg:=Uf.kb k3
  refine⟨_,Vg.cell 0 rfl,_,Vg.cell 1 rfl,_,Vg.cell 2 rfl,aQ (v2.kb k3) (Nat.le_refl 6) fun g4 v4 k4 s4=>?_⟩
  have kk:KB h g4:=KB.step (tU.trans k3) k4 (by omega)
  have o4:bE aW g4 g2.size 67 b' an c' attrs:=o3.uB k4 fE fun g hg=>by have:=v2.lt;omega
  exact⟨_,v4.cell 0 rfl,_,v4.cell 1 rfl,_,v4.cell 2 rfl,_,_,_,v4.cell 3 rfl,_,v4.cell 4 rfl,_,_,_,v4.cell 5 rfl,h1 e b' c' g4 (o4.lower (by omega)) kk⟩
 ·have kk:KB h g3:=KB.step tU k3 (by omega)
  exact⟨_,v3.cell 0 rfl,_,v3.cell 1 rfl,_,v3.cell 2 rfl,_,_,_,v3.cell 3 rfl,_,v3.cell 4 rfl,_,_,_,v3.cell 5 rfl,h2 e g3 kk⟩
theorem MU (C:kS h col s t lb lc rs) (hx:bc .u8 x.kind/\bc .u8 x.space) (yM:x.parent= -1) (La:x.kids=[]) (hfa:x.attrs.length<=1000000) (Xa:x.name.length<=maxLen) (It:x.text.length<=maxLen) (lW:rs.length<1000000)
  {ab:OA} {an ac:Nat} (ra:Row aW (bT col h) h ab an ac x.attrs) (hz:ab=none->ac=0) {Q:Int->H->Prop}
  (hk:∀h' col',dD h' col' s t ((rs.map (·.x))++ [x])->Ext s h col h' col'->Q (rs.length:Int) h'):
  aw h #[.int .u8 x.kind,.int .u8 x.space,S x.name,.slice ab an ac,S x.text,.slice none 0 0,.int .i64 (-1),.slice none 0 0] 115 fun ZM h96=>bH h h96/\(bf Tryz.prog (Builtin.append_ #[116,116] 116 ⟨[.slice lb rs.length lc,.slice (some ZM) 1 1]⟩) h96 fun v97 h98=>aA v97 fun b n c=>ae (some t) fun MV=>aZ (MV.add 0) [.slice b n c] 0 h98 fun Ja=>ae (some t) fun afT=>∃b n c,cell Ja (afT.add 0)=some (.slice b n c)/\(bc .i64 ((n:Int) - 1)/\Q ((n:Int) - 1) Ja)):=by
 refine af fun a1 h1 v1 k1 e1 s1=>⟨k1.ext,?_⟩
 have jZ:=C.o.hi
 have o1:=C.o.kb k1
 have hlen:rs.length=rs.length:=rfl
 have r1:Row rl (Cy h1 lb) h1 (some a1) 1 1 [⟨x,ab,an,ac,none,0,0⟩]:=v1.vg (x:=⟨x,ab,an,ac,none,0,0⟩) (E:=rl) (A:=Cy h1 lb) (by
  show _=xH _
  unfold xH mO
  rw[yM]) ⟨v1.lt,fun q e=>by have:=jZ q e;omega⟩
 refine bE.Hb Va o1 r1 (by simp only[maxLen];omega) (by omega) (Nat.zero_le _) fun b3 c3 h3 o3 g3 nb=>aC ?_
 have Ca:∀q,lb=some q->col q.block=some (s,1):=C.hl
 have vt1:=C.v.kb k1
 have vt3:Var h3 t 118 [.slice lb rs.length lc]:=vt1.keep g3.keep.w ⟨vt1.lt,fun q e e2=>by have h1:=Ca q e;rw[e2,C.kH] at h1;cases h1⟩
 have sz3:=g3.size
 refine aa (ck (m:=0) (i:=0) vt3 (by show 0+0+1<=1;omega) fun h4 v4 k4 s4=>aa ⟨_,_,_,v4.cell 0 rfl,jt (by omega) (by omega),?_⟩)
 have en:(((rs.length+1:Nat):Int) - 1)=(rs.length:Int):=by omega
 rw[en]
 have hb3:∀q,b3=some q->q.block<h3.size:=o3.hi
 have ht3:∀q,b3=some q->q.block≠t.block:=fun q e e2=>by
  rcases nb q e with h1 | h1
  ·have:=Ca q h1;rw[e2,C.kH] at this;cases this
  ·have:=C.v.lt;omega
 have jz:∀k,k<h.size->cw col h b3 (s,1) k=col k:=fun k hk=>eL hk
 have kk:∀k,k<h1.size->k≠t.block->(∀q,lb=some q->q.block≠k)->h4[k]? =h1[k]? :=fun k h1 ve YP=>(k4.2 k ve).trans (g3.vS k h1 YP)
 have afU:∀q,b3=some q->cw col h b3 (s,1) q.block=some (s,1):=fun q e=>nJ e fun cP=>by
  rcases nb q e with h1 | h1
  ·exact Ca q h1
  ·omega
 have kp:bY (fun k=>k<h.size/\k≠t.block/\∀q,lb=some q->q.block≠k) h h4:=⟨by omega,fun k hk o e hlp=>by
  rw[kk k (by omega) hk.2.1 hk.2.2,k1.2 k hk.1];exact e⟩
 refine hk h4 (cw col h b3 (s,1)) ⟨b3,c3,rs++ [⟨x,ab,an,ac,none,0,0⟩],⟨?_,?_,afU,fun j z pY=>?_,(jz _ C.v.lt).trans C.kH,fun k hk=>?_,by simp;omega⟩,by rw[List.map_append];rfl⟩ ⟨⟨by omega,fun k hk=>?_⟩,jz⟩
 ·rw[List.length_append];exact v4
 ·rw[List.length_append]
  exact uY o3 k4.w fun q e=>ht3 q e
 ·by_cases hj:j<rs.length
  ·rw[List.getElem?_append_left hj] at pY
   refine(C.nodes j z pY).keep kp jz fun k hk mK=>⟨hk,fun e=>?_,fun q e e2=>?_⟩
   ·rw[e,C.kH] at mK;rcases mK with h1 | h1 <;> cases h1
   ·have:=Ca q e;rw[e2] at this;rw[this] at mK
    rcases mK with h1 | h1
    ·cases h1
    ·have:=(Prod.mk.inj (Option.some.inj h1)).2;omega
  ·have hjn:j=rs.length:=by
    have:=dv pY
    simp at this;omega
   subst hjn
   rw[List.getElem?_append_right (Nat.le_refl _),Nat.sub_self] at pY
   simp at pY
   subst pY
   refine⟨ra.keep (kp.less fun k hk=>⟨hk.1.2,fun e2=>(by have:=hk.1.1;rw[e2,C.kH] at this;cases this),fun q e2 e3=>by have h1:=Ca q e2;rw[e3,hk.1.1] at h1;cases h1⟩) fun k hk hs=>⟨by rw[jz k hs];exact hk.1,by omega⟩,hz,?_,(fun q e=>by cases e),hx.1,hx.2,?_,hfa,Xa,It⟩
   ·show fG h4 none 0 0 x.kids
    rw[La];exact fG.none _
   ·show bc .i64 x.parent
    rw[yM];exact⟨by decide,by decide⟩
 ·rw[pH (h':=h3) hb3 (by omega)];exact C.fresh k (by omega)
 ·obtain⟨BZ,yi⟩:=hk
  rw[kk k (by omega) (fun e=>yi 0 (by rw[e];exact C.kH)) (fun q e e2=>yi 1 (by rw[<-e2];exact Ca q e))]
  exact k1.2 k BZ
theorem wI (T:dD h col s t ns) {kd sp:Int} {nm tx:Bs} {ab kb:OA} {an ac kn kc:Nat} {attrs:List bx} {A:Nat->Prop} (r:Row aW A h ab an ac attrs) (GN:an<=1000000) (YQ:bc .u8 kd) (hsp:bc .u8 sp) (Pg:nm.length<=maxLen) (YR:tx.length<=maxLen) (lW:ns.length<1000000)
  (hk:∀h' col',dD h' col' s t (bF ns (bG kd sp nm attrs tx)).1->Ext s h col h' col'->K (.int .i64 (bF ns (bG kd sp nm attrs tx)).2) h'):
  zC 105 [.pointer (some t),.agg ⟨[.int .u8 kd,.int .u8 sp,S nm,.slice ab an ac,S tx,.slice kb kn kc]⟩] h K:=by
 obtain⟨lb,lc,rs,C,em⟩:=T
 have hl:=r.len
 have Eu:ns.length=rs.length:=by rw[<-em,List.length_map]
 have Si:¬(kd=1∨kd=2∨kd=3)->∀h',KB h h'->K (.int .i64 (-1)) h':=fun hn h' k=>by
  have eb:bG kd sp nm attrs tx=none:=by unfold bG;rw[if_neg (by omega),if_neg (by omega)]
  rw[eb] at hk
  exact hk h' col ⟨lb,lc,rs,C.kb k,em⟩ (Ext.kb k)
 refine Xdv.ok _ _ _ _ _ _ _ _ _ _ _ _ _ (af fun x3 h1 v1 k1 e1 s1=>⟨_,v1.cell 0 rfl,bh (fun e=>Si (by omega) h1 k1) fun e=>⟨_,v1.cell 0 rfl,bh (fun e2=>Si (by omega) h1 k1) fun e2=>?_⟩⟩)
 have C1:=C.kb k1
 refine aa ⟨_,_,_,C1.v.cell 0 rfl,_,v1.cell 0 rfl,_,v1.cell 1 rfl,_,v1.cell 2 rfl,_,_,_,v1.cell 3 rfl,_,v1.cell 4 rfl,_,_,_,v1.cell 5 rfl,?_⟩
 refine MT (r.H0.keep ((KB.w k1).less fun k hk=>hk.2) (B':=fun _=>True) fun _ _ _=>trivial) GN (fun e3 b' c' h2 o2 k2=>?_) fun e3 h2 k2=>?_
 ·have eb:bG kd sp nm attrs tx=some ⟨kd,sp,nm,attrs,[], -1,[]⟩:=by unfold bG;rw[if_pos e3]
  rw[eb] at hk
  have ra:=Dg (col:=col) o2 fun k hk=>C.fresh k (by omega)
  refine Qn ⟨k2.ext,?_⟩
  refine MU (Q:=fun y h=>K (.int .i64 y) h) (x:=⟨kd,sp,nm,attrs,[], -1,[]⟩) (C1.kb k2) ⟨YQ,hsp⟩ rfl rfl (by show attrs.length<=_;omega) Pg (Nat.zero_le _) (by omega) ra o2.nil fun h' col' T' E'=>?_
  rw[em] at T'
  have:=hk h' col' T' ((Ext.kb (k1.trans k2)).trans E')
  rw[<-Eu];exact this
 ·have eb:bG kd sp nm attrs tx=some ⟨kd,0,[],[],tx, -1,[]⟩:=by unfold bG;rw[if_neg e3,if_pos (by omega)]
  rw[eb] at hk
  refine Qn ⟨k2.ext,?_⟩
  refine MU (Q:=fun y h=>K (.int .i64 y) h) (x:=⟨kd,0,[],[],tx, -1,[]⟩) (C1.kb k2) ⟨YQ,(show bc .u8 0 from⟨by decide,by decide⟩)⟩ rfl rfl (Nat.zero_le _) (Nat.zero_le _) YR (by omega) ⟨rfl,Nat.le_refl _,Nat.zero_le _,fun i x hx=>by simp at hx⟩ (fun _=>rfl) fun h' col' T' E'=>?_
  rw[em] at T'
  have:=hk h' col' T' ((Ext.kb (k1.trans k2)).trans E')
  rw[<-Eu];exact this
end
theorem HK {h h':H} (k:KB h h') (b:OA):dW h h' b:=⟨k.1,fun q hq _=>k.2 q hq⟩
section
variable {h h':H} {K:KV} {col col':cd} {s i p:Nat} {t a:Addr} {ns:List ay} {x y:ay} {lb:OA} {lc:Nat} {rs:List jR} {r:jR}
theorem ZN (T:dD h col s t ns) (G:aV ns) {id:Int} (hk:∀h' col',dD h' col' s t (eD ns id).1->Ext s h col h' col'->K (.bool (eD ns id).2) h'):
  zC 165 [.pointer (some t),.int .i64 id] h K:=by
 refine Xdu.ok _ _ _ _ (lM T (ag (aR (fun e=>?_) fun e=>?_)))
 ·have e:=of_decide_eq_true e
  obtain⟨i,rfl⟩:=Int.eq_ofNat_of_zero_le e.1
  have hk:∀h' col',dD h' col' s t (eD ns (i:Int)).1->Ext s h col h' col'->K (.bool (eD ns (i:Int)).2) h':=hk
  have hx:ns[i]? =some (ns[i]'(by omega)):=List.getElem?_eq_getElem (by omega)
  generalize ns[i]'(by omega)=x at hx
  have ec:eD ns (i:Int)=if x.parent<0 then(ns,false) else match ns[x.parent.toNat]? with | none=>(ns,false) | some y=>(cutAt ns i x x.parent.toNat y,true):=by
   unfold eD
   rw[if_pos e,Int.toNat_natCast,hx]
   rfl
  have lW:=T.nh
  have T0:=T
  obtain⟨lb,lc,rs,C,em⟩:=T
  obtain⟨r,hr,rfl⟩:=fx em hx
  refine iy C hr fun a hc=>⟨_,hc 6 _ rfl,bh (fun e2=>?_) fun e2=>iy C hr fun a hc=>⟨_,hc 6 _ rfl,?_⟩⟩
  ·rw[ec,if_pos e2] at hk
   exact hk h col T0 (Ext.refl _ _ _)
  ·rcases G.par i _ hx with h1 | ⟨h1,h2⟩
   ·omega
   obtain⟨p,hp⟩:=Int.eq_ofNat_of_zero_le h1
   have hp:r.x.parent=(p:Int):=hp
   have qB:p<ns.length:=by omega
   have hy:ns[p]? =some ns[p]:=List.getElem?_eq_getElem qB
   generalize ns[p]=y at hy
   rw[ec,if_neg e2,hp,Int.toNat_natCast,hy] at hk
   have bI:=G.tW hx hp
   have je:(i:Int) ∈ y.kids:=(G.lq p _ _ hy).2 ⟨i,_,rfl,hx,hp⟩
   have bM:=qg je
   have hyf:=G.nh hy
   obtain⟨q,hq,rfl⟩:=fx em hy
   have Np:=C.nodes p q hq
   have dJ:=Np.ok.len
   have oV:=Np.ok.own.cap
   rw[hp]
   refine wb T0 hy (aN (iy C hq fun a2 nG=>⟨_,_,_,nG 7 _ rfl,?_⟩))
   rw[He je]
   have rk:=Np.ok.row (A:=rX h.size) Np.ok.hi
   refine⟨by omega,tp tV (KB.refl h) (bE.none _ _ _) (rk.sub (lo:=0) (hi:=bn (i:Int) q.x.kids) (z:=1) (by omega) (by omega) rfl) (by omega) (by decide) fun b3 c3 h3 o3 k3=>aC (iy (C.kb k3) hq fun a3 B7=>⟨_,_,_,B7 7 _ rfl,?_⟩)⟩
   have ei:((bn (i:Int) q.x.kids:Int)+1)=((bn (i:Int) q.x.kids+1:Nat):Int):=by omega
   rw[ei]
   refine⟨jt (by omega) (by omega),by omega,tp tV k3 o3 ((rk.kb k3).sub (lo:=bn (i:Int) q.x.kids+1) (hi:=q.kn) (z:=1) (by omega) (by omega) rfl) (by omega) (by decide) fun b4 c4 h4 o4 k4=>aC (aa ⟨_,_,_,(C.kb k4).v.cell 0 rfl,?_⟩)⟩
   have el:([]++(q.x.kids.take (bn (i:Int) q.x.kids)).drop 0)++(q.x.kids.take q.kn).drop (bn (i:Int) q.x.kids+1)=q.x.kids.eraseIdx (bn (i:Int) q.x.kids):=by
    rw[List.nil_append,List.drop_zero,List.take_of_length_le (l:=q.x.kids) (i:=q.kn) (by omega),List.eraseIdx_eq_take_drop_succ]
   rw[el] at o4
   refine sM C hq (HK k4 _) (HJ o4) (fun z ez=>.inr (o4.lo z ez)) fun h5 rG C5 E5 _=>?_
   exact AX ⟨_,_,_,C5,map_set em⟩ (by rw[List.getElem?_set_ne (Ne.symm bI)];exact hx) ⟨by decide,by decide⟩ fun h6 T6 E6 _=>hk h6 rG T6 (E5.trans E6)
 ·have e:=of_decide_eq_false e
  have:eD ns id=(ns,false):=by unfold eD;rw[if_neg e]
  rw[this] at hk
  exact hk h col T (Ext.refl _ _ _)
theorem GS (T:dD h col s t ns) (G:aV ns) {parent before id:Int} (hk:∀h' col',dD h' col' s t (cV ns parent before id).1->Ext s h col h' col'->K (.bool (cV ns parent before id).2) h'):
  zC 104 [.pointer (some t),.int .i64 parent,.int .i64 before,.int .i64 id] h K:=by
 have no:¬(dU ns parent=true/\(0<=id/\id<ns.length)/\id≠0/\before≠id/\0<=fh (((ns[parent.toNat]?).map (·.kids)).getD []) before/\cm ns parent id=false)->K (.bool false) h:=fun hn=>by
  have:cV ns parent before id=(ns,false):=by unfold cV;rw[if_neg hn]
  rw[this] at hk
  exact hk h col T (Ext.refl _ _ _)
 refine Xdy.ok _ _ _ _ _ _ (vV T (ag (aR (fun hh=>?_) fun hh=>lM T (ag (aR (fun _=>no fun hy=>by rw[hh] at hy;cases hy.1) fun _=>no fun hy=>by rw[hh] at hy;cases hy.1)))))
 refine lM T (ag (aR (fun hid=>?_) fun hid=>no fun hy=>of_decide_eq_false hid hy.2.1))
 have hid:=of_decide_eq_true hid
 obtain⟨p,y,ep,hy,mK⟩:=iR hh
 obtain⟨i,ei⟩:=Int.eq_ofNat_of_zero_le hid.1
 have ei:id=(i:Int):=ei
 have qB:=dv hy
 have hx:ns[i]? =some (ns[i]'(by omega)):=List.getElem?_eq_getElem (by omega)
 generalize ns[i]'(by omega)=x at hx
 have pD:(((ns[parent.toNat]?).map (·.kids)).getD [])=y.kids:=by rw[ep,Int.toNat_natCast,hy];rfl
 refine bh (fun e=>no (fun hh=>hh.2.2.1 e)) fun h0=>bh (fun e=>no (fun hh=>hh.2.2.2.1 e)) fun hb=>CX T G (by omega) (ag (aR (fun e=>no (fun hh=>by rw[e] at hh;cases hh.2.2.2.2.2)) fun hw=>?_))
 rw[ep]
 refine aE (wb T hy (aN (bh (fun e=>no (fun hh=>by have:=hh.2.2.2.2.1;rw[pD] at this;omega)) fun aee=>?_)))
 have vq:dU ns parent=true/\(0<=id/\id<ns.length)/\id≠0/\before≠id/\0<=fh (((ns[parent.toNat]?).map (·.kids)).getD []) before/\cm ns parent id=false:=
  ⟨hh,hid,h0,hb,by rw[pD];omega,hw⟩
 have epm:cV ns parent before id=(putAt (eD ns id).1 parent.toNat before id.toNat,true):=by unfold cV;rw[if_pos vq]
 rw[epm,ep,ei,Int.toNat_natCast,Int.toNat_natCast,<-ei] at hk
 have G1:=G.eD id
 obtain⟨y1,G6,_,_,_,_,_,je,_,_⟩:=ji G (id:=id) hy
 obtain⟨x1,EM,_,_,_,_,_,_,_,_⟩:=ji G (id:=id) hx
 have Ev:¬ou ns parent id:=fun hh=>by
  unfold cm at hw
  rw[@decide_eq_true (ou ns parent id) (Classical.propDecidable _) hh] at hw;cases hw
 have bI:i≠p:=fun e=>Ev (by rw[ep,ei,<-e];exact dw.2 (.inl rfl))
 obtain⟨YJ,Iz⟩:=FC je hb (by omega)
 obtain⟨k,qY⟩:=Int.eq_ofNat_of_zero_le YJ
 have qY:fh y1.kids before=(k:Int):=qY
 have kF:putAt (eD ns id).1 p before i=(((eD ns id).1.set p {y1 with kids:=y1.kids.take k++(i:Int)::y1.kids.drop k}).set i {x1 with parent:=(p:Int)}):=by
  unfold putAt
  rw[G6]
  dsimp only
  rw[qY,Int.toNat_natCast,List.getElem?_set_ne (Ne.symm bI),EM]
 rw[kF] at hk
 have tail:∀h2 cH,dD h2 cH s t (eD ns id).1->Ext s h col h2 cH->Xdy.n8 (some t) (p:Int) before id (fun y8 h=>K (.bool y8) h) (fun y8 h=>K (.bool y8) h) h2:=by
  intro h2 cH T2 E2
  have hyf:=G1.nh G6
  have Xp:=T2.nh
  have T20:=T2
  obtain⟨lb,lc,rs,C,em⟩:=T2
  obtain⟨q,hq,rfl⟩:=fx em G6
  have Np:=C.nodes p q hq
  have dJ:=Np.ok.len
  have oV:=Np.ok.own.cap
  have rk:=Np.ok.row (A:=rX h2.size) Np.ok.hi
  have hri:=dv EM
  have hrp:=dv G6
  refine wb T20 G6 (aN (iy C hq fun a2 nG=>⟨_,_,_,nG 7 _ rfl,?_⟩))
  rw[qY,ei]
  refine⟨by omega,tp tV (KB.refl h2) (bE.none _ _ _) (rk.sub (lo:=0) (hi:=k) (z:=1) (by omega) (by omega) rfl) (by omega) (by decide) fun b3 c3 h3 o3 k3=>aC ?_⟩
  refine Po tV (x:=(i:Int)) (fun A h=>⟨rfl,jt (by omega) (by omega)⟩) o3 k3.1 (by simp only[maxLen];omega) (by omega) fun b4 c4 h4 o4 k4=>aC ?_
  have sx:KB h2 h4:=⟨Nat.le_trans k3.1 k4.1,fun q hq=>(k4.2 q hq).trans (k3.2 q hq)⟩
  refine iy (C.kb sx) hq fun a3 B7=>⟨_,_,_,B7 7 _ rfl,by omega,tp tV sx o4 ((rk.kb sx).sub (lo:=k) (hi:=q.kn) (z:=1) (by omega) (by omega) rfl) (by omega) (by decide) fun b5 c5 h5 o5 k5=>aC (aa ⟨_,_,_,(C.kb k5).v.cell 0 rfl,?_⟩)⟩
  have el:(([]++(q.x.kids.take k).drop 0)++ [(i:Int)])++(q.x.kids.take q.kn).drop k=q.x.kids.take k++(i:Int)::q.x.kids.drop k:=by
   rw[List.nil_append,List.drop_zero,List.take_of_length_le (l:=q.x.kids) (i:=q.kn) (by omega),List.append_assoc];rfl
  rw[el] at o5
  refine sM C hq (HK k5 _) (HJ o5) (fun z ez=>.inr (o5.lo z ez)) fun h6 OG C6 E6 _=>?_
  exact AX ⟨_,_,_,C6,map_set em⟩ (by rw[List.getElem?_set_ne (Ne.symm bI)];exact EM) (jt (by omega) (by omega)) fun h7 T7 E7 _=>hk h7 OG T7 ((E2.trans E6).trans E7)
 exact ZN T G fun h2 cH T2 E2=>ag (aR (fun _=>tail h2 cH T2 E2) fun _=>tail h2 cH T2 E2)
end
section
variable {h h':H} {K:KV} {col col':cd} {s i p:Nat} {t a:Addr} {ns:List ay} {x y:ay} {lb:OA} {lc:Nat} {rs:List jR} {r:jR}
theorem Qo (T:dD h col s t ns) (G:aV ns) {parent before:Int} {tx:Bs} (hlen:∀(i:Nat) x,ns[i]? =some x->x.text.length+tx.length<=9223372036854775807) (Fh:tx.length<=maxLen) (lW:ns.length<1000000)
  (hk:∀h' col',dD h' col' s t (cy ns parent before tx).1->Ext s h col h' col'->K (.bool (cy ns parent before tx).2) h'):
  zC 60 [.pointer (some t),.int .i64 parent,.int .i64 before,S tx] h K:=by
 refine Xd0.ok _ _ _ _ _ _ (vV T (ag (aR (fun hh=>?_) fun hh=>?_)))
 ·obtain⟨p,y,ep,hy,mK⟩:=iR hh
  have qB:=dv hy
  have pD:(((ns[parent.toNat]?).map (·.kids)).getD [])=y.kids:=by rw[ep,Int.toNat_natCast,hy];rfl
  unfold cy at hk
  rw[pD] at hk
  have T0:=T
  have It:=T.nh
  have XW:=G.nh hy
  rw[ep]
  refine aF (wb T hy (aN (bh (fun e=>?_) fun e=>?_)))
  ·rw[if_pos (fun TY=>by have:=TY.2;omega)] at hk
   exact hk h col T (Ext.refl _ _ _)
  ·rw[if_neg (fun hn=>hn ⟨hh,by omega⟩)] at hk
   refine bh (fun e2=>?_) fun e2=>?_
   ·rw[if_pos e2] at hk
    exact hk h col T (Ext.refl _ _ _)
   ·rw[if_neg e2] at hk
    obtain⟨k,qY⟩:=Int.eq_ofNat_of_zero_le (show 0<=fh y.kids before by omega)
    have qY:fh y.kids before=(k:Int):=qY
    rw[qY,Int.toNat_natCast,ep] at hk
    have other:((y.kids[k - 1]?).bind (fun q:Int=>if 0<(k:Int) then(ns[q.toNat]?).bind fun z=>if z.kind=2 then some (q.toNat,z) else none else none))=none->Xd0.n8 (some t) (p:Int) before tx (fun y8 h=>K (.bool y8) h) (fun y8 h=>K (.bool y8) h) h:=fun KQ=>by
     rw[KQ] at hk
     refine wI T (A:=fun _=>True) (attrs:=[]) ⟨rfl,Nat.le_refl _,Nat.zero_le _,fun i x hx=>by simp at hx⟩ (by omega) ⟨by decide,by decide⟩ ⟨by decide,by decide⟩ (Nat.zero_le _) Fh lW fun h2 cH T2 E2=>aN ?_
     exact GS T2 (G.bF _ _ _ _ _) fun h3 col3 T3 E3=>ag (aR (fun eb=>by have:=hk h3 col3 T3 (E2.trans E3);rw[eb] at this;exact this) fun eb=>by have:=hk h3 col3 T3 (E2.trans E3);rw[eb] at this;exact this)
    rw[qY]
    refine bh (fun e3=>?_) fun e3=>other (by
     have e4:¬0<(k:Int):=e3
     simp only[if_neg e4]
     cases y.kids[k - 1]? <;> rfl)
    obtain⟨lb,lc,rs,C,em⟩:=T
    obtain⟨q,hq,rfl⟩:=fx em hy
    have N:=C.nodes p q hq
    have dJ:=N.ok.len
    have YL:k<=q.x.kids.length:=by
     have:=qY
     unfold fh A8 at this
     by_cases eb:before= -1
     ·rw[if_pos eb] at this;omega
     ·rw[if_neg eb] at this
      by_cases em:before ∈ q.x.kids
      ·rw[if_pos em] at this;have:=qg em;omega
      ·rw[if_neg em] at this;omega
    have ek:((k:Int) - 1)=((k - 1:Nat):Int):=by omega
    refine aF (iy C hq fun a hc=>⟨_,_,_,hc 7 _ rfl,jt (by omega) (by omega),?_⟩)
    rw[ek]
    have bM:k - 1<q.x.kids.length:=by omega
    refine(N.ok.row (A:=fun _=>True) fun _ _=>trivial).bn bM rfl fun a hA=>Fx hA fun _=>?_
    obtain⟨j,z,ej,iJ,KJ⟩:=(G.lq p _ _ hy).1 (List.getElem_mem bM)
    have fY:=dv iJ
    rw[ej]
    obtain⟨w,hw,rfl⟩:=fx em iJ
    have Nw:=C.nodes j w hw
    have Db:((q.x.kids[k - 1]?).bind (fun q:Int=>if 0<(k:Int) then(ns[q.toNat]?).bind fun z=>if z.kind=2 then some (q.toNat,z) else none else none))=if w.x.kind=2 then some (j,w.x) else none:=by
     rw[List.getElem?_eq_getElem bM,ej]
     show(if 0<(k:Int) then(ns[((j:Nat):Int).toNat]?).bind _ else none)=_
     rw[if_pos (by omega),Int.toNat_natCast,iJ]
     rfl
    refine iy C hw fun a2 nG=>⟨_,Ab nG 0 rfl,bh (fun e4=>?_) fun e4=>aE (other (by rw[Db,if_neg e4]))⟩
    rw[Db,if_pos e4] at hk
    have hlz:=hlen j _ iJ
    refine aF (aa ⟨_,_,_,C.v.cell 0 rfl,iy C hw fun a3 B7=>⟨_,Ab B7 4 rfl,?_,?_⟩⟩)
    ·show((w.x.text.length+tx.length:Nat):Int)<=9223372036854775807
     omega
    ·refine Aa C hw (f:=4) (r':={w with x:={w.x with text:=w.x.text++tx}}) (by omega) rfl rfl ⟨rfl,rfl,rfl,rfl,rfl,rfl,rfl,rfl⟩ ⟨Nw.rk,Nw.rs,Nw.rp,Nw.fn,?_⟩ fun h2 C2 E2 _=>hk h2 col ⟨_,_,_,C2,map_set em⟩ E2
     show(w.x.text++tx).length<=_
     rw[List.length_append];simp only[maxLen];omega
 ·have:cy ns parent before tx=(ns,false):=by
   unfold cy
   rw[if_pos (fun hy=>by rw[hh] at hy;cases hy.1)]
  rw[this] at hk
  exact hk h col T (Ext.refl _ _ _)
end
theorem _root_.Go.Sh.bE.Gd {α:Type} {E:El α} {h h':H} {base e n c g:Nat} {b:OA} {l:List α} (o:bE E h base e b n c l) (k:KX g h h') (hf:Flat E) (bI:∀q,b=some q->q.block≠g):bE E h' base e b n c l:=
 ⟨o.own.uB k.w hf fun g e _ _=>bI _ e,o.lo,fun a ea=>Nat.lt_of_lt_of_le (o.hi a ea) k.1,o.nil⟩
section
variable {h h':H} {K:KV} {col col':cd} {s i p:Nat} {t a:Addr} {ns:List ay} {x y z:ay} {lb:OA} {lc:Nat} {rs:List jR} {r:jR}
theorem MX (B:G7 z) {ab kb:OA} {an ac kn kc:Nat} {A:Nat->Prop} (r:Row aW A h ab an ac z.attrs) (GN:an<=1000000)
  (hk:∀b' n' c' h',bE aW h' h.size 67 b' n' c' z.attrs->KB h h'->K (.agg ⟨[.int .u8 z.kind,.int .u8 z.space,S z.name,.slice b' n' c',S z.text,.slice none 0 0]⟩) h'):
  zC 126 [.agg ⟨[.int .u8 z.kind,.int .u8 z.space,S z.name,.slice ab an ac,S z.text,.slice kb kn kc]⟩] h K:=by
 refine MT r GN (fun e b' c' h' o k=>?_) fun e h' k=>?_
 ·rcases B with ⟨_,et⟩ | ⟨e2,_⟩
  ·have:=hk b' an c' h' o k
   rw[et] at this
   exact this
  ·exact absurd e e2
 ·rcases B with ⟨e2,_⟩ | ⟨_,e1,e2,e3⟩
  ·exact absurd e2 e
  ·have:=hk none 0 0 h' (by rw[e3];exact bE.none _ _ _) k
   rw[e1,e2] at this
   exact this
theorem Ov (G:aV ns) (B:gT ns):∀(d:Nat) (id:Int) {h:H} {K:KV} (T:dD h col s t ns) (hd:Deep d ns id)
  (hk:∀h' b n c,KB h h'->ed (dC d) h' h.size 70 b n c (cT d ns id)->K (.slice b n c) h'),
  zC 50 [.pointer (some t),.int .i64 id] h K:=by
 intro d
 induction d with
 | zero=>intro id h K T hd;exact hd.elim
 | succ d ZO=>
  intro id h K T hd hk
  have It:=T.nh
  refine Oh.ok _ _ _ _ (lM T (ag (aR (fun e=>?_) fun e=>?_)))
  ·have e:=of_decide_eq_true e
   obtain⟨i,rfl⟩:=Int.eq_ofNat_of_zero_le e.1
   have hx:ns[i]? =some (ns[i]'(by omega)):=List.getElem?_eq_getElem (by omega)
   generalize ns[i]'(by omega)=x at hx
   have T0:=T
   have hfx:=G.nh hx
   obtain⟨lb,lc,rs,C,em⟩:=T
   obtain⟨r,hr,rfl⟩:=fx em hx
   have N:=C.nodes i r hr
   have dJ:=N.ok.len
   have ew:cT (d+1) ns (i:Int)=r.x.kids.map fun k=>nZ ns k (cT d ns k):=by
    show(qT ns (i:Int)).map _=_
    rw[kT hx]
   have hdk:∀k ∈ r.x.kids,Deep d ns k:=by
    have:=hd
    intro k yi
    exact this k (by rw[kT hx];exact yi)
   have hk:∀h' b n c,KB h h'->ed (dC (d+1)) h' h.size 70 b n c (cT (d+1) ns (i:Int))->K (.slice b n c) h':=hk
   rw[ew] at hk
   refine aF (iy C hr fun a hc=>⟨_,_,_,hc 7 _ rfl,r.kn+1,?_⟩)
   have key:∀N' m h2 ob oc (out:List bZ),m+N'=r.kn->KB h h2->ed (dC (d+1)) h2 h.size 70 ob m oc out->out=(r.x.kids.take m).map (fun k=>nZ ns k (cT d ns k))->
     Oh.Ac (fun Ge Gf Gg h=>Oh.n7 Ge Gf Gg (fun fJ fK fL h=>K (.slice fJ fK fL) h) (fun fJ fK fL h=>K (.slice fJ fK fL) h) h) (fun Ge Gf Gg h=>Oh.n7 Ge Gf Gg (fun fJ fK fL h=>K (.slice fJ fK fL) h) (fun fJ fK fL h=>K (.slice fJ fK fL) h) h) (fun fJ fK fL h=>K (.slice fJ fK fL) h) (N'+1) (some t) ob m oc r.kb r.kn r.kc (m:Int) h2:=by
    intro N'
    induction N' with
    | zero=>
     intro m h2 ob oc out OB k2 o2 eo
     unfold Oh.Ac
     refine bX (by omega) ?_
     rw[List.take_of_length_le (by omega)] at eo
     rw[eo] at o2
     exact hk h2 ob m oc k2 o2
    | succ N' ih=>
     intro m h2 ob oc out OB k2 o2 eo
     have jn:m<r.x.kids.length:=by omega
     have Iu:fG h2 r.kb r.kn r.kc r.x.kids:=N.ok.keep (KB.w k2) fun q e=>N.ok.hi q e
     obtain⟨j,z,ej,iJ,KJ⟩:=(G.lq i _ _ hx).1 (List.getElem_mem jn)
     have fY:=dv iJ
     obtain⟨w,hw,rfl⟩:=fx em iJ
     have C2:=C.kb k2
     have Nw:=C2.nodes j w hw
     have Bw:=B.all j _ iJ
     have afY:=Nw.ra.len
     have hfa:=Nw.fa
     have hdj:Deep d ns (j:Int):=by rw[<-ej];exact hdk _ (List.getElem_mem jn)
     have S6:=k2.1
     have Ia:=o2.hi
     have rdI:∀(h3:H) (Q:Int->Prop),KB h2 h3->Q (j:Int)->(0<=(m:Int)/\(m:Int)<(r.kn:Int))/\ae r.kb fun a=>∃i,cell h3 (a.add (Int.toNat (m:Int)*1))=some (.int .i64 i)/\Q i:=fun h3 Q k3 hq=>by
      have Yn:fG h3 r.kb r.kn r.kc r.x.kids:=Iu.keep (KB.w k3) fun q e=>Iu.hi q e
      refine(Yn.row (A:=fun _=>True) fun _ _=>trivial).bn jn rfl fun q hA=>Fx hA fun _=>?_
      rw[ej];exact hq
     have tail:∀(a3:Addr) (h4:H) (b5:OA) (n5 c5 base:Nat),KB h2 h4->Var h4 a3 70 [.int .u8 w.x.kind,.int .u8 w.x.space,S w.x.name,.slice b5 n5 c5,S w.x.text,.slice none 0 0]->h2.size<=a3.block->h2.size<=base->bE aW h4 base 67 b5 n5 c5 w.x.attrs->(∀q,b5=some q->q.block≠a3.block)->
       ((0<=(m:Int)/\(m:Int)<(r.kn:Int))/\(ae r.kb fun ag1=>∃i105,cell h4 (ag1.add (Int.toNat (m:Int)*1))=some (.int .i64 i105)/\(zC 50 [(.pointer (some t)),(.int .i64 i105)] h4 fun H2 Cl=>aA H2 fun wk wm wo=>aZ (a3.add 5) [(.slice wk wm wo)] 0 Cl fun yX=>∃i110,cell yX ((a3).add 0)=some (.int .u8 i110)/\(∃i111,cell yX ((a3).add 1)=some (.int .u8 i111)/\(∃ZP,cell yX ((a3).add 2)=some (S ZP)/\(∃Sj Sk Sm,cell yX ((a3).add 3)=some (.slice Sj Sk Sm)/\(∃ZQ,cell yX ((a3).add 4)=some (S ZQ)/\(∃Sn Sp Sq,cell yX ((a3).add 5)=some (.slice Sn Sp Sq)/\(aw yX #[(.int .u8 i110),(.int .u8 i111),(S ZP),(.slice Sj Sk Sm),(S ZQ),(.slice Sn Sp Sq)] 70 fun a116 Qp=>bf Tryz.prog (Builtin.append_ #[25,25] 25 ⟨[(.slice ob m oc),(.slice (some a116) 1 1)]⟩) Qp fun ag2 ag3=>aA ag2 fun ZR ZS ZT=>bc .i64 ((m:Int)+(1:Int))/\(Oh.Ac (fun Ge Gf Gg h=>Oh.n7 Ge Gf Gg (fun fJ fK fL h=>K (.slice fJ fK fL) h) (fun fJ fK fL h=>K (.slice fJ fK fL) h) h) (fun Ge Gf Gg h=>Oh.n7 Ge Gf Gg (fun fJ fK fL h=>K (.slice fJ fK fL) h) (fun fJ fK fL h=>K (.slice fJ fK fL) h) h) (fun fJ fK fL h=>K (.slice fJ fK fL) h) (N'+1) (some t) ZR ZS ZT r.kb r.kn r.kc ((m:Int)+(1:Int)) ag3)))))))))):=by
      intro a3 h4 b5 n5 c5 base sx v4 ha3 ik o5 bI
      have hs4:=sx.1
      refine rdI h4 _ sx (ZO (j:Int) (T0.kb (k2.trans sx)) hdj fun h6 b6 n6 c6 k6 o6=>aC ?_)
      have hs6:=k6.1
      have hv4:=v4.lt
      refine ck (m:=5) (i:=0) (v4.kb k6) (by show 5+0+1<=6;omega) fun h8 v8 k8 s8=>?_
      have v8:Var h8 a3 70 [.int .u8 w.x.kind,.int .u8 w.x.space,S w.x.name,.slice b5 n5 c5,S w.x.text,.slice b6 n6 c6]:=v8
      refine⟨_,v8.cell 0 rfl,_,v8.cell 1 rfl,_,v8.cell 2 rfl,_,_,_,v8.cell 3 rfl,_,v8.cell 4 rfl,_,_,_,v8.cell 5 rfl,af fun a9 h9 v9 k9 e9 s9=>?_⟩
      have OS:KB h2 h8:=KB.step (sx.trans k6) k8 (by omega)
      have o9:ed (dC (d+1)) h9 h.size 70 ob m oc out:=(o2.kb OS).kb k9
      have oa:bE aW h9 base 67 b5 n5 c5 w.x.attrs:=((o5.kb k6).Gd k8 fE bI).kb k9
      have Qq:ed (dC d) h9 h4.size 70 b6 n6 c6 (cT d ns j):=(o6.kw (k8.w.less fun g (hg:h4.size<=g)=>by omega)).kb k9
      have hR:tq (d+1) (fun k=>h.size<=k/\Cy h9 ob k) h9 (.mk w.x.kind w.x.space w.x.name w.x.attrs w.x.text (cT d ns j)) [.int .u8 w.x.kind,.int .u8 w.x.space,S w.x.name,.slice b5 n5 c5,S w.x.text,.slice b6 n6 c6]:=
       MY (x:=.mk w.x.kind w.x.space w.x.name w.x.attrs w.x.text (cT d ns j)) (oa.behind fE fun k h1 ve=>⟨by omega,ve,fun q e=>by have:=Ia q e;omega⟩) oa.nil
        (Qq.row.keep (bY.refl _ _) fun k hk hs=>⟨by have:=hk.1;omega,hs,fun q e=>by have:=Ia q e;have:=hk.1;omega⟩) Qq.nil Nw.rk Nw.rs Nw.fn Nw.ft
      have r9:Row (dC (d+1)) (fun k=>h.size<=k/\Cy h9 ob k) h9 (some a9) 1 1 [.mk w.x.kind w.x.space w.x.name w.x.attrs w.x.text (cT d ns j)]:=v9.vg hR ⟨by omega,v9.lt,fun q e=>by have:=Ia q e;omega⟩
      refine ed.append (Qr (d+1)) o9 r9 (by simp only[maxLen];omega) (by omega) (by omega) fun J7 On cS OD g10=>aC ⟨jt (by omega) (by omega),?_⟩
      refine ih (m+1) cS J7 On _ (by omega) ?_ OD ?_
      ·exact g10.vN ((k2.trans OS).trans k9) fun q e=>o2.lo q e
      ·rw[eo,List.take_add_one,List.getElem?_eq_getElem jn,List.map_append,ej]
       congr 1
       show [_]=[nZ ns (j:Int) _]
       unfold nZ
       rw[Int.toNat_natCast,iJ]
     unfold Oh.Ac
     refine bQ (by omega) ⟨aa ⟨_,_,_,C2.v.cell 0 rfl,rdI h2 _ (KB.refl h2) (MP C2 hw fun a2 nG=>?_)⟩,aa ⟨_,_,_,C2.v.cell 0 rfl,rdI h2 _ (KB.refl h2) (MP C2 hw fun a2 nG=>?_)⟩⟩
     ·refine⟨_,Ab nG 0 rfl,_,Ab nG 1 rfl,_,Ab nG 2 rfl,_,_,_,Ab nG 3 rfl,_,Ab nG 4 rfl,_,_,_,Ab nG 5 rfl,MX Bw Nw.ra (by omega) fun b5 n5 c5 h3 o3 k3=>Qn (af fun a4 h4 v4 k4 e4 s4=>aQ v4 (Nat.le_refl 6) fun h5 v5 k5 s5=>?_)⟩
      have hs3:=k3.1
      exact tail a4 h5 b5 n5 c5 h2.size (KB.step (k3.trans k4) k5 (by omega)) v5 (by omega) (Nat.le_refl _) ((o3.kb k4).Gd k5 fE fun q e=>by have:=o3.hi q e;omega) fun q e=>by have:=o3.hi q e;omega
     ·refine⟨_,Ab nG 0 rfl,_,Ab nG 1 rfl,_,Ab nG 2 rfl,_,_,_,Ab nG 3 rfl,_,Ab nG 4 rfl,_,_,_,Ab nG 5 rfl,af fun a4 h4 v4 k4 e4 s4=>⟨k4.ext,?_⟩⟩
      refine MX Bw ((C2.kb k4).nodes j w hw).ra (by omega) fun b5 n5 c5 h3 o3 k3=>Qn (aQ (v4.kb k3) (Nat.le_refl 6) fun h5 v5 k5 s5=>?_)
      have hs3:=k3.1
      exact tail a4 h5 b5 n5 c5 h4.size (KB.step (k4.trans k3) k5 (by omega)) v5 (by omega) (by omega) (o3.Gd k5 fE fun q e=>by have:=o3.lo q e;omega) fun q e=>by have:=o3.lo q e;omega
   exact key r.kn 0 h none 0 [] (by omega) (KB.refl h) (ed.none _ _ _) rfl
  ·have e0:=of_decide_eq_false e
   have e:cT (d+1) ns id=[]:=by
    unfold cT qT
    by_cases h0:0<=id
    ·rw[if_pos h0,List.getElem?_eq_none (by omega)];rfl
    ·rw[if_neg h0];rfl
   rw[e] at hk
   exact hk h none 0 0 (KB.refl h) (ed.none _ _ _)
end
end Go.Proofs
