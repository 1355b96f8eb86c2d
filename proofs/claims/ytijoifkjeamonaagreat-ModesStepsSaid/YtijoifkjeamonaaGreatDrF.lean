import Derived.Test.YtijoifkjeamonaaGreatHc
import Derived.Test.YtijoifkjeamonaaGreatPcD
import Derived.Test.YtijoifkjeamonaaGreatMsK
import Derived.Test.YtijoifkjeamonaaGreatOpA
import Derived.Test.YtijoifkjeamonaaGreatTxD
namespace Go.Proofs
open Go Go.Sh
set_option linter.unusedVariables false
set_option maxRecDepth 100000
theorem D3 {α:Type} {E:El α} {t e0 by':Nat} (ap:oH Tryz.prog E t e0 by') (XG:Dd (Tryz.prog.underlying t)=true) {A:Nat->Prop} {h:H} {b:OA} {n c:Nat} {l:List α} {xs:List Value} {x y:Operand} (hA:∀k,A k->k<h.size)
  (he:eH E A h l xs) (hc:Cells h b xs) (hl:l.length=n) (hcap:n<=c) (hz:b=none->c=0) (hn:n<=1000000) (hb:by'<=1000)
  {Kr:OA->Nat->Nat->H->Prop} (hk:∀b' c' h',bO E A h' h.size e0 b' n c' l->KB h h'->Kr b' n c' h'):
  aZ Tryz.prog (dy .eql t x y (.slice b n c) (.slice none 0 0)) h fun v9 df=>au v9 fun Zg=>cond Zg (Kr none 0 0 df) (aw df #[] e0 fun a12 fI=>aZ Tryz.prog (Builtin.append_ #[t,t] t ⟨[(.slice (some a12) 0 0),(.slice b n c)]⟩) fI fun qO gA=>aB qO fun hU hX hZ=>Kr hU hX hZ gA):=by
 refine(wX XG ?_).h
 refine ag (aR (fun e=>?_) fun e=>?_)
 ·have hb:b=none:=by simpa using e
  have hc:=hz hb
  have Pn:n=0:=by omega
  subst Pn
  have:l=[]:=List.eq_nil_of_length_eq_zero hl
  subst this
  exact hk none 0 h (bO.none _ _ _ _) (KB.refl h)
 ·refine af (cs:=[]) fun a h1 v1 k1 e1 s1=>?_
  have o1:bO E A h1 h.size e0 (some a) 0 0 []:=⟨dX.nil _ _ _ _ _,(fun q e=>by cases e;omega),(fun q e=>by cases e;exact v1.lt),fun e=>by cases e⟩
  have Te:(0+n)*by'<=140737488355328:=by
   have:(0+n)*by'<=1000000*1000:=Nat.mul_le_mul (by omega) hb
   omega
  refine bO.append ap o1 hA hl (he.keep ((KB.w k1).less fun k hk=>hk.2) fun _ h _=>h) (fun j v hv=>by
   obtain⟨q,e,ec⟩:=hc j v hv
   exact⟨q,e,(KB.w k1).cell (fP ec) ec⟩) (by simp only[maxLen];omega) Te (by omega) fun b' c' h' o' g'=>aH ?_
  rw[Nat.zero_add] at o' ⊢
  exact hk b' c' h' o' (g'.yj k1 fun q e=>by cases e;omega)
theorem fq {A:Nat->Prop} {h:H} {K:KV} {b:OA} {n c:Nat} {l:List aS} {xs:List Value} (hA:∀k,A k->k<h.size) (he:eH aX A h l xs) (hc:Cells h b xs) (hl:l.length=n) (hcap:n<=c) (hz:b=none->c=0) (hn:n<=1000000)
  (hk:∀b' c' h',bO aX A h' h.size 79 b' n c' l->KB h h'->K (.slice b' n c') h'):zC 63 [.slice b n c] h K:=
 Xfx.ok _ _ _ _ _ (D3 (Kr:=fun b n c h=>K (.slice b n c) h) db (by kernel_rfl) hA he hc hl hcap hz hn (by decide) hk)
theorem BR {h:H} {K:KV} {b:OA} {n c:Nat} {l:List aP} {A0:Nat->Prop} {xs:List Value} (he:eH bo A0 h l xs) (hc:Cells h b xs) (hl:l.length=n) (hcap:n<=c) (hz:b=none->c=0) (hn:n<=1000000)
  (hk:∀b' c' h',bO bo vf h' h.size 77 b' n c' l->KB h h'->K (.slice b' n c') h'):zC 196 [.slice b n c] h K:=
 Xfy.ok _ _ _ _ _ (D3 (Kr:=fun b n c h=>K (.slice b n c) h) iu (by kernel_rfl) (A:=vf) (fun k hk=>hk.elim) (eH.flat ko he) hc hl hcap hz hn (by decide) hk)
section
variable {h h1:H} {K:KV} {col:bY} {s ty:Nat} {w t:Addr} {op:List aP} {mk:List aS} {fo:Bool} {hi:Int}
theorem aa5 (W:bq h col s ty w t op mk fo hi) {p k:Nat} {col':bY} (hc:col' w.block=some (s,0)) (hp:p≠0) (h2:col' k=none∨col' k=some (s,p)):k≠w.block:=fun e=>by
 subst e
 rcases h2 with h2 | h2
 ·rw[hc] at h2;cases h2
 ·rw[hc] at h2;cases h2;exact hp rfl
theorem dY (W:bq h col s ty w t op mk fo hi) (f:bh h col) (k:KB h h1) {b:OA} {n c:Nat} {mk':List aS} (o':bO aX (bT col h) h1 h.size 79 b n c mk') {Q:H->Prop}
  (hk:∀h',bq h' (cz col h b (s,2)) s ty w t op mk' fo hi->al (fun k=>k=s) h col h' (cz col h b (s,2))->bh h' (cz col h b (s,2))->cell h' (w.add 2)=some (.slice b n c)->Q h'):bc (w.add 2) [.slice b n c] 0 h1 Q:=by
 obtain⟨ob,oc,mb,mn,mc,v,o,om⟩:=W.ex
 refine cv (m:=2) (i:=0) (v.kb k) (by show 2+0+1<=5;omega) fun h3 v3 k3 s3=>?_
 have B7:∀q,q<h.size->cz col h b (s,2) q=col q:=fun q hq=>eJ hq
 have zz:cz col h b (s,2) w.block=some (s,0):=by rw[B7 _ v.lt];exact W.col
 have f1:bh h1 (cz col h b (s,2)):=f.cz k.1 o'.hi
 have hw1:∀q,q<h1.size->∀p,p≠0->(cz col h b (s,2) q=none∨cz col h b (s,2) q=some (s,p))->q≠w.block:=fun q hq p hp h2=>aa5 W zz hp h2
 have o1:du bo h1 (cz col h b (s,2)) (s,1) 77 ob op.length oc op:=o.keep k.w B7 fun q hq _=>hq
 have o3:=o1.keep (h':=h3) (col':=cz col h b (s,2)) k3.w (fun _ _=>rfl) fun q hq h2=>hw1 q hq 1 (by decide) h2
 have om1:du aX h1 (cz col h b (s,2)) (s,2) 79 b n c mk':=o'.toC k.1
 have Az:=om1.keep (h':=h3) (col':=cz col h b (s,2)) k3.w (fun _ _=>rfl) fun q hq h2=>hw1 q hq 2 (by decide) h2
 exact hk h3 ⟨⟨ob,oc,b,n,c,v3,o3,Az⟩,zz,W.rh⟩
  ⟨(k.less fun q hq=>hq.1).trans (k3.less fun q hq e=>hq.2 s 0 rfl (by rw[e];exact W.col)),B7⟩ (fun q hq=>f1 q (by rw[<-s3];exact hq)) (v3.cell 2 rfl)
theorem tN (W:bq h col s ty w t op mk fo hi) (f:bh h col) (k:KB h h1) {b:OA} {n c:Nat} {TL:List aP} (o':bO bo vf h1 h.size 77 b n c TL) {Q:H->Prop}
  (hk:∀h',bq h' (cz col h b (s,1)) s ty w t TL mk fo hi->al (fun k=>k=s) h col h' (cz col h b (s,1))->bh h' (cz col h b (s,1))->cell h' (w.add 1)=some (.slice b n c)->Q h'):bc (w.add 1) [.slice b n c] 0 h1 Q:=by
 obtain⟨ob,oc,mb,mn,mc,v,o,om⟩:=W.ex
 have hlen:=o'.len
 refine cv (m:=1) (i:=0) (v.kb k) (by show 1+0+1<=5;omega) fun h3 v3 k3 s3=>?_
 have B7:∀q,q<h.size->cz col h b (s,1) q=col q:=fun q hq=>eJ hq
 have zz:cz col h b (s,1) w.block=some (s,0):=by rw[B7 _ v.lt];exact W.col
 have f1:bh h1 (cz col h b (s,1)):=f.cz k.1 o'.hi
 have hw1:∀q,q<h1.size->∀p,p≠0->(cz col h b (s,1) q=none∨cz col h b (s,1) q=some (s,p))->q≠w.block:=fun q hq p hp h2=>aa5 W zz hp h2
 have om1:du aX h1 (cz col h b (s,1)) (s,2) 79 mb mn mc mk:=om.keep k.w B7 fun q hq _=>hq
 have Az:=om1.keep (h':=h3) (col':=cz col h b (s,1)) k3.w (fun _ _=>rfl) fun q hq h2=>hw1 q hq 2 (by decide) h2
 have oA:bO bo (bT col h) h1 h.size 77 b n c TL:=⟨o'.own.flat ko,o'.lo,o'.hi,o'.nil⟩
 have o1:du bo h1 (cz col h b (s,1)) (s,1) 77 b n c TL:=oA.toC k.1
 have o3:=o1.keep (h':=h3) (col':=cz col h b (s,1)) k3.w (fun _ _=>rfl) fun q hq h2=>hw1 q hq 1 (by decide) h2
 subst hlen
 exact hk h3 ⟨⟨b,c,mb,mn,mc,v3,o3,Az⟩,zz,W.rh⟩
  ⟨(k.less fun q hq=>hq.1).trans (k3.less fun q hq e=>hq.2 s 0 rfl (by rw[e];exact W.col)),B7⟩ (fun q hq=>f1 q (by rw[<-s3];exact hq)) (v3.cell 1 rfl)
theorem oZ (W:bq h col s ty w t op mk fo hi) (f:bh h col) {a:Addr} {n c:Nat} (hc:cell h (w.add 2)=some (.slice (some a) n c)) {i:Nat} (Ay:i<mk.length) {id:Int} (hid:bd .i64 id) {Q:H->Prop}
  (hk:∀h',bq h' col s ty w t op (mk.set i (id,mk[i].2)) fo hi->al (fun k=>k=s) h col h' col->bh h' col->cell h' (w.add 2)=some (.slice (some a) n c)->Q h'):bc ((a.add (i*3)).add 0) [.int .i64 id] 0 h Q:=by
 obtain⟨ob,oc,mb,mn,mc,v,o,om⟩:=W.ex
 have e1:some (Value.slice (some a) n c)=some (.slice mb mn mc):=hc.symm.trans (v.cell 2 rfl)
 cases e1
 obtain⟨xs,ow,en⟩:=om.own.own
 have hl:=om.len
 rcases ow.is with ⟨h0,_⟩ | ⟨g,cur,ea,ym,hg,hcs,pP⟩
 ·omega
 cases ea
 have JJ:g<h.size:=(Array.getElem?_eq_some_iff.1 hg).1
 have wO:xs.length=n*3:=ow.len
 have hcs:cur.size=c*3:=hcs
 have pP:cur.toList.take (n*3)=xs:=pP
 have hcap:=ow.cap
 have vL:i*3<n*3:=by omega
 have ha:((((⟨g,0,none⟩:Addr).add (i*3)).add 0).add 0)=⟨g,i*3,none⟩:=by rw[add_zero',add_zero',IK]
 have Lv:i*3<cur.size:=by omega
 unfold bc
 rw[ha]
 refine⟨⟨cur[i*3],by unfold cell;simp only[hg];simp[Lv]⟩,by unfold FJ;simp only[hg];simp,?_⟩
 show Q (eE h ⟨g,i*3,none⟩ (.int .i64 id))
 have jF:eE h ⟨g,i*3,none⟩ (.int .i64 id)=h.setIfInBounds g (.cells (cur.setIfInBounds (i*3) (.int .i64 id)) 79 (0,0)):=by
  unfold eE
  apply Array.ext_getElem?
  intro k
  rw[Array.getElem?_modify,Array.getElem?_setIfInBounds]
  by_cases hk:g=k
  ·subst hk
   rw[if_pos rfl,if_pos rfl,if_pos JJ,hg];rfl
  ·rw[if_neg hk,if_neg hk]
 have Gc:=om.col _ rfl
 have Gc:col g=some (s,2):=Gc
 have kx:KX g h (eE h ⟨g,i*3,none⟩ (.int .i64 id)):=⟨by rw[jF];simp,fun k hk=>by rw[jF,Array.getElem?_setIfInBounds,if_neg (fun e=>hk e.symm)]⟩
 have hs:(eE h ⟨g,i*3,none⟩ (.int .i64 id)).size=h.size:=by rw[jF];simp
 have hwg:w.block≠g:=fun e=>by have:=W.col;rw[e,Gc] at this;cases this
 have v':Var (eE h ⟨g,i*3,none⟩ (.int .i64 id)) w ty [.pointer (some t),.slice ob op.length oc,.slice (some ⟨g,0,none⟩) n c,.bool fo,.int .i64 hi]:=v.keep kx.w hwg
 have o':=o.keep (h':=eE h ⟨g,i*3,none⟩ (.int .i64 id)) (col':=col) kx.w (fun _ _=>rfl) fun k hk h2 e=>by
  subst e
  rcases h2 with h2 | h2
  ·rw[Gc] at h2;cases h2
  ·rw[Gc] at h2;cases h2
 have hx:mk[i]? =some mk[i]:=List.getElem?_eq_getElem Ay
 have en2:eH aX (bT col h) h (mk.set i (id,mk[i].2)) (xs.set (i*3+0) (.int .i64 id)):=eH.set en hx (by decide) fun cs hR=>by
  obtain⟨c1,c2,e,h1,h2⟩:=hR
  rw[h1.1] at e
  subst e
  exact⟨[.int .i64 id],c2,rfl,⟨rfl,hid⟩,h2⟩
 have en3:eH aX (bT col (eE h ⟨g,i*3,none⟩ (.int .i64 id))) (eE h ⟨g,i*3,none⟩ (.int .i64 id)) (mk.set i (id,mk[i].2)) (xs.set (i*3+0) (.int .i64 id)):=
  en2.keep (kx.w.less fun k hk e=>by have h9:col k=none:=hk.1.1;rw[e,Gc] at h9;cases h9) fun k hk _=>⟨hk.1,by rw[hs];exact hk.2⟩
 refine hk _ ⟨⟨ob,oc,some ⟨g,0,none⟩,n,c,v',o',⟨⟨by rw[List.length_set];exact hl,xs.set (i*3+0) (.int .i64 id),⟨by rw[List.length_set];exact ow.len,ow.cap,ow.max,.inr ⟨g,cur.setIfInBounds (i*3) (.int .i64 id),rfl,ym,?_,?_,?_⟩⟩,en3⟩,om.col,fun q e=>by rw[hs];exact om.hi q e,om.nil⟩⟩,W.col,W.rh⟩
  (al.kx kx Gc rfl) (fun k hk=>f k (by rw[<-hs];exact hk)) (v'.cell 2 rfl)
 ·rw[jF,Array.getElem?_setIfInBounds,if_pos rfl,if_pos JJ]
 ·rw[Array.size_setIfInBounds];exact hcs
 ·show(cur.setIfInBounds (i*3) (.int .i64 id)).toList.take (n*3)=_
  rw[Array.toList_setIfInBounds,xd,pP];rfl
end
theorem Ve (x y:aP):qU (aW x) (aW y)=decide (x=y):=by
 obtain⟨a,b,c,d⟩:=x
 obtain⟨a',b',c',d'⟩:=y
 show((a == a')&&((b == b')&&((c == c')&&((d == d')&&true))))=_
 rw[Bool.eq_iff_iff]
 simp[Prod.ext_iff]
section
variable {A B:Nat->Prop} {h:H} {K:KV} {b b2:OA} {n c n2 c2:Nat}
theorem wq {l l2:List aP} (r:Row bo A h b n c l) (r2:Row bo B h b2 n2 c2 l2) (hk:K (.bool (decide (l=l2))) h):
  zC 23 [.slice b n c,.slice b2 n2 c2] h K:=by
 refine Xdm.ok _ _ _ _ _ _ _ _ ?_
 have hl:=r.len
 have uo:=r2.len
 have hm:n<=maxLen:=Nat.le_trans r.cap r.max
 simp only[maxLen] at hm
 refine bf (fun hn=>⟨n+1,?_⟩) fun hn=>?_
 ·have key:∀k i,i+k=n->(∀j (h1:j<l.length) (h2:j<l2.length),j<i->l[j]=l2[j])->
    Xdm.ia (fun h=>K (.bool true) h) (fun h=>K (.bool true) h) (fun y4 h=>K (.bool y4) h) (k+1) b n c b2 n2 c2 (i:Int) h:=by
   intro k
   induction k with
   | zero=>
    intro i hi bm
    refine cg (by omega) ?_
    have:l=l2:=nM (by omega) fun j h1 h2=>bm j h1 h2 (by omega)
    rw[decide_eq_true this] at hk
    exact hk
   | succ k ih=>
    intro i hi bm
    refine bK (by omega) (r.bj (by omega) rfl fun a hA=>cT hA fun _=>r2.bj (i:=i) (by omega) rfl fun a2 oT=>cT oT fun _=>Di (by kernel_rfl) (by rfl) (ag ?_))
    have e:=Ve (l[i]'(by omega)) (l2[i]'(by omega))
    rw[e]
    refine aR (fun hd=>?_) fun hd=>⟨aF (by omega) (by omega),ih (i+1) (by omega) fun j h1 h2 hj=>?_⟩
    ·have:l≠l2:=fun e=>by subst e;simp at hd
     rw[decide_eq_false this] at hk
     exact hk
    ·by_cases e:j<i
     ·exact bm j h1 h2 e
     ·have:j=i:=by omega
      subst this
      simpa using hd
  exact key n 0 (by omega) fun j _ _ hj=>absurd hj (Nat.not_lt_zero _)
 ·have:l≠l2:=fun e=>hn (by rw[<-hl,<-uo,e])
  rw[decide_eq_false this] at hk
  exact hk
end
theorem pD {m:WM} (G:aV m.ns) {sp:Int} {nm:Bs} {gE:List bw}:aV (bs m sp nm gE).ns:=(G.bE _ _ _ _ _).cV _ _ _
theorem hG {m:WM} (G:aV m.ns) {sp:Int} {nm:Bs} {gE:List bw}:(bs m sp nm gE).ns.length=m.ns.length+1:=by
 show(cV _ _ _ _).1.length=_
 rw[fv (G.bE _ _ _ _ _)]
 show(m.ns++ [_]).length=_
 simp
noncomputable def uw (m:WM) (tx:Bs):WM:={m with ns:=(cV (bE m.ns (bF 3 0 [] [] tx)).1 (cS m).1 (cS m).2 m.ns.length).1}
theorem sm {A:Nat->Prop} {h:H}:Row aY A h none 0 0 []:=⟨rfl,Nat.le_refl _,Nat.zero_le _,fun i x hx=>by simp at hx⟩
abbrev noMark:aS:=(0,[],[])
theorem iP (l:List aS) (o:List aP):∀i:Nat,0<=js l o i/\js l o i<=(i:Int)
 | 0=>⟨Int.le_refl _,Int.le_refl _⟩
 | i+1=>by
  unfold js
  have:=iP l o i
  split
  ·omega
  ·omega
noncomputable def wR:Nat->WM->Nat->WM
 | 0,m,_=>m
 | k+1,m,i=>wR k {bs m 0 (m.aE.getD i noMark).2.1 (m.aE.getD i noMark).2.2 with aE:=m.aE.set i ((m.ns.length:Int),(m.aE.getD i noMark).2)} (i+1)
noncomputable def aU (m:WM):WM:=wR (m.aE.length - (gu m.aE m.op).toNat) m (gu m.aE m.op).toNat
def pE (l:List aS):Prop:=∀x ∈ l,x.2.1.length<=1000000000/\x.2.2.length<=1000000/\rB x.2.2
theorem pE.set {l:List aS} (w:pE l) {i:Nat} (hi:i<l.length) (id:Int):pE (l.set i (id,l[i].2)):=fun x hx=>by
 rcases List.mem_or_eq_of_mem_set hx with h | h
 ·exact w x h
 ·rw[h];exact w l[i] (List.getElem_mem hi)
def bt (op:List aP) (id:Int):List aP:=if 0<cM op (fun x=>decide (x.1=id)) then op.eraseIdx (cM op fun x=>decide (x.1=id)).toNat else op
def gr (m:WM) (id:Int):WM:={m with op:=bt m.op id}
theorem ll {α:Type} {l:List α} {p:α->Bool}:cM l p<l.length/\ -1<=cM l p:=by
 unfold cM
 cases h:l.findIdx? p with
 | none=>exact⟨by show(-1:Int)<_;omega,Int.le_refl _⟩
 | some i=>
  obtain⟨hi,_⟩:=List.findIdx?_eq_some_iff_getElem.1 h
  exact⟨by show(i:Int)<_;omega,by show(-1:Int)<=(i:Int);omega⟩
section
variable {A:Nat->Prop} {h:H} {K:KV} {col:bY} {w:Addr} {m:WM} {b:OA} {n c:Nat}
theorem wL (L:kS h col) (p:PW h col w m) (G:aV m.ns) (bL:0<m.op.length) (eD:m.op.length+m.aE.length<1000000) (AB:m.ns.length+m.aE.length<1000000) (hm:pE m.aE)
  (hk:∀h' col',PW h' col' w (aU m)->al PS h col h' col'->K (.tuple ⟨[]⟩) h'):
  zC 40 [.pointer (some w)] h K:=by
 obtain⟨t,cp,T,W⟩:=p.ex
 obtain⟨ob,oc,mb,mn,mc,v,o,om⟩:=W.ex
 have jR:=om.len
 have MV:=iP m.aE m.op m.aE.length
 have Zf:0<=gu m.aE m.op:=MV.1
 have RF:gu m.aE m.op<=(m.aE.length:Int):=MV.2
 obtain⟨f,hf⟩:=Int.eq_ofNat_of_zero_le Zf
 have Iv:(gu m.aE m.op).toNat=f:=by rw[hf];rfl
 refine Xde.ok _ _ _ (aa ⟨_,_,_,v.cell 2 rfl,aa ⟨_,_,_,v.cell 1 rfl,Gd (fun k hk=>hk) om.row o.row fun h1 k1=>aO ?_⟩⟩)
 rw[hf]
 obtain⟨xs,he,hc,_⟩:=(om.kb k1).parts
 have hcap:=om.cap
 refine aa ⟨_,_,_,(v.kb k1).cell 2 rfl,fq (fun k hk=>hk.2) he hc jR hcap.1 om.nil (by omega) fun b' c' h2 o2 k2=>aH (aa (dY (W.kb k1) (p.fresh.kb k1) k2 o2 fun h3 W3 E3 f3 B5=>?_))⟩
 have Sy:=o2.own.cap
 have mT:al PS h col h3 (cz col h1 b' (2,2)):=(al.kb k1).trans (E3.mono fun s hs=>.inr hs)
 have p3:PW h3 (cz col h1 b' (2,2)) w m:=⟨t,cp,(T.kb k1).cf (S:=fun k=>k=2) (by decide) E3 f3,W3⟩
 have hrw:wR (m.aE.length - f) m f=aU m:=by unfold aU;rw[Iv]
 refine aa ⟨_,_,_,B5,⟨by omega,by omega,by omega⟩,?_⟩
 have e28:Int.toNat (mn:Int) - Int.toNat (f:Int)=m.aE.length - f:=by rw[jR];rfl
 rw[e28]
 refine⟨m.aE.length - f+1,?_⟩
 have key:∀k j (mj:WM) hj cj,j+k=m.aE.length - f->PW hj cj w mj->aV mj.ns->mj.op.length=m.op.length+j->mj.ns.length=m.ns.length+j->mj.aE.length=m.aE.length->pE mj.aE->wR k mj (f+j)=aU m->al PS h col hj cj->
   cell hj (w.add 2)=some (.slice b' mn c')->
   Xde.MX (fun h=>K (.tuple ⟨[]⟩) h) (fun h=>K (.tuple ⟨[]⟩) h) (fun h=>K (.tuple ⟨[]⟩) h) (k+1) (some w) (f:Int) ((m.aE.length - f:Nat):Int) (j:Int) hj:=by
  intro k
  induction k with
  | zero=>
   intro j mj hj cj hjk pj Gj lo ln lm Vf hr Ej hcj
   refine cg (by omega) ?_
   have hr:mj=aU m:=hr
   exact hk hj cj (by rw[<-hr];exact pj) Ej
  | succ k ih=>
   intro j mj hj cj hjk pj Gj lo ln lm Vf hr Ej hcj
   have tu:f+j<mj.aE.length:=by omega
   have ej:((f:Int)+(j:Int))=((f+j:Nat):Int):=rfl
   obtain⟨tj,adsj,Tj,Wj⟩:=pj.ex
   obtain⟨obj,ocj,mbj,mnj,mcj,vj,oj,XO⟩:=Wj.ex
   have ec:some (Value.slice mbj mnj mcj)=some (.slice b' mn c'):=(vj.cell 2 rfl).symm.trans hcj
   cases ec
   obtain⟨xsj,PO,Vg,_⟩:=XO.parts
   obtain⟨a,b2,n2,c2,eb,m0,m1,m2,mR⟩:=j5 PO Vg tu
   subst eb
   have hw:=Vf mj.aE[f+j] (List.getElem_mem tu)
   have yl:=mR.inv
   have vJ:=yl.1.len
   refine bK (by omega) (aa ⟨_,_,_,hcj,?_⟩)
   rw[ej]
   refine⟨aF (by omega) (by omega),⟨by omega,by omega⟩,aa ?_⟩
   rw[Int.toNat_natCast]
   refine⟨_,m1,_,_,_,m2,?_⟩
   refine qY (L.ext Ej) pj Gj (by omega) (by omega) (by omega) yl.1 yl.2.1 (by omega) hw.2.2 ⟨by decide,by decide⟩ ⟨by decide,by decide⟩ hw.1 fun h5 c5 p5 E5 m5=>aO ?_
   obtain⟨t5,agn,T5,W5⟩:=p5.ex
   have JG:=m5 _ hcj
   refine oZ W5 p5.fresh JG (i:=f+j) tu (aF (by omega) (by omega)) fun h6 W6 E6 f6 hc6=>⟨aF (by omega) (by omega),?_⟩
   have hg:mj.aE.getD (f+j) noMark=mj.aE[f+j]:=aJ tu
   have hr:wR k {bs mj 0 (mj.aE.getD (f+j) noMark).2.1 (mj.aE.getD (f+j) noMark).2.2 with aE:=mj.aE.set (f+j) ((mj.ns.length:Int),(mj.aE.getD (f+j) noMark).2)} (f+j+1)=aU m:=hr
   rw[hg] at hr
   have:=ih (j+1) {bs mj 0 mj.aE[f+j].2.1 mj.aE[f+j].2.2 with aE:=mj.aE.set (f+j) ((mj.ns.length:Int),mj.aE[f+j].2)} h6 c5 (by omega) ⟨t5,agn,T5.cf (S:=fun k=>k=2) (by decide) E6 f6,W6⟩
    (pD Gj) (by show(mj.op++ [_]).length=_;rw[List.length_append];show mj.op.length+1=_;omega) (by rw[hG Gj];omega) (by show(mj.aE.set _ _).length=_;rw[List.length_set];exact lm) (Vf.set tu _) hr ((Ej.trans E5).trans (E6.mono fun s hs=>.inr hs)) hc6
   exact this
 exact key (m.aE.length - f) 0 m h3 _ (by omega) p3 G rfl rfl rfl hm hrw mT B5
theorem yW {base i:Nat} {l:List aP} (o:bO bo vf h base 77 b n c l) (hi:i<n) (hk:∀h',bO bo vf h' base 77 b (n - 1) c (l.eraseIdx i)->dW h h' b->K (.slice b (n - 1) c) h'):
  zC 195 [.slice b n c,.int .i64 (i:Int),.int .i64 ((i+1:Nat):Int)] h K:=by
 have hcap:=o.own.cap
 refine Xf5.ok _ _ _ _ _ _ _ ⟨⟨by omega,by omega,by omega,by omega⟩,cg (by omega) ⟨⟨by omega,by omega,by omega⟩,⟨by omega,by omega,by omega⟩,?_⟩⟩
 have e0:(if c=Int.toNat (0:Int) then b else Option.map (fun q=>q.add (Int.toNat (0:Int)*4)) b)=b:=by
  split
  ·rfl
  ·cases b with
   | none=>rfl
   | some q=>rfl
 rw[e0]
 exact Dl iu (by kernel_rfl) o (fun k hk=>hk.elim) hi (K:=fun sb sn sc h=>K (.slice sb sn sc) h) fun h' o' g' _=>hk h' o' g'
theorem lq (p:PW h col w m) {id:Int} (hl:m.op.length<1000000) (hk:∀h' col',PW h' col' w (gr m id)->al PS h col h' col'->(0<cM m.op (fun x=>decide (x.1=id))->∃b c,cell h' (w.add 1)=some (.slice b (bt m.op id).length c)/\(bt m.op id).length+1<=c)->K (.tuple ⟨[]⟩) h'):
  zC 155 [.pointer (some w),.int .i64 id] h K:=by
 obtain⟨t,cp,T,W⟩:=p.ex
 obtain⟨ob,oc,mb,mn,mc,v,o,om⟩:=W.ex
 refine Xda.ok _ _ _ _ (af fun a1 h1 v1 k1 e1 s1=>aa ⟨_,_,_,(v.kb k1).cell 1 rfl,?_⟩)
 refine dI (p:=fun x=>decide (x.1=id)) (o.kb k1).row (fun x h2 next hx k2 hR hn=>?_) fun h2 k2=>aO ?_
 ·have e:fQ Tryz.prog 4 (.func (.func 194) ⟨[]⟩ ⟨[.pointer (some a1)]⟩) ⟨[.agg ⟨[.int .i64 x.1,.int .u8 x.2.1,S x.2.2.1,.int .u8 x.2.2.2]⟩]⟩ h2 next=
    zC 194 [.agg ⟨[.int .i64 x.1,.int .u8 x.2.1,S x.2.2.1,.int .u8 x.2.2.2]⟩,.pointer (some a1)] h2 fun v h'=>au v fun b=>cond b (next (.bool true) h') (next (.bool false) h'):=by kernel_rfl
  rw[e]
  refine Xdb.ok _ _ _ _ _ _ _ (af fun a8 h8 v8 k8 e8 _=>⟨_,v8.cell 0 rfl,_,((v1.kb k2).kb k8).dA rfl,?_⟩)
  have:=hn h8 k8
  refine bf (fun e=>?_) fun e=>?_
  ·rw[decide_eq_true e] at this;exact this
  ·rw[decide_eq_false e] at this;exact this
 ·have gy:=k1.trans k2
  have cR:=ll (l:=m.op) (p:=fun x=>decide (x.1=id))
  refine bf (fun hp=>aD ?_) fun hp=>aC ?_
  ·obtain⟨k,ek⟩:=Int.eq_ofNat_of_zero_le (Int.le_of_lt hp)
   have dJ:k<m.op.length:=by have:=cR.1;rw[ek] at this;exact Int.ofNat_lt.1 this
   rw[ek]
   obtain⟨xs,he,hc,_⟩:=(o.kb gy).parts
   refine aa ⟨_,_,_,(v.kb gy).cell 1 rfl,BR he hc rfl o.cap.1 o.nil (by omega) fun b' c' h3 o3 k3=>aH ⟨aF (by show _<=(k:Int)+1;omega) (by show(k:Int)+1<=_;omega),?_⟩⟩
   have e1:((k:Int)+(1:Int))=((k+1:Nat):Int):=rfl
   rw[e1]
   refine yW o3 dJ fun h4 o4 g4=>aH (aa (tN (W.kb gy) (p.fresh.kb gy) (g4.yj k3 o3.lo) o4 fun h5 W5 E5 f5 c5=>?_))
   have hd:bt m.op id=m.op.eraseIdx k:=by unfold bt;rw[if_pos hp,ek];rfl
   refine hk h5 _ ⟨t,cp,(T.kb gy).cf (S:=fun k=>k=2) (by decide) E5 f5,?_⟩ ((al.kb gy).trans (E5.mono fun s hs=>.inr hs)) fun _=>?_
   rotate_left
   ·have hcap:=o3.own.cap
    have Tq:(bt m.op id).length=m.op.length - 1:=by rw[hd,List.length_eraseIdx,if_pos dJ]
    rw[Tq]
    exact⟨_,_,c5,by omega⟩
   show bq _ _ _ _ _ _ (bt m.op id) _ _ _
   rw[hd];exact W5
  ·have hd:bt m.op id=m.op:=by unfold bt;rw[if_neg hp]
   refine hk h2 col ?_ (.kb gy) fun h=>absurd h hp
   have p2:=p.kb gy
   have e2:gr m id=m:=by unfold gr;rw[hd]
   rw[e2];exact p2
end
structure jJ where
 x:ay
 ab:OA
 an:Nat
 ac:Nat
 kb:OA
 kn:Nat
 kc:Nat
def xC (r:jJ):List Value:=mG r.x r.ab r.an r.ac r.kb r.kn r.kc
def qZ:El jJ where
 sz:=8
 R:=fun _ _ r cs=>cs=xC r
 len:=fun _ _ _ _ h=>by rw[h];rfl
 one:=fun _ _ _ _ h v hv=>by
  rw[h] at hv
  simp only[xC,mG,List.mem_cons,List.not_mem_nil,or_false] at hv
  rcases hv with rfl | rfl | rfl | rfl | rfl | rfl | rfl | rfl <;> rfl
 keep:=fun _ _ _ _ _ _ h _ _=>h
 pos:=by decide
theorem tc:Flat qZ:=fun _ _ _ _ _ _ h=>h
theorem Vh:oH Tryz.prog qZ 116 115 120:=kr (sz:=8) (by kernel_rfl) rfl
structure D4 (h:H) (col:bY) (s i:Nat) (r:jJ):Prop where
 ra:Row aY (bT col h) h r.ab r.an r.ac r.x.attrs
 az:r.ab=none->r.ac=0
 ok:fB h r.kb r.kn r.kc r.x.kids
 oG:∀q,r.kb=some q->col q.block=some (s,2*i+3)
 rk:bd .u8 r.x.kind
 rs:bd .u8 r.x.space
 rp:bd .i64 r.x.parent
 fa:r.x.attrs.length<=1000000
 fn:r.x.name.length<=maxLen
 ft:r.x.text.length<=maxLen
structure kI (h:H) (col:bY) (s:Nat) (t:Addr) (lb:OA) (lc:Nat) (rs:List jJ):Prop where
 v:Var h t 118 [.slice lb rs.length lc]
 o:bH qZ h 0 115 lb rs.length lc rs
 hl:∀q,lb=some q->col q.block=some (s,1)
 nodes:∀(i:Nat) r,rs[i]? =some r->D4 h col s i r
 kj:col t.block=some (s,0)
 fresh:∀k,h.size<=k->col k=none
 mQ:rs.length<=1000000
def dD (h:H) (col:bY) (s:Nat) (t:Addr) (ns:List ay):Prop:=∃lb lc rs,kI h col s t lb lc rs/\rs.map (·.x)=ns
section
variable {h h':H} {K:KV} {col col':bY} {s i p:Nat} {t a:Addr} {ns:List ay} {x y:ay} {lb:OA} {lc:Nat} {rs:List jJ} {r:jJ}
theorem D4.keep (N:D4 h col s i r) {B:Nat->Prop} (k:bZ B h h') (hc:∀k,k<h.size->col' k=col k) (hB:∀k,k<h.size->(col k=none∨col k=some (s,2*i+3))->B k):D4 h' col' s i r:=
 ⟨N.ra.keep (k.less fun q hq=>hB q hq.1.2 (.inl hq.1.1)) (fun q hq hs=>⟨by rw[hc q hs];exact hq.1,Nat.lt_of_lt_of_le hs k.1⟩),N.az,N.ok.keep k fun q e=>hB _ (N.ok.hi q e) (.inr (N.oG q e)),fun q e=>by rw[hc _ (N.ok.hi q e)];exact N.oG q e,N.rk,N.rs,N.rp,N.fa,N.fn,N.ft⟩
theorem kI.keep (T:kI h col s t lb lc rs) {B:Nat->Prop} (k:bZ B h h') (hc:∀k,k<h.size->col' k=col k) (hf:∀k,h'.size<=k->col' k=none) (hB:∀k,k<h.size->(col k=none∨∃p,col k=some (s,p))->B k):kI h' col' s t lb lc rs:=by
 refine⟨T.v.keep k (hB _ T.v.lt (.inr ⟨_,T.kj⟩)),?_,fun q e=>by rw[hc _ (T.o.hi q e)];exact T.hl q e,fun i r hr=>(T.nodes i r hr).keep k hc fun q hq mA=>hB q hq (by rcases mA with h | h;exact .inl h;exact .inr ⟨_,h⟩),by rw[hc _ T.v.lt];exact T.kj,hf,T.mQ⟩
 refine⟨?_,T.o.lo,fun q e=>Nat.lt_of_lt_of_le (T.o.hi q e) k.1,T.o.nil⟩
 obtain⟨xs,h1,h2⟩:=T.o.own.own
 exact⟨T.o.own.len,xs,h1.keep k fun g e _ hg=>hB _ hg (.inr ⟨_,T.hl _ e⟩),eH.flat tc h2⟩
theorem kI.kw (T:kI h col s t lb lc rs) (k:KW h h'):kI h' col s t lb lc rs:=T.keep k (fun _ _=>rfl) (fun k' hk=>T.fresh k' (Nat.le_trans k.1 hk)) fun k hk _=>hk
theorem kI.kb (T:kI h col s t lb lc rs) (k:KB h h'):kI h' col s t lb lc rs:=T.kw (KB.w k)
theorem kI.other {s':Nat} (T:kI h col s t lb lc rs) (hs:s≠s') (e:Ext s' h col h' col') (hf:∀k,h'.size<=k->col' k=none):kI h' col' s t lb lc rs:=
 T.keep e.sk.w e.cl hf fun k hk mA=>⟨hk,fun p e=>by
  rcases mA with h | ⟨q,h⟩
  ·rw[h] at e;cases e
  ·rw[h] at e;cases e;exact hs rfl⟩
theorem dD.kb (T:dD h col s t ns) (k:KB h h'):dD h' col s t ns:=by
 obtain⟨lb,lc,rs,C,e⟩:=T
 exact⟨lb,lc,rs,C.kb k,e⟩
theorem dD.other {s':Nat} (T:dD h col s t ns) (hs:s≠s') (e:Ext s' h col h' col') (hf:∀k,h'.size<=k->col' k=none):dD h' col' s t ns:=by
 obtain⟨lb,lc,rs,C,e2⟩:=T
 exact⟨lb,lc,rs,C.other hs e hf,e2⟩
theorem dD.mQ (T:dD h col s t ns):ns.length<=1000000:=by
 obtain⟨lb,lc,rs,C,rfl⟩:=T
 rw[List.length_map];exact C.mQ
theorem dD.fresh (T:dD h col s t ns):∀k,h.size<=k->col k=none:=by
 obtain⟨lb,lc,rs,C,rfl⟩:=T
 exact C.fresh
theorem kI.upd (T:kI h col s t lb lc rs) {r':jJ} (o:bH qZ h' 0 115 lb rs.length lc (rs.set i r')) (k:SK (fun k=>k<h.size/\∀p,col k=some (s,p)->p≠1/\p≠2*i+3) h h') (hc:∀k,k<h.size->col' k=col k) (hf:∀k,h'.size<=k->col' k=none) (hn:D4 h' col' s i r'):
  kI h' col' s t lb lc (rs.set i r'):=by
 have kp:=k.w
 refine⟨by rw[List.length_set];exact T.v.keep kp ⟨T.v.lt,fun p e=>by rw[T.kj] at e;cases e;omega⟩,by rw[List.length_set];exact o,fun q e=>by rw[hc _ (T.o.hi q e)];exact T.hl q e,fun j r hr=>?_,by rw[hc _ T.v.lt];exact T.kj,hf,by rw[List.length_set];exact T.mQ⟩
 by_cases hij:i=j
 ·subst hij
  by_cases cR:i<rs.length
  ·rw[List.getElem?_set_self cR] at hr;cases hr
   exact hn
  ·have:=dv hr
   rw[List.length_set] at this
   omega
 ·rw[List.getElem?_set_ne hij] at hr
  exact(T.nodes j r hr).keep kp hc fun q hq mA=>⟨hq,fun p e=>by
   rcases mA with h | h
   ·rw[h] at e;cases e
   ·rw[h] at e;cases e;omega⟩
theorem fu (e:rs.map (·.x)=ns) (hx:ns[i]? =some x):∃r,rs[i]? =some r/\r.x=x:=by
 subst e
 rw[List.getElem?_map] at hx
 cases hr:rs[i]? with
 | none=>rw[hr] at hx;cases hx
 | some r=>rw[hr] at hx;cases hx;exact⟨r,rfl,rfl⟩
theorem MY (C:kI h col s t lb lc rs) (hr:rs[i]? =some r) {Q:Addr->Prop} (hq:∀a,(∀(j:Nat) v,(xC r)[j]? =some v->cell h ((a.add (Int.toNat (i:Int)*8)).add j)=some v)->Q a):
  (0<=(i:Int)/\(i:Int)<(rs.length:Int))/\ae lb Q:=by
 have hi:=dv hr
 have hg:rs[i]'hi=r:=Option.some.inj ((List.getElem?_eq_getElem hi).symm.trans hr)
 exact(C.o.rowAt tc (bZ.refl (fun _=>True) h) (fun _ _=>trivial)).bj hi rfl fun a hA=>hq a fun j v hj=>by
  obtain⟨_,cs,hR,hc⟩:=hA
  have hR:cs=xC rs[i]:=hR
  rw[hg] at hR
  exact hc j v (by rw[hR];exact hj)
theorem ir (C:kI h col s t lb lc rs) (hr:rs[i]? =some r) {Q:Addr->Prop} (hq:∀a,(∀(j:Nat) v,(xC r)[j]? =some v->cell h ((a.add (Int.toNat (i:Int)*8)).add j)=some v)->Q a):
  ae (some t) fun a=>∃b n c,cell h (a.add 0)=some (.slice b n c)/\((0<=(i:Int)/\(i:Int)<(n:Int))/\ae b Q):=aa ⟨_,_,_,C.v.cell 0 rfl,MY C hr hq⟩
theorem lv (T:dD h col s t ns) {id:Int} (hk:K (.bool (decide (0<=id/\id<ns.length))) h):zC 125 [.pointer (some t),.int .i64 id] h K:=by
 obtain⟨lb,lc,rs,C,rfl⟩:=T
 rw[List.length_map] at hk
 refine Xd1.ok _ _ _ _ (bf (fun e=>aa ⟨_,_,_,C.v.cell 0 rfl,bf (fun e2=>?_) fun e2=>?_⟩) fun e=>?_)
 ·rw[decide_eq_true ⟨e,e2⟩] at hk;exact hk
 ·rw[decide_eq_false (fun h=>e2 h.2)] at hk;exact hk
 ·rw[decide_eq_false (fun h=>e h.1)] at hk;exact hk
theorem vP (T:dD h col s t ns) {id:Int} (hk:K (.bool (dU ns id)) h):zC 134 [.pointer (some t),.int .i64 id] h K:=by
 refine Xdz.ok _ _ _ _ (lv T (ag (aR (fun e=>?_) fun e=>?_)))
 ·have e:=of_decide_eq_true e
  obtain⟨i,rfl⟩:=Int.eq_ofNat_of_zero_le e.1
  have hx:ns[i]? =some (ns[i]'(by omega)):=List.getElem?_eq_getElem (by omega)
  have eh:dU ns (i:Int)=decide ((i:Int)=0∨(ns[i]'(by omega)).kind=1):=by
   unfold dU
   rw[decide_eq_true e,Int.toNat_natCast,hx]
   rfl
  have hk:K (.bool (dU ns (i:Int))) h:=hk
  rw[eh] at hk
  obtain⟨lb,lc,rs,C,em⟩:=T
  obtain⟨r,hr,ex⟩:=fu em hx
  refine bf (fun e0=>?_) fun e0=>ir C hr fun a hc=>⟨_,hc 0 _ rfl,bf (fun e1=>?_) fun e1=>?_⟩
  ·rw[decide_eq_true (Or.inl e0)] at hk;exact hk
  ·rw[decide_eq_true (Or.inr (by rw[<-ex];exact e1))] at hk;exact hk
  ·rw[decide_eq_false (fun hh=>hh.elim e0 fun h2=>e1 (by rw[ex];exact h2))] at hk;exact hk
 ·have e:=of_decide_eq_false e
  unfold dU at hk
  rw[decide_eq_false e] at hk
  exact hk
theorem vV (T:dD h col s t ns) (hy:ns[p]? =some y) {kT:Int} (hk:K (.int .i64 (fg y.kids kT)) h):zC 135 [.pointer (some t),.int .i64 (p:Int),.int .i64 kT] h K:=by
 obtain⟨lb,lc,rs,C,em⟩:=T
 obtain⟨r,hr,rfl⟩:=fu em hy
 have N:=C.nodes p r hr
 have hl:=N.ok.len
 have hm:=N.ok.own.cap
 have AZ:=N.ok.own.max
 simp only[maxLen] at AZ
 refine Vi.ok _ _ _ _ _ (ir C hr fun a hc=>⟨_,_,_,hc 7 _ rfl,bf (fun e=>?_) fun e=>⟨r.kn+1,?_⟩⟩)
 ·unfold fg at hk
  rw[if_pos e,hl] at hk
  exact hk
 ·unfold fg Bc at hk
  rw[if_neg e] at hk
  have R:=N.ok.row (A:=fun _=>True) fun _ _=>trivial
  have key:∀N i,i+N=r.kn->kT ∉ r.x.kids.take i->Vi.gz (fun h=>Vi.n5 (fun y6 h=>K (.int .i64 y6) h) (fun y6 h=>K (.int .i64 y6) h) h) (fun h=>Vi.n5 (fun y6 h=>K (.int .i64 y6) h) (fun y6 h=>K (.int .i64 y6) h) h) (fun y6 h=>K (.int .i64 y6) h) (N+1) kT r.kb r.kn r.kc (i:Int) h:=by
   intro N
   induction N with
   | zero=>
    intro i hi hn
    unfold Vi.gz
    refine cg (by omega) ?_
    rw[List.take_of_length_le (by omega)] at hn
    rw[if_neg hn] at hk
    exact hk
   | succ N ih=>
    intro i hi hn
    have bQ:i<r.x.kids.length:=by omega
    unfold Vi.gz
    refine bK (by omega) (R.bj bQ rfl fun q hA=>CU hA fun _=>bf (fun e2=>?_) fun e2=>⟨lJ (by omega) (by omega),ih (i+1) (by omega) ?_⟩)
    ·have iZ:kT ∈ r.x.kids:=by rw[<-e2];exact List.getElem_mem bQ
     rw[if_pos iZ,Bj hn (by rw[<-e2];exact List.getElem?_eq_getElem bQ)] at hk
     exact hk
    ·rw[List.take_add_one,List.getElem?_eq_getElem bQ]
     intro hm
     rcases List.mem_append.1 hm with hm | hm
     ·exact hn hm
     ·simp at hm
      exact e2 hm.symm
  exact key r.kn 0 (by omega) (by simp)
theorem CV (T:dD h col s t ns) (G:aV ns) {id of:Int} (hid:id<ns.length) (hk:K (.bool (cq ns id of)) h):zC 164 [.pointer (some t),.int .i64 id,.int .i64 of] h K:=by
 obtain⟨M,hM⟩:=G.Lk id
 obtain⟨lb,lc,rs,C,em⟩:=T
 have hT:∀{b:Bool},(nW ns id of↔b=true)->cq ns id of=b:=fun {b} hb=>by
  unfold cq
  cases b with
  | true=>exact @decide_eq_true _ (Classical.propDecidable _) (hb.2 rfl)
  | false=>exact @decide_eq_false _ (Classical.propDecidable _) fun h=>by have:=hb.1 h;cases this
 refine Vj.ok _ _ _ _ _ ⟨M+1,?_⟩
 have key:∀N (i:Int),i<ns.length->sw ns N i->(nW ns id of↔nW ns i of)->Vj.MX (fun h=>Vj.n3 (fun y6 h=>K (.bool y6) h) (fun y6 h=>K (.bool y6) h) h) (fun h=>Vj.n3 (fun y6 h=>K (.bool y6) h) (fun y6 h=>K (.bool y6) h) h) (fun y6 h=>K (.bool y6) h) (N+1) (some t) i of h:=by
  intro N
  induction N with
  | zero=>
   intro i hi he CX
   unfold Vj.MX
   have he:i<0:=he
   refine cg (by omega) ?_
   rw[hT (b:=false) (CX.trans ⟨fun h=>absurd h (Ha he),fun h=>by cases h⟩)] at hk
   exact hk
  | succ N ih=>
   intro i hi he CX
   unfold Vj.MX
   refine bf (fun h0=>?_) fun h0=>?_
   ·obtain⟨j,rfl⟩:=Int.eq_ofNat_of_zero_le (show 0<=i by omega)
    have hj:ns[j]? =some (ns[j]'(by omega)):=List.getElem?_eq_getElem (by omega)
    obtain⟨r,hr,ex⟩:=fu em hj
    refine bf (fun e=>?_) fun e=>ir C hr fun a hc=>⟨_,hc 6 _ rfl,ih r.x.parent ?_ ?_ ?_⟩
    ·rw[hT (b:=true) (CX.trans ⟨fun _=>rfl,fun _=>dw.2 (.inl e.symm)⟩)] at hk
     exact hk
    ·rw[ex]
     rcases G.par j _ hj with h1 | h1 <;> omega
    ·rcases he with he | he
     ·have:((Int.ofNat j:Int))<0:=he
      omega
     ·have he:sw ns N (jo ns (j:Int)):=he
      rw[eX hj] at he
      rw[ex]
      exact he
    ·refine CX.trans ((dw (j:=j)).trans ⟨fun h=>?_,fun h=>Or.inr ?_⟩)
     ·rcases h with h | h
      ·exact absurd h.symm e
      ·rw[eX hj] at h;rw[ex];exact h
     ·rw[eX hj,<-ex];exact h
   ·rw[hT (b:=false) (CX.trans ⟨fun h=>absurd h (Ha (by omega)),fun h=>by cases h⟩)] at hk
    exact hk
 exact key M id hid hM Iff.rfl
theorem MZ (T:dD h col s t ns) {id:Int} (hk:K (.int .i64 (jo ns id)) h) (eI:id<0->jo ns id= -1):zC 133 [.pointer (some t),.int .i64 id] h K:=by
 refine Xdv.ok _ _ _ _ (lv T (ag (aR (fun e=>?_) fun e=>?_)))
 ·have e:=of_decide_eq_true e
  obtain⟨i,rfl⟩:=Int.eq_ofNat_of_zero_le e.1
  have hx:ns[i]? =some (ns[i]'(by omega)):=List.getElem?_eq_getElem (by omega)
  obtain⟨lb,lc,rs,C,em⟩:=T
  obtain⟨r,hr,ex⟩:=fu em hx
  refine ir C hr fun a hc=>⟨_,hc 6 _ rfl,?_⟩
  have hk:K (.int .i64 (jo ns (i:Int))) h:=hk
  rw[eX hx,<-ex] at hk
  exact hk
 ·have e:=of_decide_eq_false e
  by_cases h0:id<0
  ·rw[eI h0] at hk;exact hk
  ·have:jo ns id= -1:=by
    unfold jo
    rw[List.getElem?_eq_none (by omega)]
    rfl
   rw[this] at hk
   exact hk
end
theorem D8:∀{A:Nat->Prop} {h:H} {l:List Int} {xs:List Value},eH (jz .i64) A h l xs->xs=l.map (Value.int .i64)/\∀x ∈ l,bd .i64 x
 | A,h,[],xs,e=>by
  have e:xs=[]:=e
  subst e;exact⟨rfl,fun x hx=>by cases hx⟩
 | A,h,x::l,xs,e=>by
  obtain⟨c1,c2,rfl,⟨rfl,hr⟩,e2⟩:=e
  obtain⟨rfl,h2⟩:=D8 e2
  exact⟨rfl,fun y hy=>by
   rcases List.mem_cons.1 hy with rfl | hy
   ·exact hr
   ·exact h2 y hy⟩
theorem HR {h:H} {base n c:Nat} {b:OA} {l:List Int} (o:bH (jz .i64) h base 3 b n c l):fB h b n c l:=by
 obtain⟨xs,h1,h2⟩:=o.own.own
 obtain⟨rfl,hr⟩:=D8 h2
 exact⟨⟨h1.len,h1.cap,h1.max,h1.is.imp id fun⟨g,cur,e1,_,e3⟩=>⟨g,cur,e1,Nat.zero_le _,e3⟩⟩,hr,o.nil,o.hi⟩
theorem te {α:Type} {E:El α} {t ty e by':Nat} (ap:oH Tryz.prog E t e by') {h0 h:H} {b b2:OA} {n c m k:Nat} {l l2:List α} {K:KV} (kb:KB h0 h) (o:bH E h h0.size e b n c l) (r:Row E (rS h0.size) h b2 m k l2) (hn:n+m<=2000000) (hb:by'<=1000)
  (hk:∀b' c' h',bH E h' h0.size e b' (n+m) c' (l++l2)->KB h0 h'->K (.slice b' (n+m) c') h'):aZ Tryz.prog (Builtin.append_ #[t,t] ty ⟨[.slice b n c,.slice b2 m k]⟩) h K:=by
 have k1:=kb.1
 refine bH.append ap o (r.keep (bZ.refl _ _) fun q hq hs=>⟨hs,fun x hx=>?_⟩) (by simp only[maxLen];omega) ?_ k1 fun b' c' h' o' g'=>hk b' c' h' o' (g'.yj kb fun q e=>o.lo q e)
 ·have:=o.lo x hx
  have hq:q<h0.size:=hq
  omega
 ·have:(n+m)*by'<=2000000*1000:=Nat.mul_le_mul hn hb
  omega
theorem uQ {h h':H} {B:Nat->Prop} {b:OA} {n c:Nat} {rs:List jJ} (o:bH qZ h 0 115 b n c rs) (k:bZ B h h') (hB:∀q,b=some q->B q.block):bH qZ h' 0 115 b n c rs:=by
 refine⟨?_,o.lo,fun q e=>Nat.lt_of_lt_of_le (o.hi q e) k.1,o.nil⟩
 obtain⟨xs,h1,h2⟩:=o.own.own
 exact⟨o.own.len,xs,h1.keep k fun g e _ hg=>hB _ e,eH.flat tc h2⟩
section
variable {h h':H} {K:KV} {col col':bY} {s i p:Nat} {t a:Addr} {ns:List ay} {x y:ay} {lb:OA} {lc:Nat} {rs:List jJ} {r:jJ}
theorem Ac (C:kI h col s t lb lc rs) (hr:rs[i]? =some r) {f:Nat} {v:Value} {r':jJ} (hf:f<8) (hv:IS v=true) (hw:(xC r).set f v=xC r')
  (same:r'.ab=r.ab/\r'.an=r.an/\r'.ac=r.ac/\r'.kb=r.kb/\r'.kn=r.kn/\r'.kc=r.kc/\r'.x.attrs=r.x.attrs/\r'.x.kids=r.x.kids)
  (ago:bd .u8 r'.x.kind/\bd .u8 r'.x.space/\bd .i64 r'.x.parent/\r'.x.name.length<=maxLen/\r'.x.text.length<=maxLen) {Q:H->Prop}
  (hk:∀h',kI h' col s t lb lc (rs.set i r')->Ext s h col h' col->SK (fun k=>col k≠some (s,1)) h h'->Q h'):
  (0<=(i:Int)/\(i:Int)<(rs.length:Int))/\ae lb fun a=>bc ((a.add (Int.toNat (i:Int)*8)).add f) [v] 0 h Q:=by
 have N:=C.nodes i r hr
 refine zL tc C.o hr (z:=8) rfl hf hv (x':=r') (fun A h cs e=>by have e:cs=xC r:=e;subst e;exact hw) fun a h2 ea o2 k2 s2 hb=>?_
 have Ou:col a.block=some (s,1):=C.hl a ea
 have sk:SK (fun k=>col k≠some (s,1)) h h2:=k2.less fun k hk e=>hk (by rw[e];exact Ou)
 refine hk h2 (C.upd o2 (k2.less fun k hk e=>(hk.2 1 (by rw[e];exact Ou)).1 rfl) (fun _ _=>rfl) (fun k hk=>C.fresh k (by omega)) ?_) ⟨k2.less fun k hk e=>hk.2 1 (by rw[e];exact Ou),fun _ _=>rfl⟩ sk
 obtain⟨x',ab,an,ac,kb,kn,kc⟩:=r'
 obtain⟨rfl,rfl,rfl,rfl,rfl,rfl,e7,e8⟩:=same
 obtain⟨g1,g2,g3,g4,g5⟩:=ago
 refine⟨?_,N.az,?_,N.oG,g1,g2,g3,?_,g4,g5⟩
 ·show Row aY (bT col h2) h2 r.ab r.an r.ac x'.attrs
  have e7:x'.attrs=r.x.attrs:=e7
  rw[e7]
  exact N.ra.keep (k2.w.less fun k hk e=>by have h1:=hk.1.1;rw[e,Ou] at h1;cases h1) fun k hk hs=>⟨hk.1,by omega⟩
 ·show fB h2 r.kb r.kn r.kc x'.kids
  have e8:x'.kids=r.x.kids:=e8
  rw[e8]
  exact N.ok.keep k2.w fun q e e2=>by
   have h1:=N.oG q e
   rw[e2,Ou] at h1
   have:=(Prod.mk.inj (Option.some.inj h1)).2
   omega
 ·have e7:x'.attrs=r.x.attrs:=e7
  show x'.attrs.length<=_
  rw[e7];exact N.fa
theorem map_set (em:rs.map (·.x)=ns) {r':jJ}:(rs.set i r').map (·.x)=ns.set i r'.x:=by rw[List.map_set,em]
theorem A7 (T:dD h col s t ns) (hx:ns[i]? =some x) {q:Int} (hq:bd .i64 q) {Q:H->Prop}
  (hk:∀h',dD h' col s t (ns.set i {x with parent:=q})->Ext s h col h' col->SK (fun k=>col k≠some (s,1)) h h'->Q h'):
  ae (some t) fun a=>∃b n c,cell h (a.add 0)=some (.slice b n c)/\((0<=(i:Int)/\(i:Int)<(n:Int))/\ae b fun a'=>bc ((a'.add (Int.toNat (i:Int)*8)).add 6) [.int .i64 q] 0 h Q):=by
 obtain⟨lb,lc,rs,C,em⟩:=T
 obtain⟨r,hr,rfl⟩:=fu em hx
 have N:=C.nodes i r hr
 exact aa ⟨_,_,_,C.v.cell 0 rfl,Ac C hr (f:=6) (r':={r with x:={r.x with parent:=q}}) (by omega) rfl rfl ⟨rfl,rfl,rfl,rfl,rfl,rfl,rfl,rfl⟩ ⟨N.rk,N.rs,hq,N.fn,N.ft⟩ fun h' C' E' k'=>hk h' ⟨lb,lc,_,C',map_set em⟩ E' k'⟩
theorem sD (C:kI h col s t lb lc rs) (hr:rs[i]? =some r) {h1:H} (g:dW h h1 r.kb) {b':OA} {n' c':Nat} {l':List Int} (o:fB h1 b' n' c' l') (nb:Fu h r.kb b') {Q:H->Prop}
  (hk:∀h' col',kI h' col' s t lb lc (rs.set i ⟨{r.x with kids:=l'},r.ab,r.an,r.ac,b',n',c'⟩)->Ext s h col h' col'->SK (fun k=>k<h1.size/\col k≠some (s,1)) h1 h'->Q h'):
  (0<=(i:Int)/\(i:Int)<(rs.length:Int))/\ae lb fun a=>bc ((a.add (Int.toNat (i:Int)*8)).add 7) [.slice b' n' c'] 0 h1 Q:=by
 have N:=C.nodes i r hr
 have ib:=g.size
 have Zo:∀q,r.kb=some q->∀q',lb=some q'->q.block≠q'.block:=fun q e q' e' e2=>by
  have h1:=N.oG q e
  rw[e2,C.hl q' e'] at h1
  have:=(Prod.mk.inj (Option.some.inj h1)).2
  omega
 have o1:bH qZ h1 0 115 lb rs.length lc rs:=uQ C.o g.keep.w fun q e=>⟨C.o.hi q e,fun q' e'=>Zo q' e' q e⟩
 refine zL tc o1 hr (z:=8) rfl (show 7<8 by decide) rfl (x':=⟨{r.x with kids:=l'},r.ab,r.an,r.ac,b',n',c'⟩) (fun A h cs e=>by have e:cs=xC r:=e;subst e;rfl) fun a h2 ea o2 k2 s2 hb=>?_
 have Ou:col a.block=some (s,1):=C.hl a ea
 have R9:=C.o.hi a ea
 have jr:∀k,k<h.size->cz col h b' (s,2*i+3) k=col k:=fun k hk=>eJ hk
 have kk:∀k,k<h.size->k≠a.block->(∀q,r.kb=some q->q.block≠k)->h2[k]? =h[k]? :=fun k h1 u0 h3=>(k2.2 k u0).trans (g.vM k h1 h3)
 have Uk:∀k,h2.size<=k->cz col h b' (s,2*i+3) k=none:=fun k hk=>by
  rw[pn (h':=h1) (fun q e=>o.hi q e) (by omega)];exact C.fresh k (by omega)
 refine hk h2 (cz col h b' (s,2*i+3)) (C.upd o2 ⟨by omega,fun k hk=>?_⟩ jr Uk ⟨?_,N.az,o.keep k2.w fun q e e2=>?_,fun q e=>?_,N.rk,N.rs,N.rp,N.fa,N.fn,N.ft⟩) ⟨⟨by omega,fun k hk=>?_⟩,jr⟩ (k2.less fun k hk e=>hk.2 (by rw[e];exact Ou))
 ·exact kk k hk.1 (fun e=>(hk.2 _ (by rw[e];exact Ou)).1 rfl) fun q e e2=>(hk.2 _ (by rw[<-e2];exact N.oG q e)).2 rfl
 ·refine N.ra.keep ⟨by omega,fun k hk o e hl=>?_⟩ fun k hk hs=>⟨by rw[jr k hs];exact hk.1,by omega⟩
  have hk:col k=none/\k<h.size:=hk.1
  rw[kk k hk.2 (fun e2=>by rw[e2,Ou] at hk;cases hk.1) (fun q e2 e3=>by have:=N.oG q e2;rw[e3,hk.1] at this;cases this)];exact e
 ·rcases nb q e with h1 | h1
  ·exact Zo q h1 a ea e2
  ·omega
 ·refine nq e fun cR=>?_
  rcases nb q e with h1 | h1
  ·exact N.oG q h1
  ·omega
 ·exact kk k hk.1 (fun e=>hk.2 _ (by rw[e];exact Ou)) fun q e e2=>hk.2 _ (by rw[<-e2];exact N.oG q e)
end
theorem Qv {a b:Int} {c d:Bs} {e1 f1:OA} {e2 e3 f2 f3:Nat} {k:Int->Int->Bs->OA->Nat->Nat->Bs->OA->Nat->Nat->Prop} (h:k a b c e1 e2 e3 d f1 f2 f3):
  kV (.agg ⟨[.int .u8 a,.int .u8 b,S c,.slice e1 e2 e3,S d,.slice f1 f2 f3]⟩) fun l76=>aG l76 fun e77 l78=>aL .u8 e77 fun i79=>aG l78 fun e80 l81=>aL .u8 e80 fun i82=>aG l81 fun e83 l84=>gL e83 fun s85=>aG l84 fun e86 l87=>aB e86 fun Vk Vl Vm=>aG l87 fun e89 l90=>gL e89 fun s91=>aG l90 fun e92 l93=>aB e92 fun agr ags agt=>cW l93 (k i79 i82 s85 Vk Vl Vm s91 agr ags agt):=h
section
variable {h h':H} {K:KV} {col col':bY} {s i p:Nat} {t a:Addr} {ns:List ay} {x y:ay} {lb:OA} {lc:Nat} {rs:List jJ} {r:jJ}
theorem Ae {q:Addr} {cs:List Value} (hc:∀(j:Nat) v,cs[j]? =some v->cell h (q.add j)=some v) (j:Nat) {v:Value} (e:cs[j]? =some v):cell h ((q.add 0).add j)=some v:=by rw[add_zero'];exact hc j v e
theorem aa9 (hf:∀k,h.size<=k->col k=none) (hk:∀t h' col',dD h' col' s t [mH]->Ext s h col h' col'->K (.pointer (some t)) h'):zC 52 [] h K:=by
 refine Xdq.ok _ _ (af fun a1 h1 v1 k1 e1 s1=>af fun a2 h2 v2 k2 e2 s2=>?_)
 have o2:bH qZ h2 0 115 (some a1) 1 1 [⟨mH,none,0,0,none,0,0⟩]:=(v1.kb k2).Hi fun _=>rfl
 refine hk a2 h2 (fun k=>if k=h.size then some (s,1) else if k=h.size+1 then some (s,0) else col k) ⟨some a1,1,[⟨mH,none,0,0,none,0,0⟩],⟨v2,o2,fun q e=>by cases e;rw[if_pos e1],fun i r hr=>?_,by rw[if_neg (by omega),if_pos (by omega)],fun k hk=>?_,by decide⟩,rfl⟩ ⟨SK.less (k1.trans k2) fun k hk=>hk.1,fun k hk=>?_⟩
 ·cases i with
  | succ i=>simp at hr
  | zero=>
   simp at hr
   subst hr
   exact⟨⟨rfl,Nat.le_refl _,Nat.zero_le _,fun i x hx=>by simp[mH] at hx⟩,fun _=>rfl,fB.none _,(fun q e=>by cases e),⟨by decide,by decide⟩,⟨by decide,by decide⟩,⟨by decide,by decide⟩,by decide,Nat.zero_le _,Nat.zero_le _⟩
 ·show(if _ then _ else _)=_
  rw[if_neg (by omega),if_neg (by omega)];exact hf k (by omega)
 ·show(if _ then _ else _)=_
  rw[if_neg (by omega),if_neg (by omega)]
theorem M0 {kd sp:Int} {nm tx:Bs} {ab kb:OA} {an ac kn kc:Nat} {attrs:List bw} {A:Nat->Prop} (r:Row aY A h ab an ac attrs) (JI:an<=1000000)
  (h1:kd=1->∀b' c' h',bH aY h' h.size 67 b' an c' attrs->KB h h'->K (.agg ⟨[.int .u8 kd,.int .u8 sp,S nm,.slice b' an c',S [],.slice none 0 0]⟩) h')
  (h2:kd≠1->∀h',KB h h'->K (.agg ⟨[.int .u8 kd,.int .u8 0,S [],.slice none 0 0,S tx,.slice none 0 0]⟩) h'):
  zC 126 [.agg ⟨[.int .u8 kd,.int .u8 sp,S nm,.slice ab an ac,S tx,.slice kb kn kc]⟩] h K:=by
 refine Xd3.ok _ _ _ _ _ _ _ _ _ _ _ _ (af fun x1 g1 v1 k1 e1 s1=>af fun x2 g2 v2 k2 e2 s2=>?_)
 have Ui:=v1.kb k2
 have tK:KB h g2:=k1.trans k2
 have hs1:=k1.1
 have Xy:=k2.1
 refine⟨_,Ui.cell 0 rfl,bf (fun e=>⟨_,_,_,Ui.cell 3 rfl,?_⟩) fun e=>⟨_,Ui.cell 0 rfl,_,Ui.cell 4 rfl,aQ v2 (Nat.le_refl 6) fun g3 v3 k3 s3=>?_⟩⟩
 ·have on:bH aY g2 g2.size 67 none 0 0 []:=bH.none _ _ _
  refine te Hg (KB.refl g2) on (r.JC.keep ((KB.w tK).less fun k hk=>hk.2) fun k hk hs=>by show k<g2.size;omega) (by omega) (by decide) fun b' c' g3 o3 k3=>aH ?_
  have o3:bH aY g3 g2.size 67 b' an c' attrs:=by
   rw[Nat.zero_add] at o3;exact o3
  rw[Nat.zero_add]
  have Vn:=Ui.kb k3
  refine⟨_,Vn.cell 0 rfl,_,Vn.cell 1 rfl,_,Vn.cell 2 rfl,aQ (v2.kb k3) (Nat.le_refl 6) fun g4 v4 k4 s4=>?_⟩
  have kk:KB h g4:=KB.step (tK.trans k3) k4 (by omega)
  have o4:bH aY g4 g2.size 67 b' an c' attrs:=o3.wZ k4 gK fun g hg=>by have:=v2.lt;omega
  exact⟨_,v4.cell 0 rfl,_,v4.cell 1 rfl,_,v4.cell 2 rfl,_,_,_,v4.cell 3 rfl,_,v4.cell 4 rfl,_,_,_,v4.cell 5 rfl,h1 e b' c' g4 (o4.lower (by omega)) kk⟩
 ·have kk:KB h g3:=KB.step tK k3 (by omega)
  exact⟨_,v3.cell 0 rfl,_,v3.cell 1 rfl,_,v3.cell 2 rfl,_,_,_,v3.cell 3 rfl,_,v3.cell 4 rfl,_,_,_,v3.cell 5 rfl,h2 e g3 kk⟩
theorem M1 (C:kI h col s t lb lc rs) (hx:bd .u8 x.kind/\bd .u8 x.space) (yN:x.parent= -1) (Lj:x.kids=[]) (hfa:x.attrs.length<=1000000) (Xx:x.name.length<=maxLen) (Iv:x.text.length<=maxLen) (lI:rs.length<1000000)
  {ab:OA} {an ac:Nat} (ra:Row aY (bT col h) h ab an ac x.attrs) (hz:ab=none->ac=0) {Q:Int->H->Prop}
  (hk:∀h' col',dD h' col' s t ((rs.map (·.x))++ [x])->Ext s h col h' col'->Q (rs.length:Int) h'):
  aw h #[.int .u8 x.kind,.int .u8 x.space,S x.name,.slice ab an ac,S x.text,.slice none 0 0,.int .i64 (-1),.slice none 0 0] 115 fun Vo h96=>bG h h96/\(aZ Tryz.prog (Builtin.append_ #[116,116] 116 ⟨[.slice lb rs.length lc,.slice (some Vo) 1 1]⟩) h96 fun v97 HS=>aB v97 fun b n c=>ae (some t) fun Ge=>bc (Ge.add 0) [.slice b n c] 0 HS fun Jd=>ae (some t) fun Vp=>∃b n c,cell Jd (Vp.add 0)=some (.slice b n c)/\(bd .i64 ((n:Int) - 1)/\Q ((n:Int) - 1) Jd)):=by
 refine af fun a1 h1 v1 k1 e1 s1=>⟨k1.ext,?_⟩
 have jQ:=C.o.hi
 have o1:=C.o.kb k1
 have hlen:rs.length=rs.length:=rfl
 have r1:Row qZ (FF h1 lb) h1 (some a1) 1 1 [⟨x,ab,an,ac,none,0,0⟩]:=v1.wJ (x:=⟨x,ab,an,ac,none,0,0⟩) (E:=qZ) (A:=FF h1 lb) (by
  show _=xC _
  unfold xC mG
  rw[yN]) ⟨v1.lt,fun q e=>by have:=jQ q e;omega⟩
 refine bH.Hh Vh o1 r1 (by simp only[maxLen];omega) (by omega) (Nat.zero_le _) fun b3 c3 h3 o3 g3 nb=>aH ?_
 have B8:∀q,lb=some q->col q.block=some (s,1):=C.hl
 have vt1:=C.v.kb k1
 have vt3:Var h3 t 118 [.slice lb rs.length lc]:=vt1.keep g3.keep.w ⟨vt1.lt,fun q e e2=>by have h1:=B8 q e;rw[e2,C.kj] at h1;cases h1⟩
 have sz3:=g3.size
 refine aa (cv (m:=0) (i:=0) vt3 (by show 0+0+1<=1;omega) fun h4 v4 k4 s4=>aa ⟨_,_,_,v4.cell 0 rfl,lJ (by omega) (by omega),?_⟩)
 have en:(((rs.length+1:Nat):Int) - 1)=(rs.length:Int):=by omega
 rw[en]
 have hb3:∀q,b3=some q->q.block<h3.size:=o3.hi
 have ht3:∀q,b3=some q->q.block≠t.block:=fun q e e2=>by
  rcases nb q e with h1 | h1
  ·have:=B8 q h1;rw[e2,C.kj] at this;cases this
  ·have:=C.v.lt;omega
 have jr:∀k,k<h.size->cz col h b3 (s,1) k=col k:=fun k hk=>eJ hk
 have kk:∀k,k<h1.size->k≠t.block->(∀q,lb=some q->q.block≠k)->h4[k]? =h1[k]? :=fun k h1 u0 Zi=>(k4.2 k u0).trans (g3.vM k h1 Zi)
 have agu:∀q,b3=some q->cz col h b3 (s,1) q.block=some (s,1):=fun q e=>nq e fun cR=>by
  rcases nb q e with h1 | h1
  ·exact B8 q h1
  ·omega
 have kp:bZ (fun k=>k<h.size/\k≠t.block/\∀q,lb=some q->q.block≠k) h h4:=⟨by omega,fun k hk o e hlp=>by
  rw[kk k (by omega) hk.2.1 hk.2.2,k1.2 k hk.1];exact e⟩
 refine hk h4 (cz col h b3 (s,1)) ⟨b3,c3,rs++ [⟨x,ab,an,ac,none,0,0⟩],⟨?_,?_,agu,fun j z pN=>?_,(jr _ C.v.lt).trans C.kj,fun k hk=>?_,by simp;omega⟩,by rw[List.map_append];rfl⟩ ⟨⟨by omega,fun k hk=>?_⟩,jr⟩
 ·rw[List.length_append];exact v4
 ·rw[List.length_append]
  exact uQ o3 k4.w fun q e=>ht3 q e
 ·by_cases hj:j<rs.length
  ·rw[List.getElem?_append_left hj] at pN
   refine(C.nodes j z pN).keep kp jr fun k hk mA=>⟨hk,fun e=>?_,fun q e e2=>?_⟩
   ·rw[e,C.kj] at mA;rcases mA with h1 | h1 <;> cases h1
   ·have:=B8 q e;rw[e2] at this;rw[this] at mA
    rcases mA with h1 | h1
    ·cases h1
    ·have:=(Prod.mk.inj (Option.some.inj h1)).2;omega
  ·have hjn:j=rs.length:=by
    have:=dv pN
    simp at this;omega
   subst hjn
   rw[List.getElem?_append_right (Nat.le_refl _),Nat.sub_self] at pN
   simp at pN
   subst pN
   refine⟨ra.keep (kp.less fun k hk=>⟨hk.1.2,fun e2=>(by have:=hk.1.1;rw[e2,C.kj] at this;cases this),fun q e2 e3=>by have h1:=B8 q e2;rw[e3,hk.1.1] at h1;cases h1⟩) fun k hk hs=>⟨by rw[jr k hs];exact hk.1,by omega⟩,hz,?_,(fun q e=>by cases e),hx.1,hx.2,?_,hfa,Xx,Iv⟩
   ·show fB h4 none 0 0 x.kids
    rw[Lj];exact fB.none _
   ·show bd .i64 x.parent
    rw[yN];exact⟨by decide,by decide⟩
 ·rw[pn (h':=h3) hb3 (by omega)];exact C.fresh k (by omega)
 ·obtain⟨BZ,yg⟩:=hk
  rw[kk k (by omega) (fun e=>yg 0 (by rw[e];exact C.kj)) (fun q e e2=>yg 1 (by rw[<-e2];exact B8 q e))]
  exact k1.2 k BZ
theorem wx (T:dD h col s t ns) {kd sp:Int} {nm tx:Bs} {ab kb:OA} {an ac kn kc:Nat} {attrs:List bw} {A:Nat->Prop} (r:Row aY A h ab an ac attrs) (JI:an<=1000000) (Zj:bd .u8 kd) (hsp:bd .u8 sp) (Pp:nm.length<=maxLen) (Zk:tx.length<=maxLen) (lI:ns.length<1000000)
  (hk:∀h' col',dD h' col' s t (bE ns (bF kd sp nm attrs tx)).1->Ext s h col h' col'->K (.int .i64 (bE ns (bF kd sp nm attrs tx)).2) h'):
  zC 105 [.pointer (some t),.agg ⟨[.int .u8 kd,.int .u8 sp,S nm,.slice ab an ac,S tx,.slice kb kn kc]⟩] h K:=by
 obtain⟨lb,lc,rs,C,em⟩:=T
 have hl:=r.len
 have Ew:ns.length=rs.length:=by rw[<-em,List.length_map]
 have Sz:¬(kd=1∨kd=2∨kd=3)->∀h',KB h h'->K (.int .i64 (-1)) h':=fun hn h' k=>by
  have eb:bF kd sp nm attrs tx=none:=by unfold bF;rw[if_neg (by omega),if_neg (by omega)]
  rw[eb] at hk
  exact hk h' col ⟨lb,lc,rs,C.kb k,em⟩ (Ext.kb k)
 refine Xdt.ok _ _ _ _ _ _ _ _ _ _ _ _ _ (af fun x3 h1 v1 k1 e1 s1=>⟨_,v1.cell 0 rfl,bf (fun e=>Sz (by omega) h1 k1) fun e=>⟨_,v1.cell 0 rfl,bf (fun e2=>Sz (by omega) h1 k1) fun e2=>?_⟩⟩)
 have C1:=C.kb k1
 refine aa ⟨_,_,_,C1.v.cell 0 rfl,_,v1.cell 0 rfl,_,v1.cell 1 rfl,_,v1.cell 2 rfl,_,_,_,v1.cell 3 rfl,_,v1.cell 4 rfl,_,_,_,v1.cell 5 rfl,?_⟩
 refine M0 (r.JC.keep ((KB.w k1).less fun k hk=>hk.2) (B':=fun _=>True) fun _ _ _=>trivial) JI (fun e3 b' c' h2 o2 k2=>?_) fun e3 h2 k2=>?_
 ·have eb:bF kd sp nm attrs tx=some ⟨kd,sp,nm,attrs,[], -1,[]⟩:=by unfold bF;rw[if_pos e3]
  rw[eb] at hk
  have ra:=De (col:=col) o2 fun k hk=>C.fresh k (by omega)
  refine Qv ⟨k2.ext,?_⟩
  refine M1 (Q:=fun y h=>K (.int .i64 y) h) (x:=⟨kd,sp,nm,attrs,[], -1,[]⟩) (C1.kb k2) ⟨Zj,hsp⟩ rfl rfl (by show attrs.length<=_;omega) Pp (Nat.zero_le _) (by omega) ra o2.nil fun h' col' T' E'=>?_
  rw[em] at T'
  have:=hk h' col' T' ((Ext.kb (k1.trans k2)).trans E')
  rw[<-Ew];exact this
 ·have eb:bF kd sp nm attrs tx=some ⟨kd,0,[],[],tx, -1,[]⟩:=by unfold bF;rw[if_neg e3,if_pos (by omega)]
  rw[eb] at hk
  refine Qv ⟨k2.ext,?_⟩
  refine M1 (Q:=fun y h=>K (.int .i64 y) h) (x:=⟨kd,0,[],[],tx, -1,[]⟩) (C1.kb k2) ⟨Zj,(show bd .u8 0 from⟨by decide,by decide⟩)⟩ rfl rfl (Nat.zero_le _) (Nat.zero_le _) Zk (by omega) ⟨rfl,Nat.le_refl _,Nat.zero_le _,fun i x hx=>by simp at hx⟩ (fun _=>rfl) fun h' col' T' E'=>?_
  rw[em] at T'
  have:=hk h' col' T' ((Ext.kb (k1.trans k2)).trans E')
  rw[<-Ew];exact this
end
theorem HT {h h':H} (k:KB h h') (b:OA):dW h h' b:=⟨k.1,fun q hq _=>k.2 q hq⟩
section
variable {h h':H} {K:KV} {col col':bY} {s i p:Nat} {t a:Addr} {ns:List ay} {x y:ay} {lb:OA} {lc:Nat} {rs:List jJ} {r:jJ}
theorem aab (T:dD h col s t ns) (G:aV ns) {id:Int} (hk:∀h' col',dD h' col' s t (eC ns id).1->Ext s h col h' col'->K (.bool (eC ns id).2) h'):
  zC 165 [.pointer (some t),.int .i64 id] h K:=by
 refine Xds.ok _ _ _ _ (lv T (ag (aR (fun e=>?_) fun e=>?_)))
 ·have e:=of_decide_eq_true e
  obtain⟨i,rfl⟩:=Int.eq_ofNat_of_zero_le e.1
  have hk:∀h' col',dD h' col' s t (eC ns (i:Int)).1->Ext s h col h' col'->K (.bool (eC ns (i:Int)).2) h':=hk
  have hx:ns[i]? =some (ns[i]'(by omega)):=List.getElem?_eq_getElem (by omega)
  generalize ns[i]'(by omega)=x at hx
  have ec:eC ns (i:Int)=if x.parent<0 then(ns,false) else match ns[x.parent.toNat]? with | none=>(ns,false) | some y=>(cutAt ns i x x.parent.toNat y,true):=by
   unfold eC
   rw[if_pos e,Int.toNat_natCast,hx]
   rfl
  have lI:=T.mQ
  have T0:=T
  obtain⟨lb,lc,rs,C,em⟩:=T
  obtain⟨r,hr,rfl⟩:=fu em hx
  refine ir C hr fun a hc=>⟨_,hc 6 _ rfl,bf (fun e2=>?_) fun e2=>ir C hr fun a hc=>⟨_,hc 6 _ rfl,?_⟩⟩
  ·rw[ec,if_pos e2] at hk
   exact hk h col T0 (Ext.refl _ _ _)
  ·rcases G.par i _ hx with h1 | ⟨h1,h2⟩
   ·omega
   obtain⟨p,hp⟩:=Int.eq_ofNat_of_zero_le h1
   have hp:r.x.parent=(p:Int):=hp
   have qq:p<ns.length:=by omega
   have hy:ns[p]? =some ns[p]:=List.getElem?_eq_getElem qq
   generalize ns[p]=y at hy
   rw[ec,if_neg e2,hp,Int.toNat_natCast,hy] at hk
   have bL:=G.tM hx hp
   have iZ:(i:Int) ∈ y.kids:=(G.kT p _ _ hy).2 ⟨i,_,rfl,hx,hp⟩
   have bQ:=pO iZ
   have hyf:=G.mQ hy
   obtain⟨q,hq,rfl⟩:=fu em hy
   have Np:=C.nodes p q hq
   have dJ:=Np.ok.len
   have oG:=Np.ok.own.cap
   rw[hp]
   refine vV T0 hy (aO (ir C hq fun a2 nj=>⟨_,_,_,nj 7 _ rfl,?_⟩))
   rw[Hk iZ]
   have rk:=Np.ok.row (A:=rS h.size) Np.ok.hi
   refine⟨by omega,te tL (KB.refl h) (bH.none _ _ _) (rk.sub (lo:=0) (hi:=bj (i:Int) q.x.kids) (z:=1) (by omega) (by omega) rfl) (by omega) (by decide) fun b3 c3 h3 o3 k3=>aH (ir (C.kb k3) hq fun a3 B5=>⟨_,_,_,B5 7 _ rfl,?_⟩)⟩
   have ei:((bj (i:Int) q.x.kids:Int)+1)=((bj (i:Int) q.x.kids+1:Nat):Int):=by omega
   rw[ei]
   refine⟨lJ (by omega) (by omega),by omega,te tL k3 o3 ((rk.kb k3).sub (lo:=bj (i:Int) q.x.kids+1) (hi:=q.kn) (z:=1) (by omega) (by omega) rfl) (by omega) (by decide) fun b4 c4 h4 o4 k4=>aH (aa ⟨_,_,_,(C.kb k4).v.cell 0 rfl,?_⟩)⟩
   have el:([]++(q.x.kids.take (bj (i:Int) q.x.kids)).drop 0)++(q.x.kids.take q.kn).drop (bj (i:Int) q.x.kids+1)=q.x.kids.eraseIdx (bj (i:Int) q.x.kids):=by
    rw[List.nil_append,List.drop_zero,List.take_of_length_le (l:=q.x.kids) (i:=q.kn) (by omega),List.eraseIdx_eq_take_drop_succ]
   rw[el] at o4
   refine sD C hq (HT k4 _) (HR o4) (fun z ez=>.inr (o4.lo z ez)) fun h5 rz C5 E5 _=>?_
   exact A7 ⟨_,_,_,C5,map_set em⟩ (by rw[List.getElem?_set_ne (Ne.symm bL)];exact hx) ⟨by decide,by decide⟩ fun h6 T6 E6 _=>hk h6 rz T6 (E5.trans E6)
 ·have e:=of_decide_eq_false e
  have:eC ns id=(ns,false):=by unfold eC;rw[if_neg e]
  rw[this] at hk
  exact hk h col T (Ext.refl _ _ _)
theorem GV (T:dD h col s t ns) (G:aV ns) {parent before id:Int} (hk:∀h' col',dD h' col' s t (cV ns parent before id).1->Ext s h col h' col'->K (.bool (cV ns parent before id).2) h'):
  zC 104 [.pointer (some t),.int .i64 parent,.int .i64 before,.int .i64 id] h K:=by
 have no:¬(dU ns parent=true/\(0<=id/\id<ns.length)/\id≠0/\before≠id/\0<=fg (((ns[parent.toNat]?).map (·.kids)).getD []) before/\cq ns parent id=false)->K (.bool false) h:=fun hn=>by
  have:cV ns parent before id=(ns,false):=by unfold cV;rw[if_neg hn]
  rw[this] at hk
  exact hk h col T (Ext.refl _ _ _)
 refine Xdw.ok _ _ _ _ _ _ (vP T (ag (aR (fun hh=>?_) fun hh=>lv T (ag (aR (fun _=>no fun hy=>by rw[hh] at hy;cases hy.1) fun _=>no fun hy=>by rw[hh] at hy;cases hy.1)))))
 refine lv T (ag (aR (fun hid=>?_) fun hid=>no fun hy=>of_decide_eq_false hid hy.2.1))
 have hid:=of_decide_eq_true hid
 obtain⟨p,y,ep,hy,mA⟩:=iN hh
 obtain⟨i,ei⟩:=Int.eq_ofNat_of_zero_le hid.1
 have ei:id=(i:Int):=ei
 have qq:=dv hy
 have hx:ns[i]? =some (ns[i]'(by omega)):=List.getElem?_eq_getElem (by omega)
 generalize ns[i]'(by omega)=x at hx
 have pf:(((ns[parent.toNat]?).map (·.kids)).getD [])=y.kids:=by rw[ep,Int.toNat_natCast,hy];rfl
 refine bf (fun e=>no (fun hh=>hh.2.2.1 e)) fun h0=>bf (fun e=>no (fun hh=>hh.2.2.2.1 e)) fun hb=>CV T G (by omega) (ag (aR (fun e=>no (fun hh=>by rw[e] at hh;cases hh.2.2.2.2.2)) fun hw=>?_))
 rw[ep]
 refine aC (vV T hy (aO (bf (fun e=>no (fun hh=>by have:=hh.2.2.2.2.1;rw[pf] at this;omega)) fun aeO=>?_)))
 have vi:dU ns parent=true/\(0<=id/\id<ns.length)/\id≠0/\before≠id/\0<=fg (((ns[parent.toNat]?).map (·.kids)).getD []) before/\cq ns parent id=false:=
  ⟨hh,hid,h0,hb,by rw[pf];omega,hw⟩
 have epm:cV ns parent before id=(putAt (eC ns id).1 parent.toNat before id.toNat,true):=by unfold cV;rw[if_pos vi]
 rw[epm,ep,ei,Int.toNat_natCast,Int.toNat_natCast,<-ei] at hk
 have G1:=G.eC id
 obtain⟨y1,Hb,_,_,_,_,_,iZ,_,_⟩:=jd G (id:=id) hy
 obtain⟨x1,Fe,_,_,_,_,_,_,_,_⟩:=jd G (id:=id) hx
 have Ez:¬nW ns parent id:=fun hh=>by
  unfold cq at hw
  rw[@decide_eq_true (nW ns parent id) (Classical.propDecidable _) hh] at hw;cases hw
 have bL:i≠p:=fun e=>Ez (by rw[ep,ei,<-e];exact dw.2 (.inl rfl))
 obtain⟨Y9,IA⟩:=FA iZ hb (by omega)
 obtain⟨k,qS⟩:=Int.eq_ofNat_of_zero_le Y9
 have qS:fg y1.kids before=(k:Int):=qS
 have ke:putAt (eC ns id).1 p before i=(((eC ns id).1.set p {y1 with kids:=y1.kids.take k++(i:Int)::y1.kids.drop k}).set i {x1 with parent:=(p:Int)}):=by
  unfold putAt
  rw[Hb]
  dsimp only
  rw[qS,Int.toNat_natCast,List.getElem?_set_ne (Ne.symm bL),Fe]
 rw[ke] at hk
 have tail:∀h2 cJ,dD h2 cJ s t (eC ns id).1->Ext s h col h2 cJ->Xdw.n8 (some t) (p:Int) before id (fun y8 h=>K (.bool y8) h) (fun y8 h=>K (.bool y8) h) h2:=by
  intro h2 cJ T2 E2
  have hyf:=G1.mQ Hb
  have XP:=T2.mQ
  have T20:=T2
  obtain⟨lb,lc,rs,C,em⟩:=T2
  obtain⟨q,hq,rfl⟩:=fu em Hb
  have Np:=C.nodes p q hq
  have dJ:=Np.ok.len
  have oG:=Np.ok.own.cap
  have rk:=Np.ok.row (A:=rS h2.size) Np.ok.hi
  have hri:=dv Fe
  have hrp:=dv Hb
  refine vV T20 Hb (aO (ir C hq fun a2 nj=>⟨_,_,_,nj 7 _ rfl,?_⟩))
  rw[qS,ei]
  refine⟨by omega,te tL (KB.refl h2) (bH.none _ _ _) (rk.sub (lo:=0) (hi:=k) (z:=1) (by omega) (by omega) rfl) (by omega) (by decide) fun b3 c3 h3 o3 k3=>aH ?_⟩
  refine Pw tL (x:=(i:Int)) (fun A h=>⟨rfl,lJ (by omega) (by omega)⟩) o3 k3.1 (by simp only[maxLen];omega) (by omega) fun b4 c4 h4 o4 k4=>aH ?_
  have uu:KB h2 h4:=⟨Nat.le_trans k3.1 k4.1,fun q hq=>(k4.2 q hq).trans (k3.2 q hq)⟩
  refine ir (C.kb uu) hq fun a3 B5=>⟨_,_,_,B5 7 _ rfl,by omega,te tL uu o4 ((rk.kb uu).sub (lo:=k) (hi:=q.kn) (z:=1) (by omega) (by omega) rfl) (by omega) (by decide) fun b5 c5 h5 o5 k5=>aH (aa ⟨_,_,_,(C.kb k5).v.cell 0 rfl,?_⟩)⟩
  have el:(([]++(q.x.kids.take k).drop 0)++ [(i:Int)])++(q.x.kids.take q.kn).drop k=q.x.kids.take k++(i:Int)::q.x.kids.drop k:=by
   rw[List.nil_append,List.drop_zero,List.take_of_length_le (l:=q.x.kids) (i:=q.kn) (by omega),List.append_assoc];rfl
  rw[el] at o5
  refine sD C hq (HT k5 _) (HR o5) (fun z ez=>.inr (o5.lo z ez)) fun h6 ON C6 E6 _=>?_
  exact A7 ⟨_,_,_,C6,map_set em⟩ (by rw[List.getElem?_set_ne (Ne.symm bL)];exact Fe) (lJ (by omega) (by omega)) fun h7 T7 E7 _=>hk h7 ON T7 ((E2.trans E6).trans E7)
 exact aab T G fun h2 cJ T2 E2=>ag (aR (fun _=>tail h2 cJ T2 E2) fun _=>tail h2 cJ T2 E2)
end
section
variable {h h':H} {K:KV} {col col':bY} {s i p:Nat} {t a:Addr} {ns:List ay} {x y:ay} {lb:OA} {lc:Nat} {rs:List jJ} {r:jJ}
theorem Qw (T:dD h col s t ns) (G:aV ns) {parent before:Int} {tx:Bs} (hlen:∀(i:Nat) x,ns[i]? =some x->x.text.length+tx.length<=9223372036854775807) (Fb:tx.length<=maxLen) (lI:ns.length<1000000)
  (hk:∀h' col',dD h' col' s t (cD ns parent before tx).1->Ext s h col h' col'->K (.bool (cD ns parent before tx).2) h'):
  zC 60 [.pointer (some t),.int .i64 parent,.int .i64 before,S tx] h K:=by
 refine Xdy.ok _ _ _ _ _ _ (vP T (ag (aR (fun hh=>?_) fun hh=>?_)))
 ·obtain⟨p,y,ep,hy,mA⟩:=iN hh
  have qq:=dv hy
  have pf:(((ns[parent.toNat]?).map (·.kids)).getD [])=y.kids:=by rw[ep,Int.toNat_natCast,hy];rfl
  unfold cD at hk
  rw[pf] at hk
  have T0:=T
  have Iv:=T.mQ
  have Yi:=G.mQ hy
  rw[ep]
  refine aD (vV T hy (aO (bf (fun e=>?_) fun e=>?_)))
  ·rw[if_pos (fun Uc=>by have:=Uc.2;omega)] at hk
   exact hk h col T (Ext.refl _ _ _)
  ·rw[if_neg (fun hn=>hn ⟨hh,by omega⟩)] at hk
   refine bf (fun e2=>?_) fun e2=>?_
   ·rw[if_pos e2] at hk
    exact hk h col T (Ext.refl _ _ _)
   ·rw[if_neg e2] at hk
    obtain⟨k,qS⟩:=Int.eq_ofNat_of_zero_le (show 0<=fg y.kids before by omega)
    have qS:fg y.kids before=(k:Int):=qS
    rw[qS,Int.toNat_natCast,ep] at hk
    have other:((y.kids[k - 1]?).bind (fun q:Int=>if 0<(k:Int) then(ns[q.toNat]?).bind fun z=>if z.kind=2 then some (q.toNat,z) else none else none))=none->Xdy.n8 (some t) (p:Int) before tx (fun y8 h=>K (.bool y8) h) (fun y8 h=>K (.bool y8) h) h:=fun Ld=>by
     rw[Ld] at hk
     refine wx T (A:=fun _=>True) (attrs:=[]) ⟨rfl,Nat.le_refl _,Nat.zero_le _,fun i x hx=>by simp at hx⟩ (by omega) ⟨by decide,by decide⟩ ⟨by decide,by decide⟩ (Nat.zero_le _) Fb lI fun h2 cJ T2 E2=>aO ?_
     exact GV T2 (G.bE _ _ _ _ _) fun h3 col3 T3 E3=>ag (aR (fun eb=>by have:=hk h3 col3 T3 (E2.trans E3);rw[eb] at this;exact this) fun eb=>by have:=hk h3 col3 T3 (E2.trans E3);rw[eb] at this;exact this)
    rw[qS]
    refine bf (fun e3=>?_) fun e3=>other (by
     have e4:¬0<(k:Int):=e3
     simp only[if_neg e4]
     cases y.kids[k - 1]? <;> rfl)
    obtain⟨lb,lc,rs,C,em⟩:=T
    obtain⟨q,hq,rfl⟩:=fu em hy
    have N:=C.nodes p q hq
    have dJ:=N.ok.len
    have Zd:k<=q.x.kids.length:=by
     have:=qS
     unfold fg Bc at this
     by_cases eb:before= -1
     ·rw[if_pos eb] at this;omega
     ·rw[if_neg eb] at this
      by_cases em:before ∈ q.x.kids
      ·rw[if_pos em] at this;have:=pO em;omega
      ·rw[if_neg em] at this;omega
    have ek:((k:Int) - 1)=((k - 1:Nat):Int):=by omega
    refine aD (ir C hq fun a hc=>⟨_,_,_,hc 7 _ rfl,lJ (by omega) (by omega),?_⟩)
    rw[ek]
    have bQ:k - 1<q.x.kids.length:=by omega
    refine(N.ok.row (A:=fun _=>True) fun _ _=>trivial).bj bQ rfl fun a hA=>CU hA fun _=>?_
    obtain⟨j,z,ej,il,KU⟩:=(G.kT p _ _ hy).1 (List.getElem_mem bQ)
    have fU:=dv il
    rw[ej]
    obtain⟨w,hw,rfl⟩:=fu em il
    have Nw:=C.nodes j w hw
    have CZ:((q.x.kids[k - 1]?).bind (fun q:Int=>if 0<(k:Int) then(ns[q.toNat]?).bind fun z=>if z.kind=2 then some (q.toNat,z) else none else none))=if w.x.kind=2 then some (j,w.x) else none:=by
     rw[List.getElem?_eq_getElem bQ,ej]
     show(if 0<(k:Int) then(ns[((j:Nat):Int).toNat]?).bind _ else none)=_
     rw[if_pos (by omega),Int.toNat_natCast,il]
     rfl
    refine ir C hw fun a2 nj=>⟨_,Ae nj 0 rfl,bf (fun e4=>?_) fun e4=>aC (other (by rw[CZ,if_neg e4]))⟩
    rw[CZ,if_pos e4] at hk
    have hlz:=hlen j _ il
    refine aD (aa ⟨_,_,_,C.v.cell 0 rfl,ir C hw fun a3 B5=>⟨_,Ae B5 4 rfl,?_,?_⟩⟩)
    ·show((w.x.text.length+tx.length:Nat):Int)<=9223372036854775807
     omega
    ·refine Ac C hw (f:=4) (r':={w with x:={w.x with text:=w.x.text++tx}}) (by omega) rfl rfl ⟨rfl,rfl,rfl,rfl,rfl,rfl,rfl,rfl⟩ ⟨Nw.rk,Nw.rs,Nw.rp,Nw.fn,?_⟩ fun h2 C2 E2 _=>hk h2 col ⟨_,_,_,C2,map_set em⟩ E2
     show(w.x.text++tx).length<=_
     rw[List.length_append];simp only[maxLen];omega
 ·have:cD ns parent before tx=(ns,false):=by
   unfold cD
   rw[if_pos (fun hy=>by rw[hh] at hy;cases hy.1)]
  rw[this] at hk
  exact hk h col T (Ext.refl _ _ _)
end
theorem _root_.Go.Sh.bH.Gf {α:Type} {E:El α} {h h':H} {base e n c g:Nat} {b:OA} {l:List α} (o:bH E h base e b n c l) (k:KX g h h') (hf:Flat E) (bL:∀q,b=some q->q.block≠g):bH E h' base e b n c l:=
 ⟨o.own.wZ k.w hf fun g e _ _=>bL _ e,o.lo,fun a ea=>Nat.lt_of_lt_of_le (o.hi a ea) k.1,o.nil⟩
section
variable {h h':H} {K:KV} {col col':bY} {s i p:Nat} {t a:Addr} {ns:List ay} {x y z:ay} {lb:OA} {lc:Nat} {rs:List jJ} {r:jJ}
theorem M3 (B:Hc z) {ab kb:OA} {an ac kn kc:Nat} {A:Nat->Prop} (r:Row aY A h ab an ac z.attrs) (JI:an<=1000000)
  (hk:∀b' n' c' h',bH aY h' h.size 67 b' n' c' z.attrs->KB h h'->K (.agg ⟨[.int .u8 z.kind,.int .u8 z.space,S z.name,.slice b' n' c',S z.text,.slice none 0 0]⟩) h'):
  zC 126 [.agg ⟨[.int .u8 z.kind,.int .u8 z.space,S z.name,.slice ab an ac,S z.text,.slice kb kn kc]⟩] h K:=by
 refine M0 r JI (fun e b' c' h' o k=>?_) fun e h' k=>?_
 ·rcases B with ⟨_,et⟩ | ⟨e2,_⟩
  ·have:=hk b' an c' h' o k
   rw[et] at this
   exact this
  ·exact absurd e e2
 ·rcases B with ⟨e2,_⟩ | ⟨_,e1,e2,e3⟩
  ·exact absurd e2 e
  ·have:=hk none 0 0 h' (by rw[e3];exact bH.none _ _ _) k
   rw[e1,e2] at this
   exact this
theorem OJ (G:aV ns) (B:gJ ns):∀(d:Nat) (id:Int) {h:H} {K:KV} (T:dD h col s t ns) (hd:Deep d ns id)
  (hk:∀h' b n c,KB h h'->fK (dZ d) h' h.size 70 b n c (cY d ns id)->K (.slice b n c) h'),
  zC 50 [.pointer (some t),.int .i64 id] h K:=by
 intro d
 induction d with
 | zero=>intro id h K T hd;exact hd.elim
 | succ d ihd=>
  intro id h K T hd hk
  have Iv:=T.mQ
  refine Ov.ok _ _ _ _ (lv T (ag (aR (fun e=>?_) fun e=>?_)))
  ·have e:=of_decide_eq_true e
   obtain⟨i,rfl⟩:=Int.eq_ofNat_of_zero_le e.1
   have hx:ns[i]? =some (ns[i]'(by omega)):=List.getElem?_eq_getElem (by omega)
   generalize ns[i]'(by omega)=x at hx
   have T0:=T
   have hfx:=G.mQ hx
   obtain⟨lb,lc,rs,C,em⟩:=T
   obtain⟨r,hr,rfl⟩:=fu em hx
   have N:=C.nodes i r hr
   have dJ:=N.ok.len
   have ew:cY (d+1) ns (i:Int)=r.x.kids.map fun k=>nN ns k (cY d ns k):=by
    show(qQ ns (i:Int)).map _=_
    rw[kJ hx]
   have hdk:∀k ∈ r.x.kids,Deep d ns k:=by
    have:=hd
    intro k yg
    exact this k (by rw[kJ hx];exact yg)
   have hk:∀h' b n c,KB h h'->fK (dZ (d+1)) h' h.size 70 b n c (cY (d+1) ns (i:Int))->K (.slice b n c) h':=hk
   rw[ew] at hk
   refine aD (ir C hr fun a hc=>⟨_,_,_,hc 7 _ rfl,r.kn+1,?_⟩)
   have key:∀N' m h2 ob oc (out:List cd),m+N'=r.kn->KB h h2->fK (dZ (d+1)) h2 h.size 70 ob m oc out->out=(r.x.kids.take m).map (fun k=>nN ns k (cY d ns k))->
     Ov.qI (fun Gg Gh Gi h=>Ov.n7 Gg Gh Gi (fun fE fF fG h=>K (.slice fE fF fG) h) (fun fE fF fG h=>K (.slice fE fF fG) h) h) (fun Gg Gh Gi h=>Ov.n7 Gg Gh Gi (fun fE fF fG h=>K (.slice fE fF fG) h) (fun fE fF fG h=>K (.slice fE fF fG) h) h) (fun fE fF fG h=>K (.slice fE fF fG) h) (N'+1) (some t) ob m oc r.kb r.kn r.kc (m:Int) h2:=by
    intro N'
    induction N' with
    | zero=>
     intro m h2 ob oc out TR k2 o2 eo
     unfold Ov.qI
     refine cg (by omega) ?_
     rw[List.take_of_length_le (by omega)] at eo
     rw[eo] at o2
     exact hk h2 ob m oc k2 o2
    | succ N' ih=>
     intro m h2 ob oc out TR k2 o2 eo
     have jR:m<r.x.kids.length:=by omega
     have Iw:fB h2 r.kb r.kn r.kc r.x.kids:=N.ok.keep (KB.w k2) fun q e=>N.ok.hi q e
     obtain⟨j,z,ej,il,KU⟩:=(G.kT i _ _ hx).1 (List.getElem_mem jR)
     have fU:=dv il
     obtain⟨w,hw,rfl⟩:=fu em il
     have C2:=C.kb k2
     have Nw:=C2.nodes j w hw
     have Bw:=B.all j _ il
     have agy:=Nw.ra.len
     have hfa:=Nw.fa
     have hdj:Deep d ns (j:Int):=by rw[<-ej];exact hdk _ (List.getElem_mem jR)
     have Xy:=k2.1
     have Qx:=o2.hi
     have rdI:∀(h3:H) (Q:Int->Prop),KB h2 h3->Q (j:Int)->(0<=(m:Int)/\(m:Int)<(r.kn:Int))/\ae r.kb fun a=>∃i,cell h3 (a.add (Int.toNat (m:Int)*1))=some (.int .i64 i)/\Q i:=fun h3 Q k3 hq=>by
      have YN:fB h3 r.kb r.kn r.kc r.x.kids:=Iw.keep (KB.w k3) fun q e=>Iw.hi q e
      refine(YN.row (A:=fun _=>True) fun _ _=>trivial).bj jR rfl fun q hA=>CU hA fun _=>?_
      rw[ej];exact hq
     have tail:∀(a3:Addr) (h4:H) (b5:OA) (n5 c5 base:Nat),KB h2 h4->Var h4 a3 70 [.int .u8 w.x.kind,.int .u8 w.x.space,S w.x.name,.slice b5 n5 c5,S w.x.text,.slice none 0 0]->h2.size<=a3.block->h2.size<=base->bH aY h4 base 67 b5 n5 c5 w.x.attrs->(∀q,b5=some q->q.block≠a3.block)->
       ((0<=(m:Int)/\(m:Int)<(r.kn:Int))/\(ae r.kb fun Vq=>∃i105,cell h4 (Vq.add (Int.toNat (m:Int)*1))=some (.int .i64 i105)/\(zC 50 [(.pointer (some t)),(.int .i64 i105)] h4 fun Il Cw=>aB Il fun wA wB wC=>bc (a3.add 5) [(.slice wA wB wC)] 0 Cw fun yX=>∃i110,cell yX ((a3).add 0)=some (.int .u8 i110)/\(∃i111,cell yX ((a3).add 1)=some (.int .u8 i111)/\(∃aad,cell yX ((a3).add 2)=some (S aad)/\(∃SA SB SC,cell yX ((a3).add 3)=some (.slice SA SB SC)/\(∃aae,cell yX ((a3).add 4)=some (S aae)/\(∃SD SE SF,cell yX ((a3).add 5)=some (.slice SD SE SF)/\(aw yX #[(.int .u8 i110),(.int .u8 i111),(S aad),(.slice SA SB SC),(S aae),(.slice SD SE SF)] 70 fun a116 Qy=>aZ Tryz.prog (Builtin.append_ #[25,25] 25 ⟨[(.slice ob m oc),(.slice (some a116) 1 1)]⟩) Qy fun Vr Qz=>aB Vr fun aaf aag aah=>bd .i64 ((m:Int)+(1:Int))/\(Ov.qI (fun Gg Gh Gi h=>Ov.n7 Gg Gh Gi (fun fE fF fG h=>K (.slice fE fF fG) h) (fun fE fF fG h=>K (.slice fE fF fG) h) h) (fun Gg Gh Gi h=>Ov.n7 Gg Gh Gi (fun fE fF fG h=>K (.slice fE fF fG) h) (fun fE fF fG h=>K (.slice fE fF fG) h) h) (fun fE fF fG h=>K (.slice fE fF fG) h) (N'+1) (some t) aaf aag aah r.kb r.kn r.kc ((m:Int)+(1:Int)) Qz)))))))))):=by
      intro a3 h4 b5 n5 c5 base uu v4 ha3 hO o5 bL
      have hs4:=uu.1
      refine rdI h4 _ uu (ihd (j:Int) (T0.kb (k2.trans uu)) hdj fun h6 b6 n6 c6 k6 o6=>aH ?_)
      have hs6:=k6.1
      have hv4:=v4.lt
      refine cv (m:=5) (i:=0) (v4.kb k6) (by show 5+0+1<=6;omega) fun h8 v8 k8 s8=>?_
      have v8:Var h8 a3 70 [.int .u8 w.x.kind,.int .u8 w.x.space,S w.x.name,.slice b5 n5 c5,S w.x.text,.slice b6 n6 c6]:=v8
      refine⟨_,v8.cell 0 rfl,_,v8.cell 1 rfl,_,v8.cell 2 rfl,_,_,_,v8.cell 3 rfl,_,v8.cell 4 rfl,_,_,_,v8.cell 5 rfl,af fun a9 h9 v9 k9 e9 s9=>?_⟩
      have OZ:KB h2 h8:=KB.step (uu.trans k6) k8 (by omega)
      have o9:fK (dZ (d+1)) h9 h.size 70 ob m oc out:=(o2.kb OZ).kb k9
      have oa:bH aY h9 base 67 b5 n5 c5 w.x.attrs:=((o5.kb k6).Gf k8 gK bL).kb k9
      have QA:fK (dZ d) h9 h4.size 70 b6 n6 c6 (cY d ns j):=(o6.kw (k8.w.less fun g (hg:h4.size<=g)=>by omega)).kb k9
      have hR:tf (d+1) (fun k=>h.size<=k/\FF h9 ob k) h9 (.mk w.x.kind w.x.space w.x.name w.x.attrs w.x.text (cY d ns j)) [.int .u8 w.x.kind,.int .u8 w.x.space,S w.x.name,.slice b5 n5 c5,S w.x.text,.slice b6 n6 c6]:=
       M4 (x:=.mk w.x.kind w.x.space w.x.name w.x.attrs w.x.text (cY d ns j)) (oa.behind gK fun k h1 u0=>⟨by omega,u0,fun q e=>by have:=Qx q e;omega⟩) oa.nil
        (QA.row.keep (bZ.refl _ _) fun k hk hs=>⟨by have:=hk.1;omega,hs,fun q e=>by have:=Qx q e;have:=hk.1;omega⟩) QA.nil Nw.rk Nw.rs Nw.fn Nw.ft
      have r9:Row (dZ (d+1)) (fun k=>h.size<=k/\FF h9 ob k) h9 (some a9) 1 1 [.mk w.x.kind w.x.space w.x.name w.x.attrs w.x.text (cY d ns j)]:=v9.wJ hR ⟨by omega,v9.lt,fun q e=>by have:=Qx q e;omega⟩
      refine fK.append (QB (d+1)) o9 r9 (by simp only[maxLen];omega) (by omega) (by omega) fun QC Tr df Vs g10=>aH ⟨lJ (by omega) (by omega),?_⟩
      refine ih (m+1) df QC Tr _ (by omega) ?_ Vs ?_
      ·exact g10.yj ((k2.trans OZ).trans k9) fun q e=>o2.lo q e
      ·rw[eo,List.take_add_one,List.getElem?_eq_getElem jR,List.map_append,ej]
       congr 1
       show [_]=[nN ns (j:Int) _]
       unfold nN
       rw[Int.toNat_natCast,il]
     unfold Ov.qI
     refine bK (by omega) ⟨aa ⟨_,_,_,C2.v.cell 0 rfl,rdI h2 _ (KB.refl h2) (MY C2 hw fun a2 nj=>?_)⟩,aa ⟨_,_,_,C2.v.cell 0 rfl,rdI h2 _ (KB.refl h2) (MY C2 hw fun a2 nj=>?_)⟩⟩
     ·refine⟨_,Ae nj 0 rfl,_,Ae nj 1 rfl,_,Ae nj 2 rfl,_,_,_,Ae nj 3 rfl,_,Ae nj 4 rfl,_,_,_,Ae nj 5 rfl,M3 Bw Nw.ra (by omega) fun b5 n5 c5 h3 o3 k3=>Qv (af fun a4 h4 v4 k4 e4 s4=>aQ v4 (Nat.le_refl 6) fun h5 v5 k5 s5=>?_)⟩
      have hs3:=k3.1
      exact tail a4 h5 b5 n5 c5 h2.size (KB.step (k3.trans k4) k5 (by omega)) v5 (by omega) (Nat.le_refl _) ((o3.kb k4).Gf k5 gK fun q e=>by have:=o3.hi q e;omega) fun q e=>by have:=o3.hi q e;omega
     ·refine⟨_,Ae nj 0 rfl,_,Ae nj 1 rfl,_,Ae nj 2 rfl,_,_,_,Ae nj 3 rfl,_,Ae nj 4 rfl,_,_,_,Ae nj 5 rfl,af fun a4 h4 v4 k4 e4 s4=>⟨k4.ext,?_⟩⟩
      refine M3 Bw ((C2.kb k4).nodes j w hw).ra (by omega) fun b5 n5 c5 h3 o3 k3=>Qv (aQ (v4.kb k3) (Nat.le_refl 6) fun h5 v5 k5 s5=>?_)
      have hs3:=k3.1
      exact tail a4 h5 b5 n5 c5 h4.size (KB.step (k4.trans k3) k5 (by omega)) v5 (by omega) (by omega) (o3.Gf k5 gK fun q e=>by have:=o3.lo q e;omega) fun q e=>by have:=o3.lo q e;omega
   exact key r.kn 0 h none 0 [] (by omega) (KB.refl h) (fK.none _ _ _) rfl
  ·have e0:=of_decide_eq_false e
   have e:cY (d+1) ns id=[]:=by
    unfold cY qQ
    by_cases h0:0<=id
    ·rw[if_pos h0,List.getElem?_eq_none (by omega)];rfl
    ·rw[if_neg h0];rfl
   rw[e] at hk
   exact hk h none 0 0 (KB.refl h) (fK.none _ _ _)
end
end Go.Proofs
