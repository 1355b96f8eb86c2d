import Derived.Test.YtijoifkjeamonaaGreatHc
import Derived.Test.YtijoifkjeamonaaGreatOpA
import Derived.Test.YtijoifkjeamonaaGreatDrF
import Derived.Test.YtijoifkjeamonaaGreatTxG
import Derived.Test.YtijoifkjeamonaaGreatDrB
import Derived.Test.YtijoifkjeamonaaGreatDoE
import Derived.Test.YtijoifkjeamonaaGreatTxD
namespace Go.Proofs
open Go Go.Sh
set_option linter.unusedVariables false
set_option maxRecDepth 100000
section
variable {h:H} {K:KV} {col:bY} {s i:Nat} {t a:Addr} {cp:List Addr} {ns:List ay} {x:ay}
theorem Fs (T:bz h col s t cp ns) {id:Int} (lI:ns.length<1000000) (hk:∀h' col' pc,bz h' col' s t pc (bg ns id).1->Ext s h col h' col'->K (.int .i64 (bg ns id).2) h'):
  zC 238 [.pointer (some t),.int .i64 id] h K:=by
 refine Xan.ok _ _ _ _ (jc T (fun hn=>cL (cw (by kernel_rfl) (ag (aD ?_)))) fun i a x e hx ha=>cL (cw (by kernel_rfl) (ag (aC ?_))))
 ·have:bg ns id=(ns, -1):=by unfold bg;rw[if_neg hn]
  rw[this] at hk
  exact hk h col cp T (Ext.refl _ _ _)
 ·have N:=T.nodes i x a hx ha
  obtain⟨ab,an,ac,kb,kn,kc,v,ra,hz,_⟩:=N.ex
  have cR:=(List.getElem?_eq_some_iff.1 hx).1
  have:bg ns id=bE ns (bF x.kind x.space x.name x.attrs x.text):=by
   unfold bg
   rw[if_pos (by omega),e,Int.toNat_natCast,hx];rfl
  rw[this] at hk
  have hra:=ra.len
  have hfa:=N.fa
  exact aa ⟨_,v.kg 0 rfl,_,v.kg 1 rfl,_,v.kg 2 rfl,_,_,_,v.kg 3 rfl,_,v.kg 4 rfl,_,_,_,v.kg 5 rfl,j9 T ra hz (by omega) N.rk N.rs N.fn N.ft lI fun h' col' pc T' e'=>aO (hk h' col' pc T' e')⟩
end
section
variable {h:H} {K:KV} {col:bY} {s i p:Nat} {t a:Addr} {cp:List Addr} {ns:List ay} {x y:ay}
theorem Ft {b b2:OA} {n c n2 c2:Nat} {l l2:List Int} (o:fB h b n c l) (o2:fB h b2 n2 c2 l2) (hn:n+n2<=1000000)
  (hk:∀b' c' h',fB h' b' (n+n2) c' (l++l2)->dW h h' b->Fu h b b'->K (.slice b' (n+n2) c') h'):
  aZ Tryz.prog (Builtin.append_ #[82,82] 82 ⟨[.slice b n c,.slice b2 n2 c2]⟩) h K:=by
 obtain⟨i,z,ht,hi,hz,vN,ib,zl⟩:=tL.is
 have ib:i.size=1:=ib
 refine rD (base:=0) ht hi hz vN (by rw[ib];exact o.own) (by rw[ib];simpa using o2.len) o2.own.cells (TO l2) (by rw[ib];decide) (by simp only[maxLen];omega) (by rw[zl];omega) (Nat.zero_le _) fun b' c' h' o' g' hb h0=>hk b' c' h' ⟨by rw[ib] at o';rw[List.map_append];exact o',fun x hx=>?_,fun e=>?_,fun q e=>?_⟩ g' fun q e=>?_
 ·rcases List.mem_append.1 hx with hx | hx
  ·exact o.TP x hx
  ·exact o2.TP x hx
 ·rcases o'.is with h1 | ⟨g,cur,e1,_⟩
  ·exact h1.2
  ·rw[e] at e1;cases e1
 ·rcases o'.is with h1 | ⟨g,cur,e1,_,hg,_⟩
  ·have:=h0 h1.1
   exact Nat.lt_of_lt_of_le (o.hi q (this.1▸e)) g'.size
  ·rw[e] at e1;cases e1;exact(Array.getElem?_eq_some_iff.1 hg).1
 ·rcases hb with rfl | rfl
  ·exact .inl e
  ·cases e;exact .inr (Nat.le_refl _)
theorem Fv (T:bz h col s t cp ns) (G:aV ns) {f dst:Int} (hk:∀h' col',bz h' col' s t cp (dn ns f dst).1->Ext s h col h' col'->K (.bool (dn ns f dst).2) h'):
  zC 239 [.pointer (some t),.int .i64 f,.int .i64 dst] h K:=by
 have hlen:=T.len
 have no:¬((0<=f/\f<ns.length)/\dU ns dst=true/\(((ns[f.toNat]?).map (·.kids)).getD [])≠ []/\cq ns dst f=false)->∀h',KB h h'->K (.bool false) h':=fun hn h' k=>by
  have:dn ns f dst=(ns,false):=by unfold dn;rw[if_neg hn]
  rw[this] at hk
  exact hk h' col (T.kb k) (Ext.kb k)
 refine TQ.ok _ _ _ _ _ (jc T (fun hn=>cL (jI T (fun vJ=>cL (cw (by kernel_rfl) (ag (aD (no (fun hh=>hn hh.1) h (KB.refl h)))))) fun p ap y ep hy B6 mA=>cL (cw (by kernel_rfl) (ag (aD (no (fun hh=>hn hh.1) h (KB.refl h))))))) fun i ai x ei hx XC=>cL (jI T (fun vJ=>cL (cw (by kernel_rfl) (ag (aC (cw (by kernel_rfl) (ag (aD (no (fun hh=>vJ (iN hh.2.1)) h (KB.refl h))))))))) fun p ap y ep hy B6 mA=>cL (cw (by kernel_rfl) (ag (aC (cw (by kernel_rfl) (ag (aC ?_))))))))
 have bQ:=dv hx
 have qq:=dv hy
 have Ni:=T.nodes i x ai hx XC
 obtain⟨ab,an,ac,kb,kn,kc,v,ra,hz,ok,oG⟩:=Ni.ex
 have e1:f.toNat=i:=by rw[ei];exact Int.toNat_natCast i
 have e2:dst.toNat=p:=by rw[ep];exact Int.toNat_natCast p
 rw[e1,hx] at no
 have dJ:=ok.len
 refine aa ⟨_,_,_,v.cell 7 rfl,bf (fun e=>no (fun hh=>hh.2.2.1 (List.eq_nil_of_length_eq_zero (by show x.kids.length=0;omega))) h (KB.refl h)) fun e=>sB T G (by omega) fun h1 k1=>ag (aR (fun e=>no (fun hh=>by rw[e] at hh;cases hh.2.2.2) h1 k1) fun hw=>?_)⟩
 have hhb:dU ns dst=true:=by
  unfold dU
  rw[ep,Int.toNat_natCast,hy,decide_eq_true (show 0<=(p:Int)/\(p:Int)<ns.length by omega)]
  exact decide_eq_true (mA.imp (fun h=>by omega) (fun h=>h))
 have hm:dn ns f dst=(iO ns i p x.kids y.kids,true):=by
  unfold dn
  rw[e1,e2,hx,hy]
  rw[if_pos ⟨by omega,hhb,fun h0=>by have h0:x.kids=[]:=h0;rw[h0] at dJ;simp at dJ;omega,hw⟩]
  rfl
 rw[hm] at hk
 have Ez:¬nW ns dst f:=fun hh=>by
  unfold cq at hw
  rw[@decide_eq_true (nW ns dst f) (Classical.propDecidable _) hh] at hw;cases hw
 have bL:i≠p:=fun e=>Ez (by rw[ep,ei,<-e];exact dw.2 (.inl rfl))
 have T1:=T.kb k1
 have v1:=v.kb k1
 have ok1:fB h1 kb kn kc x.kids:=ok.keep (KB.w k1) fun q e=>ok.hi q e
 have lI:=G.mQ hx
 have hfy:=G.mQ hy
 have Iv:=T.mQ
 have jO:=G.nodup i x hx
 refine aa ⟨_,_,_,v1.cell 7 rfl,kn+1,?_⟩
 have key:∀N m h2,m+N=kn->bz h2 col s t cp (eW ns (x.kids.take m) p)->fB h2 kb kn kc x.kids->Ext s h col h2 col->
   TQ.gz (fun z7 z8 h=>TQ.n5 z7 z8 (fun y6 h=>K (.bool y6) h) (fun y6 h=>K (.bool y6) h) h) (fun z7 z8 h=>TQ.n5 z7 z8 (fun y6 h=>K (.bool y6) h) (fun y6 h=>K (.bool y6) h) h) (fun y6 h=>K (.bool y6) h) (N+1) (some t) dst (some ai) (some ap) kb kn kc (kn:Int) (m:Int) h2:=by
  intro N
  induction N with
  | zero=>
   intro m h2 TR T2 o2 E2
   unfold TQ.gz
   refine cg (by omega) ?_
   rw[List.take_of_length_le (by omega)] at T2
   have R7:(i:Int) ∉ x.kids:=fun h=>by
    obtain⟨q,w,e,uB,hq⟩:=(G.kT i x _ hx).1 h
    have:q=i:=by omega
    subst this
    rw[hx] at uB;cases uB
    exact G.tM hx hq rfl
   have TS:(p:Int) ∉ x.kids:=fun h=>by
    obtain⟨q,w,e,uB,hq⟩:=(G.kT i x _ hx).1 h
    have:q=p:=by omega
    subst this
    exact Ez (by rw[ep,ei];exact dw.2 (.inr (by rw[eX uB,hq];exact dw.2 (.inl rfl))))
   have Ey:(eW ns x.kids p)[i]? =some x:=by rw[er hx,if_neg R7]
   have XA:(eW ns x.kids p)[p]? =some y:=by rw[er hy,if_neg TS]
   obtain⟨XD,O5,XE,Xo,RL,Xp,v2,R8,pN,Iw,O6⟩:=(T2.nodes p y ap XA B6).ex
   obtain⟨ab3,an3,ac3,kb3,kn3,kc3,v3,ra3,hz3,YN,hkc3⟩:=(T2.nodes i x ai Ey XC).ex
   have uo:=Iw.len
   have O7:=YN.len
   have YO:RL+kn3<=1000000:=by
    have Gm:=G.move hx hy (by rw[<-ei,<-ep];exact Ez)
    have h1:=Gm.mQ (dg hy)
    have h1:(if p=i then [] else if p=p then y.kids++x.kids else y.kids).length<=_:=h1
    rw[if_neg (Ne.symm bL),if_pos rfl,List.length_append,gT] at h1
    omega
   refine aa ⟨_,_,_,v2.cell 7 rfl,aa ⟨_,_,_,v3.cell 7 rfl,Ft Iw YN YO fun b' c' h3 o3 g3 nb=>aH (aa (vO T2 B6 XA v2 R8 pN O6 g3 o3 nb fun h4 fL T4 E4=>aa ?_))⟩⟩
   have hx4:((eW ns x.kids p).set p {y with kids:=y.kids++x.kids})[i]? =some x:=by rw[List.getElem?_set_ne (Ne.symm bL)];exact Ey
   obtain⟨ab5,an5,ac5,kb5,kn5,kc5,v5,ra5,hz5,ok5,aex⟩:=(T4.nodes i x ai hx4 XC).ex
   refine vO T4 XC hx4 v5 ra5 hz5 aex (dW.refl h4 kb5) (fB.none h4) (fun q e=>by cases e) fun h5 rz T5 E5=>?_
   have aey:((eW ns x.kids p).set p {y with kids:=y.kids++x.kids}).set i {x with kids:=[]}=iO ns i p x.kids y.kids:=by
    refine List.ext_getElem? fun j=>?_
    rw[sC (by rw[gU];exact bQ) (by rw[gU];exact qq)]
    by_cases e:j=i
    ·rw[if_pos e,e,dg hx,if_neg R7,if_pos rfl]
    ·rw[if_neg e]
     by_cases e2:j=p
     ·rw[if_pos e2,e2,dg hy,if_neg TS,if_neg (Ne.symm bL),if_pos rfl]
     ·rw[if_neg e2]
      cases hj:ns[j]? with
      | none=>
       rw[List.getElem?_eq_none (by rw[gU];exact List.getElem?_eq_none_iff.1 hj),List.getElem?_eq_none (by rw[gT];exact List.getElem?_eq_none_iff.1 hj)]
      | some z=>
       rw[er hj,dg hj,if_neg e,if_neg e2]
       by_cases AZ:(j:Int) ∈ x.kids
       ·rw[if_pos AZ,if_pos AZ]
       ·rw[if_neg AZ,if_neg AZ]
   rw[aey] at T5
   exact hk h5 rz T5 ((E2.trans E4).trans E5)
  | succ N ih=>
   intro m h2 TR T2 o2 E2
   unfold TQ.gz
   have jR:m<x.kids.length:=by omega
   refine bK (by omega) ((o2.row (A:=fun _=>True) fun _ _=>trivial).bj jR rfl fun q hA=>CU hA fun _=>?_)
   obtain⟨j,z,ej,il,KU⟩:=(G.kT i x _ hx).1 (List.getElem_mem jR)
   have fU:=dv il
   obtain⟨lb,lc,vt,o,uo⟩:=T2.ex
   have hll:(eW ns (x.kids.take m) p).length=ns.length:=gU
   have dk:(j:Int) ∉ x.kids.take m:=fun AZ=>by
    rw[<-ej] at AZ
    obtain⟨q,hq,e⟩:=List.getElem_of_mem AZ
    rw[List.length_take] at hq
    rw[List.getElem_take] at e
    have:=(List.getElem_inj jO).1 e
    omega
   rw[ej]
   refine aa ⟨_,_,_,vt.cell 0 rfl,?_⟩
   rw[hll]
   have o':=o
   rw[hll] at o'
   refine o'.row.bj (i:=j) (by omega) rfl fun q2 oT=>zD oT (aa ?_)
   have TT:cp[j]? =some (cp[j]'(by omega)):=List.getElem?_eq_getElem (by omega)
   have hzj:(eW ns (x.kids.take m) p)[j]? =some z:=by rw[er il,if_neg dk]
   have Nj:=T2.nodes j z _ hzj TT
   rw[ep]
   refine KY T2 TT hzj (lJ (by omega) (by omega)) fun h3 T3 E3 k3=>⟨lJ (by omega) (by omega),?_⟩
   rw[uC il dk,<-ej,show x.kids.take m++ [x.kids[m]]=x.kids.take (m+1) by rw[List.take_add_one,List.getElem?_eq_getElem jR];rfl] at T3
   have:=ih (m+1) h3 (by omega) T3 (o2.keep k3.w fun q e e3=>by
    have h1:=oG q e
    have h2:=Nj.col
    rw[<-e3,h1] at h2
    have:=(Prod.mk.inj (Option.some.inj h2)).2;omega) (E2.trans E3)
   rw[ep] at this
   exact this
 exact key kn 0 h1 (by omega) (by rw[List.take_zero,wM];exact T1) ok1 (Ext.kb k1)
end
section
variable {h h':H} {K:KV} {col col':bY} {s i p:Nat} {t a:Addr} {ns:List ay} {x y:ay} {lb:OA} {lc:Nat} {rs:List jJ} {r:jJ}
theorem O8 (hx:ns[i]? =some x) (hy:ns[p]? =some y) (bL:i≠p) (R7:(i:Int) ∉ x.kids) (TS:(p:Int) ∉ x.kids):
  (eW (ns.set i {x with kids:=[]}) x.kids p).set p {y with kids:=y.kids++x.kids}=iO ns i p x.kids y.kids:=by
 have bQ:=dv hx
 have qq:=dv hy
 refine List.ext_getElem? fun j=>?_
 by_cases e2:p=j
 ·subst e2
  rw[List.getElem?_set_self (by rw[gU,List.length_set];exact qq),dg hy,if_neg TS,if_neg (Ne.symm bL),if_pos rfl]
 ·rw[List.getElem?_set_ne e2]
  by_cases e:i=j
  ·subst e
   rw[er (List.getElem?_set_self bQ),if_neg R7,dg hx,if_neg R7,if_pos rfl]
  ·cases hj:ns[j]? with
   | none=>
    rw[List.getElem?_eq_none (by rw[gU,List.length_set];exact List.getElem?_eq_none_iff.1 hj),List.getElem?_eq_none (by rw[gT];exact List.getElem?_eq_none_iff.1 hj)]
   | some z=>
    rw[er (z:=z) (by rw[List.getElem?_set_ne e];exact hj),dg hj,if_neg (Ne.symm e),if_neg (Ne.symm e2)]
    by_cases AZ:(j:Int) ∈ x.kids
    ·rw[if_pos AZ,if_pos AZ]
    ·rw[if_neg AZ,if_neg AZ]
theorem TU (T:dD h col s t ns) (G:aV ns) {f dst:Int} (hk:∀h' col',dD h' col' s t (dn ns f dst).1->Ext s h col h' col'->K (.bool (dn ns f dst).2) h'):
  zC 230 [.pointer (some t),.int .i64 f,.int .i64 dst] h K:=by
 have no:¬((0<=f/\f<ns.length)/\dU ns dst=true/\(((ns[f.toNat]?).map (·.kids)).getD [])≠ []/\cq ns dst f=false)->K (.bool false) h:=fun hn=>by
  have:dn ns f dst=(ns,false):=by unfold dn;rw[if_neg hn]
  rw[this] at hk
  exact hk h col T (Ext.refl _ _ _)
 refine Oj.ok _ _ _ _ _ (lv T (ag (aR (fun hid=>?_) fun hid=>vP T (ag (aR (fun _=>no fun hy=>of_decide_eq_false hid hy.1) fun _=>no fun hy=>of_decide_eq_false hid hy.1)))))
 refine vP T (ag (aR (fun hh=>?_) fun hh=>no fun hy=>by rw[hh] at hy;cases hy.2.1))
 have hid:=of_decide_eq_true hid
 obtain⟨p,y,ep,hy,mA⟩:=iN hh
 obtain⟨i,ei⟩:=Int.eq_ofNat_of_zero_le hid.1
 have ei:f=(i:Int):=ei
 have qq:=dv hy
 have bQ:i<ns.length:=by omega
 have hx:ns[i]? =some (ns[i]'bQ):=List.getElem?_eq_getElem bQ
 generalize ns[i]'bQ=x at hx
 have e1:f.toNat=i:=by rw[ei];exact Int.toNat_natCast i
 have e2:dst.toNat=p:=by rw[ep];exact Int.toNat_natCast p
 rw[e1,hx] at no
 have Iv:=T.mQ
 have T0:=T
 obtain⟨lb,lc,rs,C,em⟩:=T
 obtain⟨q,hq,rfl⟩:=fu em hx
 have N:=C.nodes i q hq
 have dJ:=N.ok.len
 have hkcp:=N.ok.own.cap
 have Ij:=hk
 rw[ei] at no ⊢
 refine aD (aD (ir C hq fun a hc=>⟨_,_,_,hc 7 _ rfl,bf (fun e=>no (fun hh=>hh.2.2.1 (List.eq_nil_of_length_eq_zero (by show q.x.kids.length=0;omega)))) fun e=>CV T0 G (by omega) (ag (aR (fun e=>no (fun hh=>by rw[e] at hh;cases hh.2.2.2)) fun hw=>aC (ir C hq fun a2 nj=>⟨_,_,_,nj 7 _ rfl,?_⟩)))⟩))
 have hm:dn ns f dst=(iO ns i p q.x.kids y.kids,true):=by
  unfold dn
  rw[e1,e2,hx,hy]
  rw[if_pos ⟨by omega,hh,fun h0=>by have h0:q.x.kids=[]:=h0;rw[h0] at dJ;simp at dJ;omega,by rw[ei];exact hw⟩]
  rfl
 rw[hm] at hk
 have Ez:¬nW ns dst (i:Int):=fun hh=>by
  unfold cq at hw
  rw[@decide_eq_true (nW ns dst (i:Int)) (Classical.propDecidable _) hh] at hw;cases hw
 have bL:i≠p:=fun e=>Ez (by rw[ep,<-e];exact dw.2 (.inl rfl))
 have R7:(i:Int) ∉ q.x.kids:=fun h=>by
  obtain⟨m,w,e,uB,YP⟩:=(G.kT i _ _ hx).1 h
  have:m=i:=by omega
  subst this
  rw[hx] at uB;cases uB
  exact G.tM hx YP rfl
 have TS:(p:Int) ∉ q.x.kids:=fun h=>by
  obtain⟨m,w,e,uB,YP⟩:=(G.kT i _ _ hx).1 h
  have:m=p:=by omega
  subst this
  exact Ez (by rw[ep];exact dw.2 (.inr (by rw[eX uB,YP];exact dw.2 (.inl rfl))))
 have lI:=G.mQ hx
 have hfy:=G.mQ hy
 have jO:=G.nodup i _ hx
 have YO:q.x.kids.length+y.kids.length<=1000000:=by
  have Gm:=G.move hx hy (by rw[<-ep];exact Ez)
  have h1:=Gm.mQ (dg hy)
  have h1:(if p=i then [] else if p=p then y.kids++q.x.kids else y.kids).length<=_:=h1
  rw[if_neg (Ne.symm bL),if_pos rfl,List.length_append,gT] at h1
  omega
 refine aa ⟨_,_,_,C.v.cell 0 rfl,sD C hq (dW.refl h q.kb) (fB.none h) (fun q e=>by cases e) fun h1 Cs C1 E1 k1=>⟨q.kn+1,?_⟩⟩
 have T1:dD h1 Cs s t (ns.set i {q.x with kids:=[]}):=⟨_,_,_,C1,map_set em⟩
 have ok1:fB h1 q.kb q.kn q.kc q.x.kids:=N.ok.keep k1.w fun z e=>⟨N.ok.hi z e,fun e2=>by
  have h1:=N.oG z e;rw[e2] at h1;have:=(Prod.mk.inj (Option.some.inj h1)).2;omega⟩
 have B7:∀z,q.kb=some z->Cs z.block=some (s,2*i+3):=fun z e=>by rw[E1.cl _ (N.ok.hi z e)];exact N.oG z e
 have KZ:(ns.set i {q.x with kids:=[]}).length=ns.length:=List.length_set
 clear Ij C1 k1
 have key:∀N' m h2,m+N'=q.kn->dD h2 Cs s t (eW (ns.set i {q.x with kids:=[]}) (q.x.kids.take m) p)->fB h2 q.kb q.kn q.kc q.x.kids->Ext s h col h2 Cs->
   Oj.G6 (fun z0 z2 Fw Fx Fy h=>Oj.rZ z0 z2 Fw Fx Fy (fun y6 h=>K (.bool y6) h) (fun y6 h=>K (.bool y6) h) h) (fun z0 z2 Fw Fx Fy h=>Oj.rZ z0 z2 Fw Fx Fy (fun y6 h=>K (.bool y6) h) (fun y6 h=>K (.bool y6) h) h) (fun y6 h=>K (.bool y6) h) (N'+1) (some t) dst q.kb q.kn q.kc (m:Int) h2:=by
  intro N'
  induction N' with
  | zero=>
   intro m h2 TR T2 o2 E2
   unfold Oj.G6
   refine cg (by omega) ?_
   rw[List.take_of_length_le (by omega)] at T2
   have XA:(eW (ns.set i {q.x with kids:=[]}) q.x.kids p)[p]? =some y:=by rw[er (z:=y) (by rw[List.getElem?_set_ne bL];exact hy),if_neg TS]
   obtain⟨lb2,lc2,rs2,C2,em2⟩:=T2
   obtain⟨qp,TV,eqp⟩:=fu em2 XA
   have Np:=C2.nodes p qp TV
   have hlp:=Np.ok.len
   rw[eqp] at hlp
   have fin:∀b3 c3 h3,fB h3 b3 (qp.kn+q.kn) c3 (qp.x.kids++q.x.kids)->dW h2 h3 qp.kb->Fu h2 qp.kb b3->(0<=(p:Int)/\(p:Int)<(rs2.length:Int))/\ae lb2 fun a=>bc ((a.add (Int.toNat (p:Int)*8)).add 7) [.slice b3 (qp.kn+q.kn) c3] 0 h3 fun h'=>K (.bool true) h':=fun b3 c3 h3 o3 g3 nb=>by
    refine sD C2 TV g3 o3 nb fun h4 fL C4 E4 _=>?_
    have em4:=map_set (i:=p) (r':=⟨{qp.x with kids:=qp.x.kids++q.x.kids},qp.ab,qp.an,qp.ac,b3,qp.kn+q.kn,c3⟩) em2
    have T4:dD h4 fL s t _:=⟨_,_,_,C4,em4⟩
    rw[show(({qp.x with kids:=qp.x.kids++q.x.kids}:ay))={y with kids:=y.kids++q.x.kids} by rw[eqp],O8 hx hy bL R7 TS] at T4
    exact hk h4 fL T4 (E2.trans E4)
   rw[ep]
   have ht:=C2.v.lt
   have far:∀h3,dW h2 h3 qp.kb->Var h3 t 118 [.slice lb2 rs2.length lc2]:=fun h3 g=>C2.v.keep g.keep.w ⟨ht,fun z e e2=>by
    have h1:=Np.oG z e;rw[e2,C2.kj] at h1;have:=(Prod.mk.inj (Option.some.inj h1)).2;omega⟩
   refine⟨aa (ir C2 TV fun a3 B5=>⟨_,_,_,B5 7 _ rfl,Ft Np.ok o2 (by omega) fun b3 c3 h3 o3 g3 nb=>aH ⟨_,_,_,(far h3 g3).cell 0 rfl,fin b3 c3 h3 o3 g3 nb⟩⟩),aa ⟨_,_,_,C2.v.cell 0 rfl,ir C2 TV fun a3 B5=>⟨_,_,_,B5 7 _ rfl,Ft Np.ok o2 (by omega) fun b3 c3 h3 o3 g3 nb=>aH (fin b3 c3 h3 o3 g3 nb)⟩⟩⟩
  | succ N' ih=>
   intro m h2 TR T2 o2 E2
   unfold Oj.G6
   have jR:m<q.x.kids.length:=by omega
   obtain⟨j,z,ej,il,KU⟩:=(G.kT i _ _ hx).1 (List.getElem_mem jR)
   have fU:=dv il
   have O9:j≠i:=fun e=>R7 (by rw[<-e,<-ej];exact List.getElem_mem jR)
   have hz0:(ns.set i {q.x with kids:=[]})[j]? =some z:=by rw[List.getElem?_set_ne (Ne.symm O9)];exact il
   have dk:(j:Int) ∉ q.x.kids.take m:=fun AZ=>by
    rw[<-ej] at AZ
    obtain⟨v,hv,e⟩:=List.getElem_of_mem AZ
    rw[List.length_take] at hv
    rw[List.getElem_take] at e
    have:=(List.getElem_inj jO).1 e
    omega
   have hzj:(eW (ns.set i {q.x with kids:=[]}) (q.x.kids.take m) p)[j]? =some z:=by rw[er hz0,if_neg dk]
   have st:=A7 T2 hzj (q:=(p:Int)) (lJ (by omega) (by omega)) (Q:=fun A8=>bd .i64 ((m:Int)+(1:Int))/\(Oj.G6 (fun z0 z2 Fw Fx Fy h=>Oj.rZ z0 z2 Fw Fx Fy (fun y6 h=>K (.bool y6) h) (fun y6 h=>K (.bool y6) h) h) (fun z0 z2 Fw Fx Fy h=>Oj.rZ z0 z2 Fw Fx Fy (fun y6 h=>K (.bool y6) h) (fun y6 h=>K (.bool y6) h) h) (fun y6 h=>K (.bool y6) h) (N'+1) (some t) dst q.kb q.kn q.kc ((m:Int)+(1:Int)) A8)) fun h3 T3 E3 k3=>⟨lJ (by omega) (by omega),by
    rw[uC hz0 dk,<-ej,show q.x.kids.take m++ [q.x.kids[m]]=q.x.kids.take (m+1) by rw[List.take_add_one,List.getElem?_eq_getElem jR];rfl] at T3
    exact ih (m+1) h3 (by omega) T3 (o2.keep k3.w fun z e e3=>by
     have h1:=B7 z e;rw[e3] at h1;have:=(Prod.mk.inj (Option.some.inj h1)).2;omega) (E2.trans E3)⟩
   obtain⟨b,n,c,nX,jF⟩:=st
   refine bK (by omega) (aa ⟨b,n,c,nX,(o2.row (A:=fun _=>True) fun _ _=>trivial).bj jR rfl fun q hA=>CU hA fun _=>?_⟩)
   rw[ej,ep]
   rw[ep] at jF
   exact jF
 exact key q.kn 0 h1 (by omega) (by rw[List.take_zero,wM];exact T1) ok1 E1
end
theorem Ix {ns:List ay} (B:gJ ns) (id:Int):nZ ns id=Go.Proofs.bg ns id:=by
 unfold nZ
 by_cases h:id=0
 ·rw[if_pos h]
  subst h
  rcases wN (ns:=ns) 0 with ⟨z,hz,e⟩ | e
  ·rw[e]
   have hk:=B.root z hz
   unfold bF
   rw[if_neg (by omega),if_neg (by omega)]
   rfl
  ·rw[e]
 ·rw[if_neg h]
section
variable {A B:Nat->Prop} {h h':H} {K:KV} {col col':bY} {w t:Addr} {m:WM} {nm:Bs} {u v x ty hi':Nat} {hi:Int} {fo:Bool} {op:List aP} {mk:List aS} {ns:List ay} {b:OA} {n c:Nat}
theorem GS (T:dD h col 1 t ns) (W:bq h col 3 ty w t op mk fo hi) (B:gJ ns) (lI:ns.length<1000000) {id:Int} (hk:∀h' col',dD h' col' 1 t (bg ns id).1->bq h' col' 3 ty w t op mk fo hi->al RS h col h' col'->K (.int .i64 (bg ns id).2) h'):
  zC 229 [.pointer (some t),.int .i64 id] h K:=
 TW T lI (by rw[Ix B];exact fun h' c' T' E'=>hk h' c' T' (W.ext (S:=fun s=>s=1) (E'.p rfl) (by decide)) (E'.p (.inl rfl)))
theorem EY (T:dD h col 1 t ns) (W:bq h col 3 ty w t op mk fo hi) (G:aV ns) {q b i:Int} (hk:∀h' col',dD h' col' 1 t (cV ns q b i).1->bq h' col' 3 ty w t op mk fo hi->al RS h col h' col'->K (.bool (cV ns q b i).2) h'):
  zC 104 [.pointer (some t),.int .i64 q,.int .i64 b,.int .i64 i] h K:=
 GV T G fun h' c' T' E'=>hk h' c' T' (W.ext (S:=fun s=>s=1) (E'.p rfl) (by decide)) (E'.p (.inl rfl))
theorem OP (T:dD h col 1 t ns) (W:bq h col 3 ty w t op mk fo hi) (G:aV ns) {f d:Int} (hk:∀h' col',dD h' col' 1 t (dn ns f d).1->bq h' col' 3 ty w t op mk fo hi->al RS h col h' col'->K (.bool (dn ns f d).2) h'):
  zC 230 [.pointer (some t),.int .i64 f,.int .i64 d] h K:=
 TU T G fun h' c' T' E'=>hk h' c' T' (W.ext (S:=fun s=>s=1) (E'.p rfl) (by decide)) (E'.p (.inl rfl))
theorem oS {α:Type} {E:El α} {tt e by':Nat} {P:Program} (ap:oH P E tt e by') {base:Nat} {h1:H} {sb rb:OA} {n1 c1 n cc:Nat} {l1 l:List α} {xs:List Value} (o:bO E A h1 base e sb n1 c1 l1) (hA:∀k,A k->k<base) (k1:KB h h1) (hb0:h.size<=base) (hb1:base<=h1.size)
  (he:eH E A h l xs) (XX:∀k,A k->k<h.size) (hc:Cells h rb xs) (hl:l.length=n) {lo:Nat} (jQ:lo<=n) (XB:n<=cc) (hn:n1+n<=100000000) (zl:(n1+(n - lo))*by'<=140737488355328) {K:KV}
  (hk:∀b' c' h',bO E A h' base e b' (n1+(n - lo)) c' (l1++l.drop lo)->KB h h'->K (.slice b' (n1+(n - lo)) c') h'):
  aZ P (Builtin.append_ #[tt,tt] tt ⟨[.slice sb n1 c1,.slice (if cc=lo then rb else Option.map (fun q=>q.add (lo*E.sz)) rb) (n - lo) (cc - lo)]⟩) h1 K:=by
 have wO:xs.length=n*E.sz:=by rw[he.len,hl]
 have hcd:=Cells.drop (c:=cc) (lo:=lo) (z:=E.sz) hc (fun e=>List.drop_of_length_le (by
  rw[wO]
  have h2:n=lo:=by omega
  rw[h2];exact Nat.le_refl _))
 have hed:=he.drop lo
 refine bO.append ap o hA (l2:=l.drop lo) (by rw[List.length_drop,hl]) (hed.keep ((KB.w k1).less fun k hk=>hk.2) fun _ h _=>h) (fun j u hu=>by
  obtain⟨q,e,ec⟩:=hcd j u hu
  exact⟨q,e,(KB.w k1).cell (fP ec) ec⟩) (by simp only[maxLen];omega) zl hb1 fun b4 c4 h4 o4 g4=>hk b4 c4 h4 o4 (g4.yj k1 fun q e=>Nat.le_trans hb0 (o.lo q e))
theorem oR {α:Type} {E:El α} {tt e by':Nat} {P:Program} (ap:oH P E tt e by') {rb:OA} {n:Nat} {l:List α} {xs:List Value} (he:eH E A h l xs) (XX:∀k,A k->k<h.size) (hc:Cells h rb xs) (hl:l.length=n) {hi cc:Nat} (hhi:hi<=n) (hn:n<=100000000) (zl:hi*by'<=140737488355328) {K:KV}
  (hk:∀b' c' h',bO E A h' h.size e b' hi c' (l.take hi)->KB h h'->K (.slice b' hi c') h'):
  aZ P (Builtin.append_ #[tt,tt] tt ⟨[.slice none 0 0,.slice rb hi cc]⟩) h K:=by
 refine bO.append ap (bO.none A h h.size e) XX (l2:=l.take hi) (by rw[List.length_take];omega) (he.take hi) (hc.take _) (by simp only[maxLen];omega) (by rw[Nat.zero_add];exact zl) (Nat.le_refl _) fun b1 c1 h1 o1 g1=>?_
 rw[Nat.zero_add] at o1 ⊢
 rw[List.nil_append] at o1
 exact hk b1 c1 h1 o1 (g1.yj (KB.refl h) fun q e=>by cases e)
theorem yM {xs:List Value} {l:List aS} (hx:eH aX A h l xs) (Ev:Cells h b xs) (hA:∀k,A k->k<h.size) (hl:l.length=n) (XB:n<=c) {k:Nat} (dJ:k<n) (hn:n<=1000000)
  (hk:∀b' n' c' h',bO aX A h' h.size 79 b' n' c' (l.eraseIdx k)->KB h h'->K (.slice b' n' c') h'):zC 209 [.slice b n c,.int .i64 (k:Int)] h K:=by
 refine Xe0.ok _ _ _ _ _ _ ⟨⟨by omega,by omega,by omega⟩,?_⟩
 rw[qK]
 have e1:Int.toNat (k:Int) - Int.toNat (0:Int)=k:=by rw[Int.toNat_natCast];rfl
 rw[e1]
 refine oR db hx hA Ev hl (hi:=k) (by omega) (by omega) (by omega) fun b1 c1 h1 o1 k1=>aH ⟨aF (by omega) (by omega),⟨by omega,by omega,by omega⟩,?_⟩
 have e2:((k:Int)+(1:Int))=((k+1:Nat):Int):=rfl
 rw[e2,Int.toNat_natCast,Int.toNat_natCast]
 refine oS db (lo:=k+1) o1 hA k1 (Nat.le_refl _) k1.1 hx hA Ev hl (by omega) XB (by omega) (by omega) fun b2 c2 h2 o2 k2=>aH ?_
 rw[<-List.eraseIdx_eq_take_drop_succ] at o2
 exact hk b2 _ c2 h2 o2 k2
theorem pK (p:RW h col w m) {k:Nat} (dJ:k<m.aE.length) (jR:m.aE.length<=1000000) {Q:H->Prop} (hk:∀h' col',RW h' col' w (bX m k)->al RS h col h' col'->Q h'):
  ae (some w) fun a=>∃b n c,cell h (a.add 2)=some (.slice b n c)/\(zC 209 [.slice b n c,.int .i64 (k:Int)] h fun v h1=>aB v fun b n c=>ae (some w) fun a=>bc (a.add 2) [.slice b n c] 0 h1 fun h2=>Q h2):=by
 obtain⟨t,T,W⟩:=p.ex
 obtain⟨ob,oc,mb,mn,mc,v,o,om⟩:=W.ex
 obtain⟨xs,he,hc,_⟩:=om.parts
 have hl:=om.len
 refine aa ⟨_,_,_,v.cell 2 rfl,yM he hc (fun k hk=>hk.2) hl om.cap.1 (by omega) (by omega) fun b1 n1 c1 h1 o1 k1=>aH (aa ?_)⟩
 exact dY W p.fresh k1 o1 fun h2 W2 E2 f2 _=>hk h2 _ ⟨t,T.cf (Z:=fun k=>k=3) (by decide) E2 f2,W2⟩ (E2.mono fun s hs=>.inr hs)
theorem Ct (p:RW h col w m) (eD:m.op.length<=1000000) {i:Nat} (bQ:i<m.op.length) {y:aP} (hy:gG y) (hk:∀h' col',RW h' col' w {m with op:=cP m.op (i+1) y}->al RS h col h' col'->K (.tuple ⟨[]⟩) h'):
  zC 231 [.pointer (some w),.int .i64 (i:Int),.agg ⟨aW y⟩] h K:=by
 obtain⟨t,T,W⟩:=p.ex
 refine Xew.ok _ _ _ _ _ _ _ _ (af fun a1 h1 v1 k1 e1 s1=>aa ?_)
 have v1:Var h1 a1 77 (aW y):=v1
 obtain⟨ob,oc,mb,mn,mc,v,o,om⟩:=(W.kb k1).ex
 have f1:=p.fresh.kb k1
 obtain⟨xs,he0,hc,_⟩:=o.parts
 have he:eH bo vf h1 m.op xs:=eH.flat ko he0
 have hA:∀k,vf k->k<h1.size:=fun k hk=>absurd hk id
 have hcap:=o.cap
 have e2:((i:Int)+(1:Int))=((i+1:Nat):Int):=rfl
 refine⟨_,_,_,v.cell 1 rfl,aF (by omega) (by omega),⟨by omega,by omega,by omega⟩,?_⟩
 rw[qK,e2]
 have e1:Int.toNat ((i+1:Nat):Int) - Int.toNat (0:Int)=i+1:=by rw[Int.toNat_natCast];rfl
 rw[e1]
 refine oR iu he hA hc rfl (hi:=i+1) (by omega) (by omega) (by omega) fun b2 c2 h2 o2 k2=>aH ?_
 have v12:=v1.kb k2
 refine⟨_,v12.cell 0 rfl,_,v12.cell 1 rfl,_,v12.cell 2 rfl,_,v12.cell 3 rfl,af fun a12 h3 v3 k3 e3 s3=>?_⟩
 have gi:=k2.trans k3
 refine bO.sj iu (x:=y) (cs:=aW y) (o2.kb k3) hA v3 (YQ hy) (by simp only[maxLen];omega) (by omega) gi.1 fun b4 c4 h4 o4 g4=>aH (aa ?_)
 have nU:KB h1 h4:=g4.yj gi o2.lo
 refine⟨_,_,_,(v.kb nU).cell 1 rfl,aF (by omega) (by omega),⟨by omega,by omega,by omega⟩,?_⟩
 rw[Int.toNat_natCast,Int.toNat_natCast]
 refine oS iu (lo:=i+1) o4 hA nU (Nat.le_refl _) nU.1 he hA hc rfl (by omega) hcap.1 (by omega) (by omega) fun b5 c5 h5 o5 k5=>aH (aa ?_)
 have el:m.op.take (i+1)++ [y]++m.op.drop (i+1)=cP m.op (i+1) y:=by unfold cP;rw[List.append_assoc];rfl
 rw[el] at o5
 have qF:i+1+1+(m.op.length - (i+1))=(cP m.op (i+1) y).length:=by rw[vQ];omega
 rw[qF] at o5 ⊢
 refine tN (W.kb k1) f1 k5 o5 fun h6 W6 E6 f6 _=>hk h6 _ ⟨t,(T.kb k1).cf (Z:=fun k=>k=3) (by decide) E6 f6,W6⟩ ((al.kb k1).trans (E6.mono fun s hs=>.inr hs))
end
abbrev TX (a b:aS):Prop:=0<=a.1->a.1≠b.1
def MI (l:List aS) (N:Nat):Prop:=l.Pairwise TX/\∀y ∈ l,y.1<(N:Int)
theorem TY {l:List aS} (hn:l.Pairwise TX) {k:Nat} {y:aS} (hy:∀z ∈ l,z.1≠y.1):(l.set k y).Pairwise TX:=by
 induction l generalizing k with
 | nil=>exact hn
 | cons a l ih=>
  rw[List.pairwise_cons] at hn
  cases k with
  | zero=>
   rw[List.set_cons_zero,List.pairwise_cons]
   exact⟨fun z hz _ e=>hy z (by simp[hz]) e.symm,hn.2⟩
  | succ k=>
   rw[List.set_cons_succ,List.pairwise_cons]
   refine⟨fun z hz=>?_,ih hn.2 fun z hz=>hy z (by simp[hz])⟩
   rcases List.mem_or_eq_of_mem_set hz with h | h
   ·exact hn.1 z h
   ·subst h;exact fun _=>hy a (by simp)
section
variable {l:List aS} {N N':Nat}
theorem MI.nil (N:Nat):MI [] N:=⟨.nil,fun y h=>nomatch h⟩
theorem MI.mono (M:MI l N) (h:N<=N'):MI l N':=⟨M.1,fun y hy=>by have:=M.2 y hy;omega⟩
theorem MI.sub {l':List aS} (M:MI l N) (h:l'.Sublist l):MI l' N:=⟨M.1.sublist h,fun y hy=>M.2 y (h.subset hy)⟩
theorem MI.erase (M:MI l N) (k:Nat):MI (l.eraseIdx k) N:=M.sub (List.eraseIdx_sublist _ _)
theorem MI.fresh (M:MI l N) {z:Bs × List bw}:∀y ∈ l,y.1≠((N:Int),z).1:=fun y hy e=>by
 have:=M.2 y hy
 have e:y.1=(N:Int):=e
 omega
theorem MI.set (M:MI l N) (k:Nat) (z:Bs × List bw):MI (l.set k ((N:Int),z)) (N+1):=⟨TY M.1 M.fresh,fun y hy=>by
 rcases List.mem_or_eq_of_mem_set hy with h | h
 ·have:=M.2 y h;omega
 ·subst h;show(N:Int)<((N+1:Nat):Int);omega⟩
theorem MI.YR (M:MI l N) (k:Nat) {y:aS} (hy:∀z ∈ l,TX z y/\TX y z) (hN:N<=N') (h2:y.1<(N':Int)):MI (cP l k y) N':=by
 have hl:l.take k++l.drop k=l:=List.take_append_drop _ _
 have hp:=M.1
 rw[<-hl,List.pairwise_append] at hp
 refine⟨?_,fun z hz=>?_⟩
 ·unfold cP
  rw[List.pairwise_append,List.pairwise_cons]
  refine⟨hp.1,⟨fun z hz=>(hy z (List.mem_of_mem_drop hz)).2,hp.2.1⟩,fun a ha b hb=>?_⟩
  rcases List.mem_cons.1 hb with h | h
  ·subst h;exact(hy a (List.mem_of_mem_take ha)).1
  ·exact hp.2.2 a ha b h
 ·rcases sE hz with h | h
  ·have:=M.2 z h;omega
  ·subst h;exact h2
theorem MI.ins (M:MI l N) (k:Nat) (z:Bs × List bw):MI (cP l k ((N:Int),z)) (N+1):=
 M.YR k (fun y hy=>⟨fun _=>M.fresh y hy,fun _ e=>M.fresh y hy e.symm⟩) (Nat.le_succ _) (by show(N:Int)<((N+1:Nat):Int);omega)
theorem MI.app (M:MI l N) {y:aS} (hy:∀z ∈ l,TX z y/\TX y z) (hN:N<=N') (h2:y.1<(N':Int)):MI (l++ [y]) N':=by
 have:=M.YR l.length hy hN h2
 unfold cP at this
 rwa[List.take_length,List.drop_length] at this
theorem MI.push (M:MI l N) (z:Bs × List bw):MI (fj l ((N:Int),z)) (N+1):=by
 have app:∀l',MI l' N->MI (l'++ [((N:Int),z)]) (N+1):=fun l' M'=>M'.app (fun y hy=>⟨fun _=>M'.fresh y hy,fun _ e=>M'.fresh y hy e.symm⟩) (Nat.le_succ _) (by show(N:Int)<((N+1:Nat):Int);omega)
 unfold fj
 split
 ·exact app _ M
 ·exact app _ (M.erase _)
theorem MI.wz (M:MI l N) (h0:0<N):MI (fj l (-1,[],[])) N:=by
 have e:fj l (-1,[],[])=l++ [(-1,[],[])]:=by unfold fj cO;rfl
 rw[e]
 refine M.app (fun z hz=>⟨fun h e=>?_,fun h=>absurd h (by decide)⟩) (Nat.le_refl _) (by show(-1:Int)<(N:Int);omega)
 have e:z.1= -1:=e
 omega
theorem MI.find (M:MI l N) {k:Nat} (hk:k<l.length) (h0:0<=l[k].1):bp l l[k].1=(k:Int):=by
 have h1:=(pJ h0).2 ⟨l[k],List.getElem_mem hk,rfl⟩
 obtain⟨_,hi,e⟩:=gj h1
 have hp:=List.pairwise_iff_getElem.1 M.1
 have:(bp l l[k].1).toNat=k:=by
  rcases Nat.lt_trichotomy (bp l l[k].1).toNat k with h | h | h
  ·exact absurd e (hp _ _ hi hk h (by rw[e];exact h0))
  ·exact h
  ·exact absurd e.symm (hp _ _ hk hi h h0)
 omega
end
def MW (m:WM):Prop:=MI m.aE m.ns.length
section
variable {m:WM} {u v x j b q:Nat} {f blk:Int}
theorem MW.tree (M:MW m) {m':WM} (hm:m'.aE=m.aE) (hl:m.ns.length<=m'.ns.length):MW m':=by
 unfold MW
 rw[hm]
 exact MI.mono M hl
theorem MW.bX (M:MW m) (k:Nat):MW (bX m k):=MI.erase M k
theorem MW.close (M:MW m) (n:Int):MW (cZ m n):=M
theorem MW.drop (M:MW m) (id:Int):MW (gr m id):=M
theorem MW.insert (M:MW m) (G:aV m.ns) (sp:Int) (nm:Bs) (gE:List bw):MW (bs m sp nm gE):=M.tree rfl (by rw[hG G];omega)
theorem MW.write (M:MW m) (G:aV m.ns) (tx:Bs):MW (fW m tx):=M.tree rfl (wQ G _ _ _)
theorem MW.G7 (blk:Int):∀(q n:Nat) {m:WM} {u v x b:Nat} (last:Int),CI m u v x f j b q->MW m->MW (dN blk f q n m last b).1
 | 0,n,m,u,v,x,b,last,C,M=>absurd C.hj (by omega)
 | q+1,n,m,u,v,x,b,last,C,M=>by
  have hq:q<m.op.length:=by have:=C.hq;omega
  unfold dN
  simp only[]
  by_cases hf:(m.op.getD q aI).1=f
  ·rw[if_pos hf];exact M
  ·rw[if_neg hf]
   by_cases h1:0<=bp m.aE (m.op.getD q aI).1/\n<3
   ·rw[if_pos h1]
    have C2:=C.copy hf h1.1 last (b':=if last=blk then(bp m.aE (m.op.getD q aI).1).toNat+1 else b) (by split;exact .inl rfl;exact .inr rfl)
    refine MW.G7 blk q (n+1) _ C2 ?_
    have eg:m.op.getD q aI=m.op[q]:=aJ hq
    obtain⟨A1,ec,hcl,_⟩:=C.A.copy (List.getElem_mem hq) (C.A.OO hq (C.pos hf))
    rw[<-eg] at A1 ec hcl
    unfold MW
    show MI (m.aE.set _ ((bg m.ns (m.op.getD q aI).1).2,_)) (cV (bg m.ns (m.op.getD q aI).1).1 _ _ _).1.length
    rw[fv A1.D.G,hcl,ec]
    exact MI.set M _ _
   ·rw[if_neg h1]
    by_cases h2:0<=bp m.aE (m.op.getD q aI).1
    ·rw[if_pos h2]
     have C1:=C.bX hf h2
     exact MW.G7 blk q (n+1) last (C1.uz hf) (M.bX _)
    ·rw[if_neg h2]
     exact MW.G7 blk q (n+1) last (C.uz hf) M
theorem MW.renew (M:MW m) (C:CI m u v x f j b q):MW (mW m f blk b):=by
 have fU:j<m.op.length:=Nat.lt_of_lt_of_le C.hj C.hq
 have eg:m.op.getD j aI=m.op[j]:=aJ fU
 have tu:m.op[j].1=f:=by have:=C.hf;rwa[eg] at this
 obtain⟨A1,ec,hcl,_⟩:=C.A.copy (List.getElem_mem fU) (C.A.OO fU C.h0)
 rw[tu] at A1 ec hcl
 have A2:=A1.move blk (bg m.ns f).2
 unfold MW mW
 show MI (cP _ _ ((bg m.ns f).2,_)) (cV (dn (bg m.ns f).1 blk (bg m.ns f).2).1 blk (-1) (bg m.ns f).2).1.length
 rw[fv A2.D.G]
 show MI _ (dn (bg m.ns f).1 blk (bg m.ns f).2).1.length
 rw[sF,hcl,ec]
 exact MI.ins (MI.erase M _) _ _
theorem MW.over (M:MW m) (A:AI m u v x) {k:Nat} (hk:k<m.aE.length) (h0:0<=(m.aE.getD k noMark).1) (wk:0<=gh m.op (m.aE.getD k noMark).1) {n:Nat} (hn:(gh m.op (m.aE.getD k noMark).1).toNat<n) (vJ:n<m.op.length):
  MW (ur m (m.aE.getD k noMark).1 k (gh m.op (m.aE.getD k noMark).1).toNat n):=by
 have C:=A.begin hk h0 wk hn (Nat.le_of_lt vJ)
 have C2:=iL (m.op.getD n aI).1 n 0 (m.op.getD n aI).1 C
 have M2:=MW.G7 (m.op.getD n aI).1 n 0 (m.op.getD n aI).1 C M
 obtain⟨R,hR⟩:∃R,dN (m.op.getD n aI).1 (m.aE.getD k noMark).1 n 0 m (m.op.getD n aI).1 k=R:=⟨_,rfl⟩
 rw[hR] at C2 M2
 unfold ur
 simp only[hR]
 exact MW.renew (MW.tree M2 (m':={R.1 with ns:=_}) rfl (by show _<=(cV _ _ _ _).1.length;rw[fv C2.A.D.G];omega)) (C2.put _ _ _)
theorem MW.round (M:MW m) (A:AI m u v x) {k:Nat} (hk:k<m.aE.length) (h0:0<=(m.aE.getD k noMark).1):MW (jl m k).1:=by
 unfold jl
 simp only[]
 split
 ·exact M.bX k
 ·rename_i wk
  split
  ·exact M
  ·split
   ·exact(M.close _).bX k
   ·rename_i hs
    obtain⟨hi,_,_⟩:=fy (l:=m.op.drop ((gh m.op (m.aE.getD k noMark).1).toNat+1)) (p:=fi) (by omega)
    rw[List.length_drop] at hi
    exact M.over A hk h0 (by omega) (by omega) (by omega)
theorem MW.rounds (s:Bs):∀(r:Nat) {m:WM} {u:Nat},AI m u v x->MW m->MW (eS s r m).1
 | 0,m,u,A,M=>M
 | r+1,m,u,A,M=>by
  unfold eS
  split
  ·exact M
  ·rename_i hl
   obtain⟨k,e,hk,h0⟩:=mq (by omega:0<=fA m.aE s)
   have yg:(fA m.aE s).toNat=k:=by rw[e];rfl
   rw[yg]
   have M2:=M.round A hk h0
   split
   ·exact MW.rounds s r (A.round hk h0) M2
   ·exact M2
theorem MW.run (M:MW m) (A:AI m u v x) (s:Bs):MW (runM m s).1:=by
 unfold runM
 split
 ·exact M.close _
 ·exact MW.rounds s 8 A M
theorem MW.ux {v:Nat}:∀(k:Nat) {m:WM} {u x:Nat} (i:Nat),AI m u v x->MW m->i+k<=m.aE.length->MW (wR k m i)
 | 0,m,u,x,i,A,M,_=>M
 | k+1,m,u,x,i,A,M,YS=>by
  have hi:i<m.aE.length:=by omega
  have hg:m.aE.getD i noMark=m.aE[i]:=aJ hi
  have hw:=A.D.mw m.aE[i] (List.getElem_mem hi)
  have h1:=A.insert 0 (nm:=(m.aE.getD i noMark).2.1) (by rw[hg];exact hw.1) (m.aE.getD i noMark).2.2
  have h2:AI {bs m 0 (m.aE.getD i noMark).2.1 (m.aE.getD i noMark).2.2 with aE:=m.aE.set i ((m.ns.length:Int),(m.aE.getD i noMark).2)} (u+1) v x:=
   ⟨⟨h1.D.G,h1.D.B,h1.D.ne,h1.D.ids,h1.D.nd,h1.D.lo,h1.D.ln,by show(m.aE.set _ _).length<=v;rw[List.length_set];exact A.D.ml,by rw[hg];exact A.D.mw.set hi _,h1.D.tx⟩,h1.root,h1.kind,fun z hz=>by
    rcases List.mem_or_eq_of_mem_set hz with h | h
    ·exact A.tz z h
    ·rw[h]
     have:=A.pos
     exact fun e=>by have e:(m.ns.length:Int)=0:=e;omega,h1.yD⟩
  have hl:(bs m 0 (m.aE.getD i noMark).2.1 (m.aE.getD i noMark).2.2).ns.length=m.ns.length+1:=hG A.D.G
  exact MW.ux k (i+1) h2 (by unfold MW;rw[hl];exact MI.set M _ _) (by show i+1+k<=(m.aE.set _ _).length;rw[List.length_set];omega)
theorem MW.vR (M:MW m) (A:AI m u v x):MW (aU m):=by
 have hr:=iP m.aE m.op m.aE.length
 have h1:(gu m.aE m.op).toNat<=m.aE.length:=by have:=hr.2;show(js m.aE m.op m.aE.length).toNat<=_;omega
 exact MW.ux (m.aE.length - (gu m.aE m.op).toNat) (gu m.aE m.op).toNat A M (by omega)
theorem MW.zero:MW EP:=MI.nil _
end
abbrev cm:=Int × Bs × List bw × Bool × Bs
abbrev oK:El cm:=ik (jz .u8) (ik cN (ik (EJ aY) (ik ET cN)))
abbrev wj (x:cm) (b:OA) (n c:Nat):List Value:=[.int .u8 x.1,S x.2.1,.slice b n c,.bool x.2.2.2.1,S x.2.2.2.2]
structure aeC (A:Nat->Prop) (h:H) (a:Addr) (x:cm) (b:OA) (n c:Nat):Prop where
 c0:cell h (a.add 0)=some (.int .u8 x.1)
 c1:cell h (a.add 1)=some (S x.2.1)
 c2:cell h (a.add 2)=some (.slice b n c)
 c3:cell h (a.add 3)=some (.bool x.2.2.2.1)
 c4:cell h (a.add 4)=some (S x.2.2.2.2)
 row:Row aY A h b n c x.2.2.1
 nil:b=none->c=0
 rk:bd .u8 x.1
 rn:x.2.1.length<=maxLen
 rt:x.2.2.2.2.length<=maxLen
section
variable {A:Nat->Prop} {h:H} {a:Addr} {x:cm}
theorem si (hA:At oK A h a x):∃b n c,aeC A h a x b n c:=by
 have h2:=hA.snd.dt (k:=2) rfl
 have h3:=h2.dt (k:=3) rfl
 obtain⟨b,n,c,e,r,hz⟩:=h2.fst.sl
 exact⟨b,n,c,hA.fst.int.1,hA.snd.fst.str.1,e,h3.fst.bool,(h3.dt (k:=4) rfl).str.1,r,hz,hA.fst.int.2,hA.snd.fst.str.2,(h3.dt (k:=4) rfl).str.2⟩
theorem adL {b:OA} {n c:Nat} (r:Row aY A h b n c x.2.2.1) (hz:b=none->c=0) (rk:bd .u8 x.1) (rn:x.2.1.length<=maxLen) (rt:x.2.2.2.2.length<=maxLen):oK.R A h x (wj x b n c):=
 ⟨[.int .u8 x.1],_,rfl,⟨rfl,rk⟩,[S x.2.1],_,rfl,⟨rfl,rn⟩,[.slice b n c],_,rfl,⟨b,n,c,rfl,r,hz⟩,[.bool x.2.2.2.1],_,rfl,rfl,rfl,rt⟩
end
def Fz (a:bw):Nat:=1+a.1.length / 8+a.2.length / 8
def sG (l:List bw):Nat:=(l.map Fz).sum
def CL (x:cm):Nat:=1+x.2.2.2.2.length / 8+x.2.1.length / 8+sG x.2.2.1
def sv (l:List cm):Nat:=(l.map CL).sum
theorem Iy {l:List bw} {a:bw} (h:a ∈ l):Fz a<=sG l:=by
 induction l with
 | nil=>cases h
 | cons b l ih=>
  unfold sG at ih ⊢
  rw[List.map_cons,List.sum_cons]
  rcases List.mem_cons.1 h with rfl | h
  ·omega
  ·have:=ih h;omega
theorem Iz (l:List bw):l.length<=sG l:=by
 induction l with
 | nil=>exact Nat.le_refl _
 | cons b l ih=>
  unfold sG at ih ⊢
  rw[List.map_cons,List.sum_cons,List.length_cons]
  have:1<=Fz b:=by unfold Fz;omega
  omega
theorem iG (n:Nat):Int.tdiv (n:Int) (8:Int)=((n / 8:Nat):Int):=rfl
theorem wI {x:cm} {m:Nat} (h:CL x<=m):x.2.1.length<=8*m/\x.2.2.2.2.length<=8*m/\x.2.2.1.length<=m/\∀a ∈ x.2.2.1,a.1.length<=8*m/\a.2.length<=8*m:=by
 unfold CL at h
 refine⟨by omega,by omega,by have:=Iz x.2.2.1;omega,fun a ha=>?_⟩
 have:=Iy ha
 unfold Fz at this
 omega
section
variable {A:Nat->Prop} {h:H} {K:KV} {b:OA} {n c:Nat} {l:List cm}
theorem vg {n:Int} (h1: -9223372036854775808<=n) (h2:n<=9223372036854775807):bd .i64 n:=⟨h1,h2⟩
theorem AM (R:Row oK A h b n c l) {lim:Nat} (hlim:lim<=1000000) (hk:∀v:Int,0<=v->v<=5000000000000000000->(0<n->1<=v)->(v<=lim->v=sv l)->K (.int .i64 v) h):zC 28 [.slice b n c,.int .i64 lim] h K:=by
 have hl:=R.len
 have TZ:n<=maxLen:=Nat.le_trans R.cap R.max
 simp only[maxLen] at TZ
 refine vh.ok _ _ _ _ _ _ ⟨n+1,?_⟩
 have key:∀N i (w:Int),i+N=n->0<=w->w<=5000000000000000000->(0<i->1<=w)->(w<=lim->w=sv (l.take i))->
   vh.ia (fun z5 h=>vh.n4 z5 (fun y4 h=>K (.int .i64 y4) h) (fun y4 h=>K (.int .i64 y4) h) h) (fun z5 h=>vh.n4 z5 (fun y4 h=>K (.int .i64 y4) h) (fun y4 h=>K (.int .i64 y4) h) h) (fun y4 h=>K (.int .i64 y4) h) (N+1) b n c (lim:Int) w (i:Int) h:=by
  intro N
  induction N with
  | zero=>
   intro i w hi w0 w1 wi hw
   refine cg (by omega) (hk w w0 w1 (fun h0=>wi (by omega)) fun hle=>?_)
   have:=hw hle
   rwa[List.take_of_length_le (by omega)] at this
  | succ N ih=>
   intro i w hi w0 w1 wi hw
   have bQ:i<l.length:=by omega
   refine bK (by omega) (bf (fun hle=>?_) fun hgt=>?_)
   ·have hw:=hw hle
    refine R.bj bQ rfl fun q hA=>?_
    obtain⟨ab,an,ac,C⟩:=si hA
    have htl:l[i].2.2.2.2.length<=9223372036854775807:=by have:=C.rt;simp only[maxLen] at this;exact this
    have Ew:l[i].2.1.length<=9223372036854775807:=by have:=C.rn;simp only[maxLen] at this;exact this
    refine⟨_,C.c4,by decide,vg (by rw[iG];omega) (by rw[iG];omega),vg (by rw[iG];omega) (by rw[iG];omega),?_⟩
    refine R.bj bQ rfl fun q2 oT=>?_
    obtain⟨XD,O5,XE,C2⟩:=si oT
    refine⟨_,C2.c1,by decide,vg (by rw[iG];omega) (by rw[iG];omega),vg (by rw[iG,iG];omega) (by rw[iG,iG];omega),vg (by rw[iG,iG];omega) (by rw[iG,iG];omega),?_⟩
    rw[iG,iG]
    have ew:(w+((1:Int)+((l[i].2.2.2.2.length / 8:Nat):Int)+((l[i].2.1.length / 8:Nat):Int)))=((sv (l.take i)+(1+l[i].2.2.2.2.length / 8+l[i].2.1.length / 8):Nat):Int):=by rw[hw];omega
    rw[ew]
    have R9:=C.row.len
    have aeD:an<=maxLen:=Nat.le_trans C.row.cap C.row.max
    simp only[maxLen] at aeD
    have inner:∀M j (v:Int),j+M=l[i].2.2.1.length->1<=v->v<=5000000000000000000->(v<=lim->v=((sv (l.take i)+(1+l[i].2.2.2.2.length / 8+l[i].2.1.length / 8)+sG (l[i].2.2.1.take j):Nat):Int))->
      vh.G8 (fun A9 Ba Bb z1 z5 z6 h=>vh.rZ A9 Ba Bb z1 z5 z6 (fun A9 Ba Bb z1 z5 z6 h=>vh.ia (fun z5 h=>vh.n4 z5 (fun y4 h=>K (.int .i64 y4) h) (fun y4 h=>K (.int .i64 y4) h) h) (fun z5 h=>vh.n4 z5 (fun y4 h=>K (.int .i64 y4) h) (fun y4 h=>K (.int .i64 y4) h) h) (fun y4 h=>K (.int .i64 y4) h) (N+1) A9 Ba Bb z1 z5 z6 h) (fun z5 h=>vh.n4 z5 (fun y4 h=>K (.int .i64 y4) h) (fun y4 h=>K (.int .i64 y4) h) h) (fun y4 h=>K (.int .i64 y4) h) h)
       (fun A9 Ba Bb z1 z5 z6 h=>vh.rZ A9 Ba Bb z1 z5 z6 (fun A9 Ba Bb z1 z5 z6 h=>vh.ia (fun z5 h=>vh.n4 z5 (fun y4 h=>K (.int .i64 y4) h) (fun y4 h=>K (.int .i64 y4) h) h) (fun z5 h=>vh.n4 z5 (fun y4 h=>K (.int .i64 y4) h) (fun y4 h=>K (.int .i64 y4) h) h) (fun y4 h=>K (.int .i64 y4) h) (N+1) A9 Ba Bb z1 z5 z6 h) (fun z5 h=>vh.n4 z5 (fun y4 h=>K (.int .i64 y4) h) (fun y4 h=>K (.int .i64 y4) h) h) (fun y4 h=>K (.int .i64 y4) h) h)
       (fun A9 Ba Bb z1 z5 z6 h=>vh.rZ A9 Ba Bb z1 z5 z6 (fun A9 Ba Bb z1 z5 z6 h=>vh.ia (fun z5 h=>vh.n4 z5 (fun y4 h=>K (.int .i64 y4) h) (fun y4 h=>K (.int .i64 y4) h) h) (fun z5 h=>vh.n4 z5 (fun y4 h=>K (.int .i64 y4) h) (fun y4 h=>K (.int .i64 y4) h) h) (fun y4 h=>K (.int .i64 y4) h) (N+1) A9 Ba Bb z1 z5 z6 h) (fun z5 h=>vh.n4 z5 (fun y4 h=>K (.int .i64 y4) h) (fun y4 h=>K (.int .i64 y4) h) h) (fun y4 h=>K (.int .i64 y4) h) h)
       (fun z5 h=>vh.n4 z5 (fun y4 h=>K (.int .i64 y4) h) (fun y4 h=>K (.int .i64 y4) h) h) (fun y4 h=>K (.int .i64 y4) h) (M+1) b n c (lim:Int) v (i:Int) (j:Int) h:=by
     intro M
     have fin:∀v:Int,1<=v->v<=5000000000000000000->(v<=lim->v=((sv (l.take i)+CL l[i]:Nat):Int))->
       bd .i64 ((i:Int)+1)/\vh.ia (fun z5 h=>vh.n4 z5 (fun y4 h=>K (.int .i64 y4) h) (fun y4 h=>K (.int .i64 y4) h) h) (fun z5 h=>vh.n4 z5 (fun y4 h=>K (.int .i64 y4) h) (fun y4 h=>K (.int .i64 y4) h) h) (fun y4 h=>K (.int .i64 y4) h) (N+1) b n c (lim:Int) v ((i:Int)+1) h:=fun v v0 v1 hv=>
      ⟨vg (by omega) (by omega),ih (i+1) v (by omega) (by omega) v1 (fun _=>v0) fun hle=>by
       rw[hv hle]
       congr 1
       rw[List.take_add_one,List.getElem?_eq_getElem bQ]
       unfold sv
       rw[List.map_append,List.sum_append]
       simp⟩
     induction M with
     | zero=>
      intro j v hj v0 v1 hv
      refine R.bj bQ rfl fun q3 hA3=>?_
      obtain⟨ab3,an3,ac3,C3⟩:=si hA3
      have h3l:=C3.row.len
      refine⟨_,_,_,C3.c2,cg (by omega) (fin v v0 v1 fun hle=>?_)⟩
      rw[hv hle,List.take_of_length_le (l:=l[i].2.2.1) (i:=j) (by omega)]
      unfold CL
      omega
     | succ M ihM=>
      intro j v hj v0 v1 hv
      have fU:j<l[i].2.2.1.length:=by omega
      refine R.bj bQ rfl fun q3 hA3=>?_
      obtain⟨ab3,an3,ac3,C3⟩:=si hA3
      have h3l:=C3.row.len
      refine⟨_,_,_,C3.c2,bK (by omega) (bf (fun aeF=>?_) fun aeG=>fin v v0 v1 fun hle=>absurd hle aeG)⟩
      refine R.bj bQ rfl fun q4 hA4=>?_
      obtain⟨ab4,an4,ac4,C4⟩:=si hA4
      refine⟨_,_,_,C4.c2,C4.row.bj fU rfl fun q5 Ua=>⟨_,Ua.fst.str.1,by decide,?_⟩⟩
      have l1:l[i].2.2.1[j].1.length<=9223372036854775807:=by have:=Ua.fst.str.2;simp only[maxLen] at this;exact this
      have l2:l[i].2.2.1[j].2.length<=9223372036854775807:=by have:=Ua.snd.str.2;simp only[maxLen] at this;exact this
      rw[iG]
      refine⟨vg (by omega) (by omega),vg (by omega) (by omega),?_⟩
      refine R.bj bQ rfl fun q6 hA6=>?_
      obtain⟨ab6,an6,ac6,C6⟩:=si hA6
      refine⟨_,_,_,C6.c2,C6.row.bj fU rfl fun q7 hA7=>⟨_,hA7.snd.str.1,by decide,?_⟩⟩
      rw[iG]
      refine⟨vg (by omega) (by omega),vg (by omega) (by omega),vg (by omega) (by omega),vg (by omega) (by omega),ihM (j+1) _ (by omega) (by omega) (by omega) fun hle=>?_⟩
      have hv:=hv aeF
      rw[hv,List.take_add_one,List.getElem?_eq_getElem fU]
      have:sG (l[i].2.2.1.take j++(some l[i].2.2.1[j]).toList)=sG (l[i].2.2.1.take j)+Fz l[i].2.2.1[j]:=by
       unfold sG;rw[List.map_append,List.sum_append];simp
      rw[this]
      unfold Fz
      omega
    refine⟨l[i].2.2.1.length+1,?_⟩
    exact inner l[i].2.2.1.length 0 _ (by omega) (by omega) (by omega) fun hle=>by
     rw[List.take_zero];rfl
   ·refine hk w w0 w1 (fun h0=>?_) fun hle=>absurd hle hgt
    omega
 exact key n 0 0 (by omega) (by omega) (by omega) (fun h0=>absurd h0 (Nat.lt_irrefl _)) fun _=>by rw[List.take_zero];rfl
end
def cX (s:Bs):List (List Bs)->Nat->Nat
 | [],_=>0
 | l::ls,k=>if s ∈ l then k else cX s ls (k+1)
def wS1:List Bs:=[[104,116,109,108],[98,111,100,121],[104,101,97,100],[102,114,97,109,101],[102,114,97,109,101,115,101,116],[99,97,112,116,105,111,110],[99,111,108],[99,111,108,103,114,111,117,112],[116,98,111,100,121],[116,100],[116,102,111,111,116],[116,104],[116,104,101,97,100],[116,114]]
def wS2:List Bs:=[[98,97,115,101],[98,97,115,101,102,111,110,116],[98,103,115,111,117,110,100],[108,105,110,107],[109,101,116,97],[112,97,114,97,109],[115,111,117,114,99,101],[116,114,97,99,107]]
def wS3:List Bs:=[[116,105,116,108,101]]
def wS4:List Bs:=[[110,111,102,114,97,109,101,115],[115,116,121,108,101],[105,102,114,97,109,101],[110,111,101,109,98,101,100]]
def wS5:List Bs:=[[115,99,114,105,112,116]]
def wS6:List Bs:=[[97,100,100,114,101,115,115],[97,114,116,105,99,108,101],[97,115,105,100,101],[98,108,111,99,107,113,117,111,116,101],[99,101,110,116,101,114],[100,101,116,97,105,108,115],[100,105,97,108,111,103],[100,105,114],[100,105,118],[100,108],[102,105,101,108,100,115,101,116],[102,105,103,99,97,112,116,105,111,110],[102,105,103,117,114,101],[102,111,111,116,101,114],[104,101,97,100,101,114],[104,103,114,111,117,112],[109,97,105,110],[109,101,110,117],[110,97,118],[111,108],[112],[115,101,97,114,99,104],[115,101,99,116,105,111,110],[115,117,109,109,97,114,121],[117,108]]
def yy:List Bs:=[[104,49],[104,50],[104,51],[104,52],[104,53],[104,54]]
def wS8:List Bs:=[[112,114,101],[108,105,115,116,105,110,103]]
def wS9:List Bs:=[[102,111,114,109]]
def OW:List Bs:=[[108,105]]
def Ia:List Bs:=[[100,100],[100,116]]
def YT:List Bs:=[[112,108,97,105,110,116,101,120,116]]
def YU:List Bs:=[[98,117,116,116,111,110]]
def YV:List Bs:=[[97]]
def YW:List Bs:=[[110,111,98,114]]
def YX:List Bs:=[[97,112,112,108,101,116],[109,97,114,113,117,101,101],[111,98,106,101,99,116]]
def YY:List Bs:=[[116,97,98,108,101]]
def S4:List Bs:=[[97,114,101,97],[98,114],[101,109,98,101,100],[105,109,103],[107,101,121,103,101,110],[119,98,114],[105,110,112,117,116]]
def YZ:List Bs:=[[105,109,97,103,101]]
def Y0:List Bs:=[[104,114]]
def Y1:List Bs:=[[116,101,120,116,97,114,101,97]]
def Y2:List Bs:=[[120,109,112]]
def Y3:List Bs:=[[111,112,116,103,114,111,117,112],[111,112,116,105,111,110]]
def Y4:List Bs:=[[114,98],[114,116,99],[114,112],[114,116]]
def Y5:List Bs:=[[109,97,116,104],[115,118,103]]
def Ck:List (List Bs):=[wS1,wS2,wS3,wS4,wS5,wS6,yy,wS8,wS9,OW,Ia,YT,YU,YV,YW,YX,YY,S4,YZ,Y0,Y1,Y2,Y3,Y4,Y5]
def wE1:List Bs:=[[98,111,100,121],[104,116,109,108]]
def wE2:List Bs:=[[97,100,100,114,101,115,115],[97,114,116,105,99,108,101],[97,115,105,100,101],[98,108,111,99,107,113,117,111,116,101],[98,117,116,116,111,110],[99,101,110,116,101,114],[100,101,116,97,105,108,115],[100,105,97,108,111,103],[100,105,114],[100,105,118],[100,108],[102,105,101,108,100,115,101,116],[102,105,103,99,97,112,116,105,111,110],[102,105,103,117,114,101],[102,111,111,116,101,114],[104,101,97,100,101,114],[104,103,114,111,117,112],[108,105,115,116,105,110,103],[109,97,105,110],[109,101,110,117],[110,97,118],[111,108],[112,114,101],[115,101,97,114,99,104],[115,101,99,116,105,111,110],[115,117,109,109,97,114,121],[117,108]]
def wE3:List Bs:=[[102,111,114,109]]
def wE4:List Bs:=[[112]]
def wE5:List Bs:=[[108,105],[100,100],[100,116]]
def wE6:List Bs:=[[104,49],[104,50],[104,51],[104,52],[104,53],[104,54]]
def wE7:List Bs:=[[97,112,112,108,101,116],[109,97,114,113,117,101,101],[111,98,106,101,99,116]]
def wE8:List Bs:=[[98,114]]
def J2:List (List Bs):=[wE1,wE2,wE3,wE4,wE5,wE6,wE7,wE8]
def oq (s:Bs):Nat:=cX s Ck 1
theorem K0:(List.range 25).all (fun k=>(Ck.getD k []).all fun s=>oq s == k+1)=true:=by decide+kernel
theorem aN {s:Bs} (k:Nat) (hk:k<25) (h:s ∈ Ck.getD k []):oq s=k+1:=by
 have h1:=List.all_eq_true.1 K0 k (List.mem_range.2 hk)
 exact eq_of_beq (List.all_eq_true.1 h1 s h)
theorem GJ {s:Bs} (h1:s ∉ wS1) (h2:s ∉ wS2) (h3:s ∉ wS3) (h4:s ∉ wS4) (h5:s ∉ wS5) (h6:s ∉ wS6) (h7:s ∉ yy) (h8:s ∉ wS8) (h9:s ∉ wS9) (df:s ∉ OW) (eG:s ∉ Ia) (eL:s ∉ YT) (fI:s ∉ YU) (dx:s ∉ YV) (gA:s ∉ YW) (gZ:s ∉ YX) (fh:s ∉ YY) (gI:s ∉ S4) (qs:s ∉ YZ) (gm:s ∉ Y0) (qt:s ∉ Y1) (mB:s ∉ Y2) (qu:s ∉ Y3) (mC:s ∉ Y4) (iF:s ∉ Y5):oq s=0:=by
 unfold oq Ck cX;rw[if_neg h1,cX,if_neg h2,cX,if_neg h3,cX,if_neg h4,cX,if_neg h5,cX,if_neg h6,cX,if_neg h7,cX,if_neg h8,cX,if_neg h9,cX,if_neg df,cX,if_neg eG,cX,if_neg eL,cX,if_neg fI,cX,if_neg dx,cX,if_neg gA,cX,if_neg gZ,cX,if_neg fh,cX,if_neg gI,cX,if_neg qs,cX,if_neg gm,cX,if_neg qt,cX,if_neg mB,cX,if_neg qu,cX,if_neg mC,cX,if_neg iF,cX]
def ma (s:Bs):Nat:=cX s J2 1
theorem La:(List.range 8).all (fun k=>(J2.getD k []).all fun s=>ma s == k+1)=true:=by decide+kernel
theorem bN {s:Bs} (k:Nat) (hk:k<8) (h:s ∈ J2.getD k []):ma s=k+1:=by
 have h1:=List.all_eq_true.1 La k (List.mem_range.2 hk)
 exact eq_of_beq (List.all_eq_true.1 h1 s h)
theorem GL {s:Bs} (h1:s ∉ wE1) (h2:s ∉ wE2) (h3:s ∉ wE3) (h4:s ∉ wE4) (h5:s ∉ wE5) (h6:s ∉ wE6) (h7:s ∉ wE7) (h8:s ∉ wE8):ma s=0:=by
 unfold ma J2 cX;rw[if_neg h1,cX,if_neg h2,cX,if_neg h3,cX,if_neg h4,cX,if_neg h5,cX,if_neg h6,cX,if_neg h7,cX,if_neg h8,cX]
structure MM where
 w:WM
 mode:Int
 back:Int
 fm:Int
 skip:Bool
 read:Int
 nm:Bs
noncomputable def fe (m:WM) (t:cm):WM:=bs m 0 t.2.1 t.2.2.1
def sh (m:WM):WM:=cZ m ((m.op.length:Int) - 1)
def wy (m:WM) (ex:Bs):WM:=cZ m (iv m.op ex)
def upW (m:WM) (ns:List Bs):WM:=cZ m (bP m.op ns)
def wc (m:WM) (ex:Bs) (ns:List Bs):WM:=upW (wy m ex) ns
def pW (m:WM):WM:=if kQ m.op 2 wP=true then wc m [112] wP else m
noncomputable def jk (m:WM) (t:cm):WM:=sh (fe m t)
noncomputable def dM (m:WM) (t:cm):WM:=fe (pW m) t
noncomputable def gO (m:WM) (t:cm):WM:=fe (aU m) t
noncomputable def bW (m:WM) (s:Bs):WM:=if(runM m s).2=true then(runM m s).1 else fk (runM m s).1 s
noncomputable def ic (m:WM) (t:cm):WM:={fe (aU m) t with aE:=fj (aU m).aE (((aU m).ns.length:Int),t.2.1,t.2.2.1)}
def zr (m:WM) (ns:List Bs):Bs:=(m.op.getD (qN m.op ns).toNat aI).2.2.1
def qM (m:WM) (ns:List Bs):WM:=if 0<=qN m.op ns then wc m (zr m ns) [zr m ns] else m
def Et (m:WM) (ns:List Bs):Bool:=decide ((dP m.op).2.1=0)&&bn ns (dP m.op).2.2.1
def dQ (m:WM) (id:Int):WM:=if 0<=bp m.aE id then bX m (bp m.aE id).toNat else m
def zt (m:WM) (s:Bs):Int:=(m.aE.getD (fA m.aE s).toNat noMark).1
noncomputable def mZ (m:WM) (s:Bs):WM:=if 0<=fA m.aE s then gr (dQ (bW m s) (zt m s)) (zt m s) else m
noncomputable def r8 (m:WM) (s:Bs):WM:=if kQ m.op 0 [s]=true then bW m s else m
def vK (m:WM):WM:={m with aE:=fj m.aE (-1,[],[])}
def lH (l:List aS):List aS:=l.take (behind l - 1)
def qE (m:WM) (id:Int):Bool:=decide (0<=gh m.op id)&&eT (m.op.drop ((gh m.op id).toNat+1))
def rY (m:WM):WM:=if Et (pW m) yy=true then sh (pW m) else pW m
def As (m:WM):WM:=if Et m [[111,112,116,105,111,110]]=true then sh m else m
def dF (m:WM) (sc:Int) (ex:Bs) (ns:List Bs):WM:=if kQ m.op sc ns=true then wc m ex ns else m
def JZ (s:Bs):Bs:=if s=[114,112]∨s=[114,116] then [114,116,99] else []
def Cn:List Bs:=[[114,117,98,121]]
def iX (m:WM) (s:Bs):WM:=if kQ m.op 0 Cn=true then wy m (JZ s) else m
def mV (s:Bs):Int:=if s=[115,118,103] then 1 else 2
noncomputable def iJ (m:WM) (t:cm):WM:=
 let m1:=bs (aU m) (mV t.2.1) t.2.1 t.2.2.1
 if t.2.2.2.1=true then sh m1 else m1
abbrev mU (t:cm):cm:=(t.1,[105,109,103],t.2.2)
abbrev se (k:Int) (s:Bs):cm:=(k,s,[],false,[])
def MM.fp (mm:MM) (w:WM) (t:cm) (rd:Int):MM:={mm with w:=w,back:=mm.mode,mode:=1,read:=rd,nm:=t.2.1}
noncomputable def lG (mm:MM) (t:cm):MM:={mm with w:=if dS t.2.1=true then ic mm.w t else gO mm.w t}
noncomputable def uh (mm:MM) (t:cm):MM:=if mm.fm<0 then {mm with w:=dM mm.w t,fm:=(mm.w.ns.length:Int)} else mm
noncomputable def wa (mm:MM) (t:cm):Nat->MM
 | 1=>mm
 | 2=>{mm with w:=jk mm.w t}
 | 3=>mm.fp (fe mm.w t) t 1
 | 4=>mm.fp (fe mm.w t) t 2
 | 5=>mm.fp (fe mm.w t) t 3
 | 6=>{mm with w:=dM mm.w t}
 | 7=>{mm with w:=fe (rY mm.w) t}
 | 8=>{mm with w:=dM mm.w t,skip:=true}
 | 9=>uh mm t
 | 10=>{mm with w:=dM (qM mm.w OW) t}
 | 11=>{mm with w:=dM (qM mm.w Ia) t}
 | 12=>{mm with w:=dM mm.w t,read:=4}
 | 13=>{mm with w:=gO (dF mm.w 0 [] gl) t}
 | 14=>{mm with w:=ic (mZ mm.w t.2.1) t}
 | 15=>{mm with w:=ic (r8 (aU mm.w) t.2.1) t}
 | 16=>{mm with w:=vK (gO mm.w t)}
 | 17=>{mm with w:=dM mm.w t,mode:=2}
 | 18=>{mm with w:=jk (aU mm.w) t}
 | 19=>{mm with w:=jk (aU mm.w) (mU t)}
 | 20=>{mm with w:=jk (pW mm.w) t}
 | 21=>{mm.fp (fe mm.w t) t 1 with skip:=true}
 | 22=>mm.fp (fe (aU (pW mm.w)) t) t 2
 | 23=>{mm with w:=gO (As mm.w) t}
 | 24=>{mm with w:=fe (iX mm.w t.2.1) t}
 | 25=>{mm with w:=iJ mm.w t}
 | _=>lG mm t
noncomputable def fV (mm:MM) (t:cm):MM:=wa mm t (oq t.2.1)
def gF (m:WM) (fm:Int):WM:=if 0<=fm/\qE m fm=true then gr (wy m []) fm else m
noncomputable def uk (m:WM):WM:=pW (if kQ m.op 2 wP=true then m else bs m 0 [112] [])
def lh (m:WM) (s:Bs):WM:=if kQ m.op 0 [s]=true then {wc m [] [s] with aE:=lH m.aE} else m
noncomputable def EN (m:WM) (s:Bs) (fm:Int):Nat->WM
 | 1=>m
 | 2=>dF m 0 [] [s]
 | 3=>gF m fm
 | 4=>uk m
 | 5=>dF m (if s=[108,105] then 1 else 0) s [s]
 | 6=>dF m 0 [] yy
 | 7=>lh m s
 | 8=>jk (aU m) (se 0 [98,114])
 | _=>if dS s=true then bW m s else fk m s
noncomputable def Ib (mm:MM) (s:Bs):MM:={mm with w:=EN mm.w s mm.fm (ma s),fm:=if ma s=3 then -1 else mm.fm}
noncomputable def sf (mm:MM) (t:cm):MM:=
 if t.1=1 then {mm with w:=fW (aU mm.w) t.2.2.2.2}
 else if t.1=4 then {mm with w:=uw mm.w t.2.2.2.2}
 else if t.1=2 then fV mm t
 else if t.1=3 then Ib mm t.2.1
 else mm
noncomputable def sg (mm:MM) (t:cm):MM:=
 if t.1=1 then {mm with w:=fW mm.w t.2.2.2.2}
 else {mm with w:=sh mm.w,mode:=mm.back,read:=0,nm:=[]}
def RH (mm:MM) (t:cm):Bool:=mm.skip&&(decide (t.1=1)&&decide (t.2.2.2.2.head? =some 10))
def wg (mm:MM) (t:cm):cm:=if RH mm t=true then(t.1,t.2.1,t.2.2.1,t.2.2.2.1,t.2.2.2.2.drop 1) else t
def GN (mm:MM) (t:cm):Bool:=if RH mm t=true then !decide (t.2.2.2.2.drop 1=[]) else true
def zg (mm:MM):MM:={mm with skip:=false}
noncomputable def dH (mm:MM) (t:cm):MM:=
 if GN mm t=true then(if mm.mode=1 then sg (zg mm) (wg mm t) else sf (zg mm) (wg mm t)) else zg mm
def J3:MM:=⟨EP,0,0, -1,false,0,[]⟩
noncomputable def mf (l:List cm):MM:=l.foldl dH J3
structure MS (m:WM) (u v x:Nat):Prop where
 A:AI m u v x
 M:MW m
theorem AI.Y6 {m:WM} {u v x:Nat} (A:AI m u v x) {tx:Bs} (ht:tx.length<=4000):AI (uw m tx) (u+1) v (x+4000):=
 ⟨A.D.note ht,A.root,fun y hy h0=>by
  obtain⟨z,hz,e⟩:=A.kind y hy h0
  obtain⟨z',il,e'⟩:=((fR.bE _ _).trans (.mD (fC (A.D.G.bE 3 0 [] [] tx) _ _ _) (fv (A.D.G.bE 3 0 [] [] tx) _ _ _)):fR m.ns (uw m tx).ns) _ z hz
  exact⟨z',il,e'.trans e⟩,A.tz,A.yD⟩
def qh (t:cm):Prop:=t.2.1.length<=4000/\t.2.2.1.length<=500/\(∀a ∈ t.2.2.1,a.1.length<=4000/\a.2.length<=4000)/\t.2.2.2.2.length<=4000
section
variable {m:WM} {u v x u' v' x':Nat} {t:cm}
theorem MS.mono (s:MS m u v x) (h1:u<=u') (h2:v<=v') (h3:x<=x'):MS m u' v' x':=⟨s.A.mono h1 h2 h3,s.M⟩
theorem MS.close (s:MS m u v x) (n:Int):MS (cZ m n) u v x:=⟨s.A.close n,s.M.close n⟩
theorem MS.pop (s:MS m u v x):MS (sh m) u v x:=s.close _
theorem MS.impl (s:MS m u v x) (ex:Bs):MS (wy m ex) u v x:=s.close _
theorem MS.out (s:MS m u v x) (ex:Bs) (ns:List Bs):MS (wc m ex ns) u v x:=(s.close _).close _
theorem MS.p (s:MS m u v x):MS (pW m) u v x:=by
 unfold pW;split
 ·exact s.out _ _
 ·exact s
theorem MS.dF (s:MS m u v x) (sc:Int) (ex:Bs) (ns:List Bs):MS (dF m sc ex ns) u v x:=by
 unfold Go.Proofs.dF;split
 ·exact s.out _ _
 ·exact s
theorem MS.insert (s:MS m u v x) (sp:Int) {nm:Bs} (hn:nm.length<=4000) (gE:List bw):MS (bs m sp nm gE) (u+1) v x:=⟨s.A.insert sp hn gE,s.M.insert s.A.D.G sp nm gE⟩
theorem MS.ins (s:MS m u v x) (ht:qh t):MS (fe m t) (u+1) v x:=s.insert 0 ht.1 _
theorem MS.ux (s:MS m u v x):MS (aU m) (u+v) v x:=⟨s.A.vR,s.M.vR s.A⟩
theorem MS.run (s:MS m u v x) (nm:Bs):MS (runM m nm).1 (u+32) v x:=⟨s.A.run nm,s.M.run s.A nm⟩
theorem MS.leave (s:MS m u v x) (nm:Bs):MS (bW m nm) (u+32) v x:=by
 unfold bW;split
 ·exact s.run nm
 ·exact(s.run nm).close _
theorem MS.bX (s:MS m u v x) (k:Nat):MS (bX m k) u v x:=⟨s.A.bX k,s.M.bX k⟩
theorem MS.Fc (s:MS m u v x) (id:Int):MS (dQ m id) u v x:=by
 unfold dQ;split
 ·exact s.bX _
 ·exact s
theorem MS.drop (s:MS m u v x) (id:Int):MS (gr m id) u v x:=⟨s.A.drop id,s.M.drop id⟩
theorem MS.write (s:MS m u v x) {tx:Bs} (ht:tx.length<=4000):MS (fW m tx) (u+1) v (x+4000):=⟨s.A.write ht,s.M.write s.A.D.G tx⟩
theorem MS.note (s:MS m u v x) {tx:Bs} (ht:tx.length<=4000):MS (uw m tx) (u+1) v (x+4000):=⟨s.A.Y6 ht,s.M.tree rfl (by
 show _<=(cV _ _ _ _).1.length
 rw[fv (s.A.D.G.bE _ _ _ _ _)]
 show _<=(m.ns++ [_]).length
 simp)⟩
theorem MS.block (s:MS m u v x) (ht:qh t):MS (dM m t) (u+1) v x:=s.p.ins ht
theorem MS.empty (s:MS m u v x) (ht:qh t):MS (jk m t) (u+1) v x:=(s.ins ht).pop
theorem MS.plain (s:MS m u v x) (ht:qh t):MS (gO m t) (u+v+1) v x:=s.ux.ins ht
theorem MS.format (s:MS m u v x) (ht:qh t):MS (ic m t) (u+v+1) (v+1) x:=by
 have s1:=s.ux.ins ht
 have hp:=s.ux.A.pos
 have hl:(fe (aU m) t).ns.length=(aU m).ns.length+1:=hG s.ux.A.D.G
 refine⟨s1.A.push (y:=(((aU m).ns.length:Int),t.2.1,t.2.2.1)) ⟨ht.1,ht.2.1,fun a ha=>(ht.2.2.1 a ha).2⟩ (by show((aU m).ns.length:Int)≠0;omega),?_⟩
 unfold MW
 show MI (fj (aU m).aE _) (fe (aU m) t).ns.length
 rw[hl]
 exact MI.push s.ux.M _
theorem MS.wz (s:MS m u v x):MS (vK m) u (v+1) x:=
 ⟨s.A.push (y:=(-1,[],[])) ⟨by decide,by decide,fun a ha=>nomatch ha⟩ (by decide),MI.wz s.M s.A.pos⟩
theorem MS.item (s:MS m u v x) (ns:List Bs):MS (qM m ns) u v x:=by
 unfold qM;split
 ·exact s.out _ _
 ·exact s
theorem MS.head (s:MS m u v x):MS (rY m) u v x:=by
 unfold rY;split
 ·exact s.p.pop
 ·exact s.p
theorem MS.opt (s:MS m u v x):MS (As m) u v x:=by
 unfold As;split
 ·exact s.pop
 ·exact s
theorem MS.aeH (s:MS m u v x) (n:Bs):MS (iX m n) u v x:=by
 unfold iX;split
 ·exact s.impl _
 ·exact s
theorem MS.unlink (s:MS m u v x) (n:Bs):MS (mZ m n) (u+32) v x:=by
 unfold mZ;split
 ·exact((s.leave n).Fc _).drop _
 ·exact s.mono (by omega) (Nat.le_refl _) (Nat.le_refl _)
theorem MS.aeI (s:MS m u v x) (n:Bs):MS (r8 m n) (u+32) v x:=by
 unfold r8;split
 ·exact s.leave n
 ·exact s.mono (by omega) (Nat.le_refl _) (Nat.le_refl _)
theorem MS.Y7 (s:MS m u v x) (ht:qh t):MS (iJ m t) (u+v+1) v x:=by
 unfold iJ;simp only[];split
 ·exact(s.ux.insert _ ht.1 _).pop
 ·exact s.ux.insert _ ht.1 _
theorem MS.clear (s:MS m u v x):MS {m with aE:=lH m.aE} u v x:=
 ⟨s.A.marks (Nat.le_trans (List.take_sublist _ _).length_le s.A.D.ml) (fun y hy=>s.A.D.mw y (List.mem_of_mem_take hy)) fun y hy=>s.A.tz y (List.mem_of_mem_take hy),MI.sub s.M (List.take_sublist _ _)⟩
end
structure MQ (mm:MM) (u v x:Nat):Prop where
 s:MS mm.w u v x
 f0: -1<=mm.fm
 f1:mm.fm<=(u:Int)
 mo:bd .u8 mm.mode
 ba:bd .u8 mm.back
 rd:bd .u8 mm.read
 nl:mm.nm.length<=4000
theorem jt {i:Int} (h0:0<=i) (h1:i<=255):bd .u8 i:=⟨h0,h1⟩
section
variable {mm:MM} {u v x u' v' x':Nat} {t:cm} {m2:WM}
theorem MQ.mono (q:MQ mm u v x) (h1:u<=u') (h2:v<=v') (h3:x<=x'):MQ mm u' v' x':=⟨q.s.mono h1 h2 h3,q.f0,by have:=q.f1;omega,q.mo,q.ba,q.rd,q.nl⟩
theorem MQ.ww (q:MQ mm u v x) (s:MS m2 u' v' x') (hu:u<=u'):MQ {mm with w:=m2} u' v' x':=⟨s,q.f0,by have:=q.f1;show mm.fm<=_;omega,q.mo,q.ba,q.rd,q.nl⟩
theorem MQ.reads (q:MQ mm u v x) (s:MS m2 u' v' x') (hu:u<=u') (ht:qh t) {rd:Int} (hr:bd .u8 rd):MQ (mm.fp m2 t rd) u' v' x':=⟨s,q.f0,by have:=q.f1;show mm.fm<=_;omega,jt (i:=1) (by decide) (by decide),q.mo,hr,ht.1⟩
theorem MQ.zero:MQ J3 1 0 0:=⟨⟨AI.zero,MW.zero⟩,by decide,by decide,jt (i:=0) (by decide) (by decide),jt (i:=0) (by decide) (by decide),jt (i:=0) (by decide) (by decide),by decide⟩
theorem MQ.start (q:MQ mm u v x) (ht:qh t):MQ (fV mm t) (u+2*v+40) (v+1) x:=by
 have s:=q.s
 have mk:∀{m2:WM} {u1 v1 x1:Nat},MS m2 u1 v1 x1->u1<=u+2*v+40->v1<=v+1->x1<=x->MS m2 (u+2*v+40) (v+1) x:=fun s h1 h2 h3=>s.mono h1 h2 h3
 have ww:∀{m2:WM} {u1 v1 x1:Nat},MS m2 u1 v1 x1->u1<=u+2*v+40->v1<=v+1->x1<=x->MQ {mm with w:=m2} (u+2*v+40) (v+1) x:=fun s h1 h2 h3=>q.ww (mk s h1 h2 h3) (by omega)
 have rr:∀{m2:WM} {u1 v1 x1:Nat} {rd:Int},MS m2 u1 v1 x1->u1<=u+2*v+40->v1<=v+1->x1<=x->bd .u8 rd->MQ (mm.fp m2 t rd) (u+2*v+40) (v+1) x:=fun s h1 h2 h3 hr=>q.reads (mk s h1 h2 h3) (by omega) ht hr
 have hi:qh (mU t):=⟨(by decide:([105,109,103]:Bs).length<=4000),ht.2⟩
 unfold fV
 generalize oq t.2.1=k
 unfold wa
 split
 ·exact q.mono (by omega) (by omega) (by omega)
 ·exact ww (s.empty ht) (by omega) (by omega) (by omega)
 ·exact rr (s.ins ht) (by omega) (by omega) (by omega) (jt (by decide) (by decide))
 ·exact rr (s.ins ht) (by omega) (by omega) (by omega) (jt (by decide) (by decide))
 ·exact rr (s.ins ht) (by omega) (by omega) (by omega) (jt (by decide) (by decide))
 ·exact ww (s.block ht) (by omega) (by omega) (by omega)
 ·exact ww (s.head.ins ht) (by omega) (by omega) (by omega)
 ·have:=ww (s.block ht) (by omega) (by omega) (by omega)
  exact⟨this.s,this.f0,this.f1,this.mo,this.ba,this.rd,this.nl⟩
 ·unfold uh
  split
  ·have:=ww (s.block ht) (by omega) (by omega) (by omega)
   have hl:=s.A.D.ln
   exact⟨this.s,by show(-1:Int)<=(mm.w.ns.length:Int);omega,by show(mm.w.ns.length:Int)<=_;omega,this.mo,this.ba,this.rd,this.nl⟩
  ·exact q.mono (by omega) (by omega) (by omega)
 ·exact ww ((s.item _).block ht) (by omega) (by omega) (by omega)
 ·exact ww ((s.item _).block ht) (by omega) (by omega) (by omega)
 ·have:=ww (s.block ht) (by omega) (by omega) (by omega)
  exact⟨this.s,this.f0,this.f1,this.mo,this.ba,jt (i:=4) (by decide) (by decide),this.nl⟩
 ·exact ww ((s.dF _ _ _).plain ht) (by omega) (by omega) (by omega)
 ·exact ww ((s.unlink _).format ht) (by omega) (by omega) (by omega)
 ·exact ww ((s.ux.aeI _).format ht) (by omega) (by omega) (by omega)
 ·exact ww ((s.plain ht).wz) (by omega) (by omega) (by omega)
 ·have:=ww (s.block ht) (by omega) (by omega) (by omega)
  exact⟨this.s,this.f0,this.f1,jt (i:=2) (by decide) (by decide),this.ba,this.rd,this.nl⟩
 ·exact ww (s.ux.empty ht) (by omega) (by omega) (by omega)
 ·exact ww (s.ux.empty hi) (by omega) (by omega) (by omega)
 ·exact ww (s.p.empty ht) (by omega) (by omega) (by omega)
 ·have:=rr (s.ins ht) (by omega) (by omega) (by omega) (rd:=1) (jt (by decide) (by decide))
  exact⟨this.s,this.f0,this.f1,this.mo,this.ba,this.rd,this.nl⟩
 ·exact rr (s.p.ux.ins ht) (by omega) (by omega) (by omega) (jt (by decide) (by decide))
 ·exact ww (s.opt.plain ht) (by omega) (by omega) (by omega)
 ·exact ww ((s.aeH _).ins ht) (by omega) (by omega) (by omega)
 ·exact ww (s.Y7 ht) (by omega) (by omega) (by omega)
 ·unfold lG
  split
  ·exact ww (s.format ht) (by omega) (by omega) (by omega)
  ·exact ww (s.plain ht) (by omega) (by omega) (by omega)
theorem MS.EN {m:WM} {s:Bs} (q:MS m u v x) (fm:Int) (k:Nat):MS (EN m s fm k) (u+2*v+40) (v+1) x:=by
 have mk:∀{m2:WM} {u1 v1 x1:Nat},MS m2 u1 v1 x1->u1<=u+2*v+40->v1<=v+1->x1<=x->MS m2 (u+2*v+40) (v+1) x:=fun s h1 h2 h3=>s.mono h1 h2 h3
 unfold Go.Proofs.EN
 split
 ·exact mk q (by omega) (by omega) (by omega)
 ·exact mk (q.dF _ _ _) (by omega) (by omega) (by omega)
 ·unfold gF;split
  ·exact mk ((q.impl _).drop _) (by omega) (by omega) (by omega)
  ·exact mk q (by omega) (by omega) (by omega)
 ·unfold uk;split
  ·exact mk q.p (by omega) (by omega) (by omega)
  ·exact mk (q.insert 0 (nm:=[112]) (by decide) []).p (by omega) (by omega) (by omega)
 ·exact mk (q.dF _ _ _) (by omega) (by omega) (by omega)
 ·exact mk (q.dF _ _ _) (by omega) (by omega) (by omega)
 ·unfold lh;split
  ·exact mk (q.out [] [s]).clear (by omega) (by omega) (by omega)
  ·exact mk q (by omega) (by omega) (by omega)
 ·exact mk (q.ux.empty (t:=se 0 [98,114]) ⟨by decide,by decide,(fun a ha=>nomatch ha),by decide⟩) (by omega) (by omega) (by omega)
 ·split
  ·exact mk (q.leave _) (by omega) (by omega) (by omega)
  ·exact mk (q.close _) (by omega) (by omega) (by omega)
theorem MQ.fin (q:MQ mm u v x) (s:Bs):MQ (Ib mm s) (u+2*v+40) (v+1) x:=by
 have h:=q.s.EN (s:=s) mm.fm (ma s)
 have f0:=q.f0
 have f1:=q.f1
 refine⟨h,?_,?_,q.mo,q.ba,q.rd,q.nl⟩
 ·show -1<=(if ma s=3 then -1 else mm.fm);split <;> omega
 ·show(if ma s=3 then -1 else mm.fm)<=_;split <;> omega
theorem MQ.body (q:MQ mm u v x) (ht:qh t):MQ (sf mm t) (u+2*v+40) (v+1) (x+4000):=by
 unfold sf
 split
 ·exact(q.ww (u':=u+v+1) (q.s.ux.write ht.2.2.2) (by omega)).mono (by omega) (by omega) (by omega)
 ·split
  ·exact(q.ww (u':=u+1) (q.s.note ht.2.2.2) (by omega)).mono (by omega) (by omega) (by omega)
  ·split
   ·exact(q.start ht).mono (by omega) (by omega) (by omega)
   ·split
    ·exact(q.fin _).mono (by omega) (by omega) (by omega)
    ·exact q.mono (by omega) (by omega) (by omega)
theorem MQ.text (q:MQ mm u v x) (ht:qh t):MQ (sg mm t) (u+1) v (x+4000):=by
 unfold sg
 split
 ·exact q.ww (q.s.write ht.2.2.2) (by omega)
 ·have:=q.ww q.s.pop (Nat.le_refl _)
  exact MQ.mono ⟨this.s,this.f0,this.f1,q.ba,q.ba,jt (i:=0) (by decide) (by decide),(by decide:([]:Bs).length<=4000)⟩ (by omega) (by omega) (by omega)
theorem MQ.nl2 (q:MQ mm u v x):MQ (zg mm) u v x:=⟨q.s,q.f0,q.f1,q.mo,q.ba,q.rd,q.nl⟩
theorem KJ (ht:qh t):qh (wg mm t):=by
 unfold wg;split
 ·refine⟨ht.1,ht.2.1,ht.2.2.1,?_⟩
  show(t.2.2.2.2.drop 1).length<=4000
  have:=ht.2.2.2
  rw[List.length_drop];omega
 ·exact ht
theorem MQ.step (q:MQ mm u v x) (ht:qh t):MQ (dH mm t) (u+2*v+40) (v+1) (x+4000):=by
 unfold dH
 split
 ·split
  ·exact(q.nl2.text (KJ ht)).mono (by omega) (by omega) (by omega)
  ·exact q.nl2.body (KJ ht)
 ·exact q.nl2.mono (by omega) (by omega) (by omega)
end
end Go.Proofs
