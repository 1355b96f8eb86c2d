import Derived.Test.YtijoifkjeamonaaGreatHc
import Derived.Test.YtijoifkjeamonaaGreatOpA
import Derived.Test.YtijoifkjeamonaaGreatDrF
import Derived.Test.YtijoifkjeamonaaGreatTxG
import Derived.Test.YtijoifkjeamonaaGreatDrB
import Derived.Test.YtijoifkjeamonaaGreatDoE
import Derived.Test.YtijoifkjeamonaaGreatTxD
namespace Go.Proofs
open Go Go.Sh
set_option linter.unusedVariables false
set_option maxRecDepth 100000
section
variable {h:H} {K:KV} {col:cd} {s i:Nat} {t a:Addr} {ct:List Addr} {ns:List ay} {x:ay}
theorem Ft (T:bz h col s t ct ns) {id:Int} (lW:ns.length<1000000) (hk:∀h' col' pA,bz h' col' s t pA (bg ns id).1->Ext s h col h' col'->K (.int .i64 (bg ns id).2) h'):
  zC 238 [.pointer (some t),.int .i64 id] h K:=by
 refine Xan.ok _ _ _ _ (jh T (fun hn=>cO (cN (by kernel_rfl) (ag (aF ?_)))) fun i a x e hx ha=>cO (cN (by kernel_rfl) (ag (aE ?_))))
 ·have:bg ns id=(ns, -1):=by unfold bg;rw[if_neg hn]
  rw[this] at hk
  exact hk h col ct T (Ext.refl _ _ _)
 ·have N:=T.nodes i x a hx ha
  obtain⟨ab,an,ac,kb,kn,kc,v,ra,hz,_⟩:=N.ex
  have cP:=(List.getElem?_eq_some_iff.1 hx).1
  have:bg ns id=bF ns (bG x.kind x.space x.name x.attrs x.text):=by
   unfold bg
   rw[if_pos (by omega),e,Int.toNat_natCast,hx];rfl
  rw[this] at hk
  have hra:=ra.len
  have hfa:=N.fa
  exact aa ⟨_,v.kG 0 rfl,_,v.kG 1 rfl,_,v.kG 2 rfl,_,_,_,v.kG 3 rfl,_,v.kG 4 rfl,_,_,_,v.kG 5 rfl,kE T ra hz (by omega) N.rk N.rs N.fn N.ft lW fun h' col' pA T' e'=>aN (hk h' col' pA T' e')⟩
end
section
variable {h:H} {K:KV} {col:cd} {s i p:Nat} {t a:Addr} {ct:List Addr} {ns:List ay} {x y:ay}
theorem Fu {b b2:OA} {n c n2 c2:Nat} {l l2:List Int} (o:fG h b n c l) (o2:fG h b2 n2 c2 l2) (hn:n+n2<=1000000)
  (hk:∀b' c' h',fG h' b' (n+n2) c' (l++l2)->dW h h' b->Fv h b b'->K (.slice b' (n+n2) c') h'):
  bf Tryz.prog (Builtin.append_ #[82,82] 82 ⟨[.slice b n c,.slice b2 n2 c2]⟩) h K:=by
 obtain⟨i,z,ht,hi,hz,vT,im,zk⟩:=tV.is
 have im:i.size=1:=im
 refine rJ (base:=0) ht hi hz vT (by rw[im];exact o.own) (by rw[im];simpa using o2.len) o2.own.cells (TL l2) (by rw[im];decide) (by simp only[maxLen];omega) (by rw[zk];omega) (Nat.zero_le _) fun b' c' h' o' g' hb h0=>hk b' c' h' ⟨by rw[im] at o';rw[List.map_append];exact o',fun x hx=>?_,fun e=>?_,fun q e=>?_⟩ g' fun q e=>?_
 ·rcases List.mem_append.1 hx with hx | hx
  ·exact o.TM x hx
  ·exact o2.TM x hx
 ·rcases o'.is with h1 | ⟨g,cur,e1,_⟩
  ·exact h1.2
  ·rw[e] at e1;cases e1
 ·rcases o'.is with h1 | ⟨g,cur,e1,_,hg,_⟩
  ·have:=h0 h1.1
   exact Nat.lt_of_lt_of_le (o.hi q (this.1▸e)) g'.size
  ·rw[e] at e1;cases e1;exact(Array.getElem?_eq_some_iff.1 hg).1
 ·rcases hb with rfl | rfl
  ·exact .inl e
  ·cases e;exact .inr (Nat.le_refl _)
theorem Fw (T:bz h col s t ct ns) (G:aV ns) {f dst:Int} (hk:∀h' col',bz h' col' s t ct (dn ns f dst).1->Ext s h col h' col'->K (.bool (dn ns f dst).2) h'):
  zC 239 [.pointer (some t),.int .i64 f,.int .i64 dst] h K:=by
 have hlen:=T.len
 have no:¬((0<=f/\f<ns.length)/\dU ns dst=true/\(((ns[f.toNat]?).map (·.kids)).getD [])≠ []/\cm ns dst f=false)->∀h',KB h h'->K (.bool false) h':=fun hn h' k=>by
  have:dn ns f dst=(ns,false):=by unfold dn;rw[if_neg hn]
  rw[this] at hk
  exact hk h' col (T.kb k) (Ext.kb k)
 refine TN.ok _ _ _ _ _ (jh T (fun hn=>cO (jQ T (fun vQ=>cO (cN (by kernel_rfl) (ag (aF (no (fun hh=>hn hh.1) h (KB.refl h)))))) fun p ap y ep hy B8 mK=>cO (cN (by kernel_rfl) (ag (aF (no (fun hh=>hn hh.1) h (KB.refl h))))))) fun i ai x ei hx Xe=>cO (jQ T (fun vQ=>cO (cN (by kernel_rfl) (ag (aE (cN (by kernel_rfl) (ag (aF (no (fun hh=>vQ (iR hh.2.1)) h (KB.refl h))))))))) fun p ap y ep hy B8 mK=>cO (cN (by kernel_rfl) (ag (aE (cN (by kernel_rfl) (ag (aE ?_))))))))
 have bM:=dv hx
 have qB:=dv hy
 have Ni:=T.nodes i x ai hx Xe
 obtain⟨ab,an,ac,kb,kn,kc,v,ra,hz,ok,oV⟩:=Ni.ex
 have e1:f.toNat=i:=by rw[ei];exact Int.toNat_natCast i
 have e2:dst.toNat=p:=by rw[ep];exact Int.toNat_natCast p
 rw[e1,hx] at no
 have dJ:=ok.len
 refine aa ⟨_,_,_,v.cell 7 rfl,bh (fun e=>no (fun hh=>hh.2.2.1 (List.eq_nil_of_length_eq_zero (by show x.kids.length=0;omega))) h (KB.refl h)) fun e=>sK T G (by omega) fun h1 k1=>ag (aR (fun e=>no (fun hh=>by rw[e] at hh;cases hh.2.2.2) h1 k1) fun hw=>?_)⟩
 have hhb:dU ns dst=true:=by
  unfold dU
  rw[ep,Int.toNat_natCast,hy,decide_eq_true (show 0<=(p:Int)/\(p:Int)<ns.length by omega)]
  exact decide_eq_true (mK.imp (fun h=>by omega) (fun h=>h))
 have hm:dn ns f dst=(iS ns i p x.kids y.kids,true):=by
  unfold dn
  rw[e1,e2,hx,hy]
  rw[if_pos ⟨by omega,hhb,fun h0=>by have h0:x.kids=[]:=h0;rw[h0] at dJ;simp at dJ;omega,hw⟩]
  rfl
 rw[hm] at hk
 have Ev:¬ou ns dst f:=fun hh=>by
  unfold cm at hw
  rw[@decide_eq_true (ou ns dst f) (Classical.propDecidable _) hh] at hw;cases hw
 have bI:i≠p:=fun e=>Ev (by rw[ep,ei,<-e];exact dw.2 (.inl rfl))
 have T1:=T.kb k1
 have v1:=v.kb k1
 have ok1:fG h1 kb kn kc x.kids:=ok.keep (KB.w k1) fun q e=>ok.hi q e
 have lW:=G.nh hx
 have hfy:=G.nh hy
 have It:=T.nh
 have jY:=G.nodup i x hx
 refine aa ⟨_,_,_,v1.cell 7 rfl,kn+1,?_⟩
 have key:∀N m h2,m+N=kn->bz h2 col s t ct (eX ns (x.kids.take m) p)->fG h2 kb kn kc x.kids->Ext s h col h2 col->
   TN.gJ (fun z7 z8 h=>TN.n5 z7 z8 (fun y6 h=>K (.bool y6) h) (fun y6 h=>K (.bool y6) h) h) (fun z7 z8 h=>TN.n5 z7 z8 (fun y6 h=>K (.bool y6) h) (fun y6 h=>K (.bool y6) h) h) (fun y6 h=>K (.bool y6) h) (N+1) (some t) dst (some ai) (some ap) kb kn kc (kn:Int) (m:Int) h2:=by
  intro N
  induction N with
  | zero=>
   intro m h2 OB T2 o2 E2
   unfold TN.gJ
   refine bX (by omega) ?_
   rw[List.take_of_length_le (by omega)] at T2
   have RN:(i:Int) ∉ x.kids:=fun h=>by
    obtain⟨q,w,e,uK,hq⟩:=(G.lq i x _ hx).1 h
    have:q=i:=by omega
    subst this
    rw[hx] at uK;cases uK
    exact G.tW hx hq rfl
   have TO:(p:Int) ∉ x.kids:=fun h=>by
    obtain⟨q,w,e,uK,hq⟩:=(G.lq i x _ hx).1 h
    have:q=p:=by omega
    subst this
    exact Ev (by rw[ep,ei];exact dw.2 (.inr (by rw[eY uK,hq];exact dw.2 (.inl rfl))))
   have Er:(eX ns x.kids p)[i]? =some x:=by rw[eu hx,if_neg RN]
   have Xc:(eX ns x.kids p)[p]? =some y:=by rw[eu hy,if_neg TO]
   obtain⟨Rx,J8,Ry,WT,Ru,WU,v2,RO,pY,Iu,OZ⟩:=(T2.nodes p y ap Xc B8).ex
   obtain⟨ab3,an3,ac3,kb3,kn3,kc3,v3,ra3,hz3,Yn,hkc3⟩:=(T2.nodes i x ai Er Xe).ex
   have yl:=Iu.len
   have O0:=Yn.len
   have Yo:Ru+kn3<=1000000:=by
    have Gm:=G.move hx hy (by rw[<-ei,<-ep];exact Ev)
    have h1:=Gm.nh (dg hy)
    have h1:(if p=i then [] else if p=p then y.kids++x.kids else y.kids).length<=_:=h1
    rw[if_neg (Ne.symm bI),if_pos rfl,List.length_append,hU] at h1
    omega
   refine aa ⟨_,_,_,v2.cell 7 rfl,aa ⟨_,_,_,v3.cell 7 rfl,Fu Iu Yn Yo fun b' c' h3 o3 g3 nb=>aC (aa (vU T2 B8 Xc v2 RO pY OZ g3 o3 nb fun h4 fO T4 E4=>aa ?_))⟩⟩
   have hx4:((eX ns x.kids p).set p {y with kids:=y.kids++x.kids})[i]? =some x:=by rw[List.getElem?_set_ne (Ne.symm bI)];exact Er
   obtain⟨ab5,an5,ac5,kb5,kn5,kc5,v5,ra5,hz5,ok5,adX⟩:=(T4.nodes i x ai hx4 Xe).ex
   refine vU T4 Xe hx4 v5 ra5 hz5 adX (dW.refl h4 kb5) (fG.none h4) (fun q e=>by cases e) fun h5 rG T5 E5=>?_
   have adY:((eX ns x.kids p).set p {y with kids:=y.kids++x.kids}).set i {x with kids:=[]}=iS ns i p x.kids y.kids:=by
    refine List.ext_getElem? fun j=>?_
    rw[sL (by rw[hX];exact bM) (by rw[hX];exact qB)]
    by_cases e:j=i
    ·rw[if_pos e,e,dg hx,if_neg RN,if_pos rfl]
    ·rw[if_neg e]
     by_cases e2:j=p
     ·rw[if_pos e2,e2,dg hy,if_neg TO,if_neg (Ne.symm bI),if_pos rfl]
     ·rw[if_neg e2]
      cases hj:ns[j]? with
      | none=>
       rw[List.getElem?_eq_none (by rw[hX];exact List.getElem?_eq_none_iff.1 hj),List.getElem?_eq_none (by rw[hU];exact List.getElem?_eq_none_iff.1 hj)]
      | some z=>
       rw[eu hj,dg hj,if_neg e,if_neg e2]
       by_cases AW:(j:Int) ∈ x.kids
       ·rw[if_pos AW,if_pos AW]
       ·rw[if_neg AW,if_neg AW]
   rw[adY] at T5
   exact hk h5 rG T5 ((E2.trans E4).trans E5)
  | succ N ih=>
   intro m h2 OB T2 o2 E2
   unfold TN.gJ
   have jn:m<x.kids.length:=by omega
   refine bQ (by omega) ((o2.row (A:=fun _=>True) fun _ _=>trivial).bn jn rfl fun q hA=>Fx hA fun _=>?_)
   obtain⟨j,z,ej,iJ,KJ⟩:=(G.lq i x _ hx).1 (List.getElem_mem jn)
   have fY:=dv iJ
   obtain⟨lb,lc,vt,o,yl⟩:=T2.ex
   have hll:(eX ns (x.kids.take m) p).length=ns.length:=hX
   have dk:(j:Int) ∉ x.kids.take m:=fun AW=>by
    rw[<-ej] at AW
    obtain⟨q,hq,e⟩:=List.getElem_of_mem AW
    rw[List.length_take] at hq
    rw[List.getElem_take] at e
    have:=(List.getElem_inj jY).1 e
    omega
   rw[ej]
   refine aa ⟨_,_,_,vt.cell 0 rfl,?_⟩
   rw[hll]
   have o':=o
   rw[hll] at o'
   refine o'.row.bn (i:=j) (by omega) rfl fun q2 sA=>zx sA (aa ?_)
   have TP:ct[j]? =some (ct[j]'(by omega)):=List.getElem?_eq_getElem (by omega)
   have hzj:(eX ns (x.kids.take m) p)[j]? =some z:=by rw[eu iJ,if_neg dk]
   have Nj:=T2.nodes j z _ hzj TP
   rw[ep]
   refine KK T2 TP hzj (jt (by omega) (by omega)) fun h3 T3 E3 k3=>⟨jt (by omega) (by omega),?_⟩
   rw[uL iJ dk,<-ej,show x.kids.take m++ [x.kids[m]]=x.kids.take (m+1) by rw[List.take_add_one,List.getElem?_eq_getElem jn];rfl] at T3
   have:=ih (m+1) h3 (by omega) T3 (o2.keep k3.w fun q e e3=>by
    have h1:=oV q e
    have h2:=Nj.col
    rw[<-e3,h1] at h2
    have:=(Prod.mk.inj (Option.some.inj h2)).2;omega) (E2.trans E3)
   rw[ep] at this
   exact this
 exact key kn 0 h1 (by omega) (by rw[List.take_zero,wT];exact T1) ok1 (Ext.kb k1)
end
section
variable {h h':H} {K:KV} {col col':cd} {s i p:Nat} {t a:Addr} {ns:List ay} {x y:ay} {lb:OA} {lc:Nat} {rs:List jR} {r:jR}
theorem O1 (hx:ns[i]? =some x) (hy:ns[p]? =some y) (bI:i≠p) (RN:(i:Int) ∉ x.kids) (TO:(p:Int) ∉ x.kids):
  (eX (ns.set i {x with kids:=[]}) x.kids p).set p {y with kids:=y.kids++x.kids}=iS ns i p x.kids y.kids:=by
 have bM:=dv hx
 have qB:=dv hy
 refine List.ext_getElem? fun j=>?_
 by_cases e2:p=j
 ·subst e2
  rw[List.getElem?_set_self (by rw[hX,List.length_set];exact qB),dg hy,if_neg TO,if_neg (Ne.symm bI),if_pos rfl]
 ·rw[List.getElem?_set_ne e2]
  by_cases e:i=j
  ·subst e
   rw[eu (List.getElem?_set_self bM),if_neg RN,dg hx,if_neg RN,if_pos rfl]
  ·cases hj:ns[j]? with
   | none=>
    rw[List.getElem?_eq_none (by rw[hX,List.length_set];exact List.getElem?_eq_none_iff.1 hj),List.getElem?_eq_none (by rw[hU];exact List.getElem?_eq_none_iff.1 hj)]
   | some z=>
    rw[eu (z:=z) (by rw[List.getElem?_set_ne e];exact hj),dg hj,if_neg (Ne.symm e),if_neg (Ne.symm e2)]
    by_cases AW:(j:Int) ∈ x.kids
    ·rw[if_pos AW,if_pos AW]
    ·rw[if_neg AW,if_neg AW]
theorem TQ (T:dD h col s t ns) (G:aV ns) {f dst:Int} (hk:∀h' col',dD h' col' s t (dn ns f dst).1->Ext s h col h' col'->K (.bool (dn ns f dst).2) h'):
  zC 230 [.pointer (some t),.int .i64 f,.int .i64 dst] h K:=by
 have no:¬((0<=f/\f<ns.length)/\dU ns dst=true/\(((ns[f.toNat]?).map (·.kids)).getD [])≠ []/\cm ns dst f=false)->K (.bool false) h:=fun hn=>by
  have:dn ns f dst=(ns,false):=by unfold dn;rw[if_neg hn]
  rw[this] at hk
  exact hk h col T (Ext.refl _ _ _)
 refine N9.ok _ _ _ _ _ (lM T (ag (aR (fun hid=>?_) fun hid=>vV T (ag (aR (fun _=>no fun hy=>of_decide_eq_false hid hy.1) fun _=>no fun hy=>of_decide_eq_false hid hy.1)))))
 refine vV T (ag (aR (fun hh=>?_) fun hh=>no fun hy=>by rw[hh] at hy;cases hy.2.1))
 have hid:=of_decide_eq_true hid
 obtain⟨p,y,ep,hy,mK⟩:=iR hh
 obtain⟨i,ei⟩:=Int.eq_ofNat_of_zero_le hid.1
 have ei:f=(i:Int):=ei
 have qB:=dv hy
 have bM:i<ns.length:=by omega
 have hx:ns[i]? =some (ns[i]'bM):=List.getElem?_eq_getElem bM
 generalize ns[i]'bM=x at hx
 have e1:f.toNat=i:=by rw[ei];exact Int.toNat_natCast i
 have e2:dst.toNat=p:=by rw[ep];exact Int.toNat_natCast p
 rw[e1,hx] at no
 have It:=T.nh
 have T0:=T
 obtain⟨lb,lc,rs,C,em⟩:=T
 obtain⟨q,hq,rfl⟩:=fx em hx
 have N:=C.nodes i q hq
 have dJ:=N.ok.len
 have hkcp:=N.ok.own.cap
 have Ig:=hk
 rw[ei] at no ⊢
 refine aF (aF (iy C hq fun a hc=>⟨_,_,_,hc 7 _ rfl,bh (fun e=>no (fun hh=>hh.2.2.1 (List.eq_nil_of_length_eq_zero (by show q.x.kids.length=0;omega)))) fun e=>CX T0 G (by omega) (ag (aR (fun e=>no (fun hh=>by rw[e] at hh;cases hh.2.2.2)) fun hw=>aE (iy C hq fun a2 nG=>⟨_,_,_,nG 7 _ rfl,?_⟩)))⟩))
 have hm:dn ns f dst=(iS ns i p q.x.kids y.kids,true):=by
  unfold dn
  rw[e1,e2,hx,hy]
  rw[if_pos ⟨by omega,hh,fun h0=>by have h0:q.x.kids=[]:=h0;rw[h0] at dJ;simp at dJ;omega,by rw[ei];exact hw⟩]
  rfl
 rw[hm] at hk
 have Ev:¬ou ns dst (i:Int):=fun hh=>by
  unfold cm at hw
  rw[@decide_eq_true (ou ns dst (i:Int)) (Classical.propDecidable _) hh] at hw;cases hw
 have bI:i≠p:=fun e=>Ev (by rw[ep,<-e];exact dw.2 (.inl rfl))
 have RN:(i:Int) ∉ q.x.kids:=fun h=>by
  obtain⟨m,w,e,uK,Yp⟩:=(G.lq i _ _ hx).1 h
  have:m=i:=by omega
  subst this
  rw[hx] at uK;cases uK
  exact G.tW hx Yp rfl
 have TO:(p:Int) ∉ q.x.kids:=fun h=>by
  obtain⟨m,w,e,uK,Yp⟩:=(G.lq i _ _ hx).1 h
  have:m=p:=by omega
  subst this
  exact Ev (by rw[ep];exact dw.2 (.inr (by rw[eY uK,Yp];exact dw.2 (.inl rfl))))
 have lW:=G.nh hx
 have hfy:=G.nh hy
 have jY:=G.nodup i _ hx
 have Yo:q.x.kids.length+y.kids.length<=1000000:=by
  have Gm:=G.move hx hy (by rw[<-ep];exact Ev)
  have h1:=Gm.nh (dg hy)
  have h1:(if p=i then [] else if p=p then y.kids++q.x.kids else y.kids).length<=_:=h1
  rw[if_neg (Ne.symm bI),if_pos rfl,List.length_append,hU] at h1
  omega
 refine aa ⟨_,_,_,C.v.cell 0 rfl,sM C hq (dW.refl h q.kb) (fG.none h) (fun q e=>by cases e) fun h1 Cz C1 E1 k1=>⟨q.kn+1,?_⟩⟩
 have T1:dD h1 Cz s t (ns.set i {q.x with kids:=[]}):=⟨_,_,_,C1,map_set em⟩
 have ok1:fG h1 q.kb q.kn q.kc q.x.kids:=N.ok.keep k1.w fun z e=>⟨N.ok.hi z e,fun e2=>by
  have h1:=N.oV z e;rw[e2] at h1;have:=(Prod.mk.inj (Option.some.inj h1)).2;omega⟩
 have B9:∀z,q.kb=some z->Cz z.block=some (s,2*i+3):=fun z e=>by rw[E1.cl _ (N.ok.hi z e)];exact N.oV z e
 have KL:(ns.set i {q.x with kids:=[]}).length=ns.length:=List.length_set
 clear Ig C1 k1
 have key:∀N' m h2,m+N'=q.kn->dD h2 Cz s t (eX (ns.set i {q.x with kids:=[]}) (q.x.kids.take m) p)->fG h2 q.kb q.kn q.kc q.x.kids->Ext s h col h2 Cz->
   N9.GZ (fun z0 z2 Fy Fz FA h=>N9.sg z0 z2 Fy Fz FA (fun y6 h=>K (.bool y6) h) (fun y6 h=>K (.bool y6) h) h) (fun z0 z2 Fy Fz FA h=>N9.sg z0 z2 Fy Fz FA (fun y6 h=>K (.bool y6) h) (fun y6 h=>K (.bool y6) h) h) (fun y6 h=>K (.bool y6) h) (N'+1) (some t) dst q.kb q.kn q.kc (m:Int) h2:=by
  intro N'
  induction N' with
  | zero=>
   intro m h2 OB T2 o2 E2
   unfold N9.GZ
   refine bX (by omega) ?_
   rw[List.take_of_length_le (by omega)] at T2
   have Xc:(eX (ns.set i {q.x with kids:=[]}) q.x.kids p)[p]? =some y:=by rw[eu (z:=y) (by rw[List.getElem?_set_ne bI];exact hy),if_neg TO]
   obtain⟨lb2,lc2,rs2,C2,em2⟩:=T2
   obtain⟨qp,TR,eqp⟩:=fx em2 Xc
   have Np:=C2.nodes p qp TR
   have hlp:=Np.ok.len
   rw[eqp] at hlp
   have fin:∀b3 c3 h3,fG h3 b3 (qp.kn+q.kn) c3 (qp.x.kids++q.x.kids)->dW h2 h3 qp.kb->Fv h2 qp.kb b3->(0<=(p:Int)/\(p:Int)<(rs2.length:Int))/\ae lb2 fun a=>aZ ((a.add (Int.toNat (p:Int)*8)).add 7) [.slice b3 (qp.kn+q.kn) c3] 0 h3 fun h'=>K (.bool true) h':=fun b3 c3 h3 o3 g3 nb=>by
    refine sM C2 TR g3 o3 nb fun h4 fO C4 E4 _=>?_
    have em4:=map_set (i:=p) (r':=⟨{qp.x with kids:=qp.x.kids++q.x.kids},qp.ab,qp.an,qp.ac,b3,qp.kn+q.kn,c3⟩) em2
    have T4:dD h4 fO s t _:=⟨_,_,_,C4,em4⟩
    rw[show(({qp.x with kids:=qp.x.kids++q.x.kids}:ay))={y with kids:=y.kids++q.x.kids} by rw[eqp],O1 hx hy bI RN TO] at T4
    exact hk h4 fO T4 (E2.trans E4)
   rw[ep]
   have ht:=C2.v.lt
   have far:∀h3,dW h2 h3 qp.kb->Var h3 t 118 [.slice lb2 rs2.length lc2]:=fun h3 g=>C2.v.keep g.keep.w ⟨ht,fun z e e2=>by
    have h1:=Np.oV z e;rw[e2,C2.kH] at h1;have:=(Prod.mk.inj (Option.some.inj h1)).2;omega⟩
   refine⟨aa (iy C2 TR fun a3 B7=>⟨_,_,_,B7 7 _ rfl,Fu Np.ok o2 (by omega) fun b3 c3 h3 o3 g3 nb=>aC ⟨_,_,_,(far h3 g3).cell 0 rfl,fin b3 c3 h3 o3 g3 nb⟩⟩),aa ⟨_,_,_,C2.v.cell 0 rfl,iy C2 TR fun a3 B7=>⟨_,_,_,B7 7 _ rfl,Fu Np.ok o2 (by omega) fun b3 c3 h3 o3 g3 nb=>aC (fin b3 c3 h3 o3 g3 nb)⟩⟩⟩
  | succ N' ih=>
   intro m h2 OB T2 o2 E2
   unfold N9.GZ
   have jn:m<q.x.kids.length:=by omega
   obtain⟨j,z,ej,iJ,KJ⟩:=(G.lq i _ _ hx).1 (List.getElem_mem jn)
   have fY:=dv iJ
   have O2:j≠i:=fun e=>RN (by rw[<-e,<-ej];exact List.getElem_mem jn)
   have hz0:(ns.set i {q.x with kids:=[]})[j]? =some z:=by rw[List.getElem?_set_ne (Ne.symm O2)];exact iJ
   have dk:(j:Int) ∉ q.x.kids.take m:=fun AW=>by
    rw[<-ej] at AW
    obtain⟨v,hv,e⟩:=List.getElem_of_mem AW
    rw[List.length_take] at hv
    rw[List.getElem_take] at e
    have:=(List.getElem_inj jY).1 e
    omega
   have hzj:(eX (ns.set i {q.x with kids:=[]}) (q.x.kids.take m) p)[j]? =some z:=by rw[eu hz0,if_neg dk]
   have st:=AX T2 hzj (q:=(p:Int)) (jt (by omega) (by omega)) (Q:=fun Iv=>bc .i64 ((m:Int)+(1:Int))/\(N9.GZ (fun z0 z2 Fy Fz FA h=>N9.sg z0 z2 Fy Fz FA (fun y6 h=>K (.bool y6) h) (fun y6 h=>K (.bool y6) h) h) (fun z0 z2 Fy Fz FA h=>N9.sg z0 z2 Fy Fz FA (fun y6 h=>K (.bool y6) h) (fun y6 h=>K (.bool y6) h) h) (fun y6 h=>K (.bool y6) h) (N'+1) (some t) dst q.kb q.kn q.kc ((m:Int)+(1:Int)) Iv)) fun h3 T3 E3 k3=>⟨jt (by omega) (by omega),by
    rw[uL hz0 dk,<-ej,show q.x.kids.take m++ [q.x.kids[m]]=q.x.kids.take (m+1) by rw[List.take_add_one,List.getElem?_eq_getElem jn];rfl] at T3
    exact ih (m+1) h3 (by omega) T3 (o2.keep k3.w fun z e e3=>by
     have h1:=B9 z e;rw[e3] at h1;have:=(Prod.mk.inj (Option.some.inj h1)).2;omega) (E2.trans E3)⟩
   obtain⟨b,n,c,oy,jO⟩:=st
   refine bQ (by omega) (aa ⟨b,n,c,oy,(o2.row (A:=fun _=>True) fun _ _=>trivial).bn jn rfl fun q hA=>Fx hA fun _=>?_⟩)
   rw[ej,ep]
   rw[ep] at jO
   exact jO
 exact key q.kn 0 h1 (by omega) (by rw[List.take_zero,wT];exact T1) ok1 E1
end
theorem Iw {ns:List ay} (B:gT ns) (id:Int):oB ns id=Go.Proofs.bg ns id:=by
 unfold oB
 by_cases h:id=0
 ·rw[if_pos h]
  subst h
  rcases wU (ns:=ns) 0 with ⟨z,hz,e⟩ | e
  ·rw[e]
   have hk:=B.root z hz
   unfold bG
   rw[if_neg (by omega),if_neg (by omega)]
   rfl
  ·rw[e]
 ·rw[if_neg h]
section
variable {A B:Nat->Prop} {h h':H} {K:KV} {col col':cd} {w t:Addr} {m:WM} {nm:Bs} {u v x ty hi':Nat} {hi:Int} {fo:Bool} {op:List aP} {mk:List aS} {ns:List ay} {b:OA} {n c:Nat}
theorem GQ (T:dD h col 1 t ns) (W:bs h col 3 ty w t op mk fo hi) (B:gT ns) (lW:ns.length<1000000) {id:Int} (hk:∀h' col',dD h' col' 1 t (bg ns id).1->bs h' col' 3 ty w t op mk fo hi->al RS h col h' col'->K (.int .i64 (bg ns id).2) h'):
  zC 229 [.pointer (some t),.int .i64 id] h K:=
 TS T lW (by rw[Iw B];exact fun h' c' T' E'=>hk h' c' T' (W.ext (S:=fun s=>s=1) (E'.p rfl) (by decide)) (E'.p (.inl rfl)))
theorem Fe (T:dD h col 1 t ns) (W:bs h col 3 ty w t op mk fo hi) (G:aV ns) {q b i:Int} (hk:∀h' col',dD h' col' 1 t (cV ns q b i).1->bs h' col' 3 ty w t op mk fo hi->al RS h col h' col'->K (.bool (cV ns q b i).2) h'):
  zC 104 [.pointer (some t),.int .i64 q,.int .i64 b,.int .i64 i] h K:=
 GS T G fun h' c' T' E'=>hk h' c' T' (W.ext (S:=fun s=>s=1) (E'.p rfl) (by decide)) (E'.p (.inl rfl))
theorem OI (T:dD h col 1 t ns) (W:bs h col 3 ty w t op mk fo hi) (G:aV ns) {f d:Int} (hk:∀h' col',dD h' col' 1 t (dn ns f d).1->bs h' col' 3 ty w t op mk fo hi->al RS h col h' col'->K (.bool (dn ns f d).2) h'):
  zC 230 [.pointer (some t),.int .i64 f,.int .i64 d] h K:=
 TQ T G fun h' c' T' E'=>hk h' c' T' (W.ext (S:=fun s=>s=1) (E'.p rfl) (by decide)) (E'.p (.inl rfl))
theorem pc {α:Type} {E:El α} {tt e by':Nat} {P:Program} (ap:oG P E tt e by') {base:Nat} {h1:H} {sb rb:OA} {n1 c1 n cc:Nat} {l1 l:List α} {xs:List Value} (o:bN E A h1 base e sb n1 c1 l1) (hA:∀k,A k->k<base) (k1:KB h h1) (hb0:h.size<=base) (hb1:base<=h1.size)
  (he:eG E A h l xs) (Xx:∀k,A k->k<h.size) (hc:Cells h rb xs) (hl:l.length=n) {lo:Nat} (jZ:lo<=n) (Xd:n<=cc) (hn:n1+n<=100000000) (zk:(n1+(n - lo))*by'<=140737488355328) {K:KV}
  (hk:∀b' c' h',bN E A h' base e b' (n1+(n - lo)) c' (l1++l.drop lo)->KB h h'->K (.slice b' (n1+(n - lo)) c') h'):
  bf P (Builtin.append_ #[tt,tt] tt ⟨[.slice sb n1 c1,.slice (if cc=lo then rb else Option.map (fun q=>q.add (lo*E.sz)) rb) (n - lo) (cc - lo)]⟩) h1 K:=by
 have wV:xs.length=n*E.sz:=by rw[he.len,hl]
 have hcd:=Cells.drop (c:=cc) (lo:=lo) (z:=E.sz) hc (fun e=>List.drop_of_length_le (by
  rw[wV]
  have h2:n=lo:=by omega
  rw[h2];exact Nat.le_refl _))
 have hed:=he.drop lo
 refine bN.append ap o hA (l2:=l.drop lo) (by rw[List.length_drop,hl]) (hed.keep ((KB.w k1).less fun k hk=>hk.2) fun _ h _=>h) (fun j u hu=>by
  obtain⟨q,e,ec⟩:=hcd j u hu
  exact⟨q,e,(KB.w k1).cell (fS ec) ec⟩) (by simp only[maxLen];omega) zk hb1 fun b4 c4 h4 o4 g4=>hk b4 c4 h4 o4 (g4.vN k1 fun q e=>Nat.le_trans hb0 (o.lo q e))
theorem o0 {α:Type} {E:El α} {tt e by':Nat} {P:Program} (ap:oG P E tt e by') {rb:OA} {n:Nat} {l:List α} {xs:List Value} (he:eG E A h l xs) (Xx:∀k,A k->k<h.size) (hc:Cells h rb xs) (hl:l.length=n) {hi cc:Nat} (hhi:hi<=n) (hn:n<=100000000) (zk:hi*by'<=140737488355328) {K:KV}
  (hk:∀b' c' h',bN E A h' h.size e b' hi c' (l.take hi)->KB h h'->K (.slice b' hi c') h'):
  bf P (Builtin.append_ #[tt,tt] tt ⟨[.slice none 0 0,.slice rb hi cc]⟩) h K:=by
 refine bN.append ap (bN.none A h h.size e) Xx (l2:=l.take hi) (by rw[List.length_take];omega) (he.take hi) (hc.take _) (by simp only[maxLen];omega) (by rw[Nat.zero_add];exact zk) (Nat.le_refl _) fun b1 c1 h1 o1 g1=>?_
 rw[Nat.zero_add] at o1 ⊢
 rw[List.nil_append] at o1
 exact hk b1 c1 h1 o1 (g1.vN (KB.refl h) fun q e=>by cases e)
theorem yL {xs:List Value} {l:List aS} (hx:eG aY A h l xs) (Et:Cells h b xs) (hA:∀k,A k->k<h.size) (hl:l.length=n) (Xd:n<=c) {k:Nat} (dJ:k<n) (hn:n<=1000000)
  (hk:∀b' n' c' h',bN aY A h' h.size 79 b' n' c' (l.eraseIdx k)->KB h h'->K (.slice b' n' c') h'):zC 209 [.slice b n c,.int .i64 (k:Int)] h K:=by
 refine Xe2.ok _ _ _ _ _ _ ⟨⟨by omega,by omega,by omega⟩,?_⟩
 rw[qN]
 have e1:Int.toNat (k:Int) - Int.toNat (0:Int)=k:=by rw[Int.toNat_natCast];rfl
 rw[e1]
 refine o0 cZ hx hA Et hl (hi:=k) (by omega) (by omega) (by omega) fun b1 c1 h1 o1 k1=>aC ⟨aG (by omega) (by omega),⟨by omega,by omega,by omega⟩,?_⟩
 have e2:((k:Int)+(1:Int))=((k+1:Nat):Int):=rfl
 rw[e2,Int.toNat_natCast,Int.toNat_natCast]
 refine pc cZ (lo:=k+1) o1 hA k1 (Nat.le_refl _) k1.1 hx hA Et hl (by omega) Xd (by omega) (by omega) fun b2 c2 h2 o2 k2=>aC ?_
 rw[<-List.eraseIdx_eq_take_drop_succ] at o2
 exact hk b2 _ c2 h2 o2 k2
theorem qd (p:RW h col w m) {k:Nat} (dJ:k<m.aD.length) (jn:m.aD.length<=1000000) {Q:H->Prop} (hk:∀h' col',RW h' col' w (bW m k)->al RS h col h' col'->Q h'):
  ae (some w) fun a=>∃b n c,cell h (a.add 2)=some (.slice b n c)/\(zC 209 [.slice b n c,.int .i64 (k:Int)] h fun v h1=>aA v fun b n c=>ae (some w) fun a=>aZ (a.add 2) [.slice b n c] 0 h1 fun h2=>Q h2):=by
 obtain⟨t,T,W⟩:=p.ex
 obtain⟨ob,oc,mb,mn,mc,v,o,om⟩:=W.ex
 obtain⟨xs,he,hc,_⟩:=om.parts
 have hl:=om.len
 refine aa ⟨_,_,_,v.cell 2 rfl,yL he hc (fun k hk=>hk.2) hl om.cap.1 (by omega) (by omega) fun b1 n1 c1 h1 o1 k1=>aC (aa ?_)⟩
 exact dZ W p.fresh k1 o1 fun h2 W2 E2 f2 _=>hk h2 _ ⟨t,T.cJ (Z:=fun k=>k=3) (by decide) E2 f2,W2⟩ (E2.mono fun s hs=>.inr hs)
theorem CA (p:RW h col w m) (eH:m.op.length<=1000000) {i:Nat} (bM:i<m.op.length) {y:aP} (hy:gN y) (hk:∀h' col',RW h' col' w {m with op:=cQ m.op (i+1) y}->al RS h col h' col'->K (.tuple ⟨[]⟩) h'):
  zC 231 [.pointer (some w),.int .i64 (i:Int),.agg ⟨aX y⟩] h K:=by
 obtain⟨t,T,W⟩:=p.ex
 refine Xey.ok _ _ _ _ _ _ _ _ (af fun a1 h1 v1 k1 e1 s1=>aa ?_)
 have v1:Var h1 a1 77 (aX y):=v1
 obtain⟨ob,oc,mb,mn,mc,v,o,om⟩:=(W.kb k1).ex
 have f1:=p.fresh.kb k1
 obtain⟨xs,he0,hc,_⟩:=o.parts
 have he:eG bp vm h1 m.op xs:=eG.flat kI he0
 have hA:∀k,vm k->k<h1.size:=fun k hk=>absurd hk id
 have hcap:=o.cap
 have e2:((i:Int)+(1:Int))=((i+1:Nat):Int):=rfl
 refine⟨_,_,_,v.cell 1 rfl,aG (by omega) (by omega),⟨by omega,by omega,by omega⟩,?_⟩
 rw[qN,e2]
 have e1:Int.toNat ((i+1:Nat):Int) - Int.toNat (0:Int)=i+1:=by rw[Int.toNat_natCast];rfl
 rw[e1]
 refine o0 iz he hA hc rfl (hi:=i+1) (by omega) (by omega) (by omega) fun b2 c2 h2 o2 k2=>aC ?_
 have v12:=v1.kb k2
 refine⟨_,v12.cell 0 rfl,_,v12.cell 1 rfl,_,v12.cell 2 rfl,_,v12.cell 3 rfl,af fun a12 h3 v3 k3 e3 s3=>?_⟩
 have fX:=k2.trans k3
 refine bN.sE iz (x:=y) (cs:=aX y) (o2.kb k3) hA v3 (Yq hy) (by simp only[maxLen];omega) (by omega) fX.1 fun b4 c4 h4 o4 g4=>aC (aa ?_)
 have ov:KB h1 h4:=g4.vN fX o2.lo
 refine⟨_,_,_,(v.kb ov).cell 1 rfl,aG (by omega) (by omega),⟨by omega,by omega,by omega⟩,?_⟩
 rw[Int.toNat_natCast,Int.toNat_natCast]
 refine pc iz (lo:=i+1) o4 hA ov (Nat.le_refl _) ov.1 he hA hc rfl (by omega) hcap.1 (by omega) (by omega) fun b5 c5 h5 o5 k5=>aC (aa ?_)
 have el:m.op.take (i+1)++ [y]++m.op.drop (i+1)=cQ m.op (i+1) y:=by unfold cQ;rw[List.append_assoc];rfl
 rw[el] at o5
 have rB:i+1+1+(m.op.length - (i+1))=(cQ m.op (i+1) y).length:=by rw[vW];omega
 rw[rB] at o5 ⊢
 refine tX (W.kb k1) f1 k5 o5 fun h6 W6 E6 f6 _=>hk h6 _ ⟨t,(T.kb k1).cJ (Z:=fun k=>k=3) (by decide) E6 f6,W6⟩ ((al.kb k1).trans (E6.mono fun s hs=>.inr hs))
end
abbrev TT (a b:aS):Prop:=0<=a.1->a.1≠b.1
def MI (l:List aS) (N:Nat):Prop:=l.Pairwise TT/\∀y ∈ l,y.1<(N:Int)
theorem TU {l:List aS} (hn:l.Pairwise TT) {k:Nat} {y:aS} (hy:∀z ∈ l,z.1≠y.1):(l.set k y).Pairwise TT:=by
 induction l generalizing k with
 | nil=>exact hn
 | cons a l ih=>
  rw[List.pairwise_cons] at hn
  cases k with
  | zero=>
   rw[List.set_cons_zero,List.pairwise_cons]
   exact⟨fun z hz _ e=>hy z (by simp[hz]) e.symm,hn.2⟩
  | succ k=>
   rw[List.set_cons_succ,List.pairwise_cons]
   refine⟨fun z hz=>?_,ih hn.2 fun z hz=>hy z (by simp[hz])⟩
   rcases List.mem_or_eq_of_mem_set hz with h | h
   ·exact hn.1 z h
   ·subst h;exact fun _=>hy a (by simp)
section
variable {l:List aS} {N N':Nat}
theorem MI.nil (N:Nat):MI [] N:=⟨.nil,fun y h=>nomatch h⟩
theorem MI.mono (M:MI l N) (h:N<=N'):MI l N':=⟨M.1,fun y hy=>by have:=M.2 y hy;omega⟩
theorem MI.sub {l':List aS} (M:MI l N) (h:l'.Sublist l):MI l' N:=⟨M.1.sublist h,fun y hy=>M.2 y (h.subset hy)⟩
theorem MI.erase (M:MI l N) (k:Nat):MI (l.eraseIdx k) N:=M.sub (List.eraseIdx_sublist _ _)
theorem MI.fresh (M:MI l N) {z:Bs × List bx}:∀y ∈ l,y.1≠((N:Int),z).1:=fun y hy e=>by
 have:=M.2 y hy
 have e:y.1=(N:Int):=e
 omega
theorem MI.set (M:MI l N) (k:Nat) (z:Bs × List bx):MI (l.set k ((N:Int),z)) (N+1):=⟨TU M.1 M.fresh,fun y hy=>by
 rcases List.mem_or_eq_of_mem_set hy with h | h
 ·have:=M.2 y h;omega
 ·subst h;show(N:Int)<((N+1:Nat):Int);omega⟩
theorem MI.Yr (M:MI l N) (k:Nat) {y:aS} (hy:∀z ∈ l,TT z y/\TT y z) (hN:N<=N') (h2:y.1<(N':Int)):MI (cQ l k y) N':=by
 have hl:l.take k++l.drop k=l:=List.take_append_drop _ _
 have hp:=M.1
 rw[<-hl,List.pairwise_append] at hp
 refine⟨?_,fun z hz=>?_⟩
 ·unfold cQ
  rw[List.pairwise_append,List.pairwise_cons]
  refine⟨hp.1,⟨fun z hz=>(hy z (List.mem_of_mem_drop hz)).2,hp.2.1⟩,fun a ha b hb=>?_⟩
  rcases List.mem_cons.1 hb with h | h
  ·subst h;exact(hy a (List.mem_of_mem_take ha)).1
  ·exact hp.2.2 a ha b h
 ·rcases sN hz with h | h
  ·have:=M.2 z h;omega
  ·subst h;exact h2
theorem MI.ins (M:MI l N) (k:Nat) (z:Bs × List bx):MI (cQ l k ((N:Int),z)) (N+1):=
 M.Yr k (fun y hy=>⟨fun _=>M.fresh y hy,fun _ e=>M.fresh y hy e.symm⟩) (Nat.le_succ _) (by show(N:Int)<((N+1:Nat):Int);omega)
theorem MI.app (M:MI l N) {y:aS} (hy:∀z ∈ l,TT z y/\TT y z) (hN:N<=N') (h2:y.1<(N':Int)):MI (l++ [y]) N':=by
 have:=M.Yr l.length hy hN h2
 unfold cQ at this
 rwa[List.take_length,List.drop_length] at this
theorem MI.push (M:MI l N) (z:Bs × List bx):MI (fp l ((N:Int),z)) (N+1):=by
 have app:∀l',MI l' N->MI (l'++ [((N:Int),z)]) (N+1):=fun l' M'=>M'.app (fun y hy=>⟨fun _=>M'.fresh y hy,fun _ e=>M'.fresh y hy e.symm⟩) (Nat.le_succ _) (by show(N:Int)<((N+1:Nat):Int);omega)
 unfold fp
 split
 ·exact app _ M
 ·exact app _ (M.erase _)
theorem MI.wK (M:MI l N) (h0:0<N):MI (fp l (-1,[],[])) N:=by
 have e:fp l (-1,[],[])=l++ [(-1,[],[])]:=by unfold fp cM;rfl
 rw[e]
 refine M.app (fun z hz=>⟨fun h e=>?_,fun h=>absurd h (by decide)⟩) (Nat.le_refl _) (by show(-1:Int)<(N:Int);omega)
 have e:z.1= -1:=e
 omega
theorem MI.find (M:MI l N) {k:Nat} (hk:k<l.length) (h0:0<=l[k].1):br l l[k].1=(k:Int):=by
 have h1:=(pZ h0).2 ⟨l[k],List.getElem_mem hk,rfl⟩
 obtain⟨_,hi,e⟩:=gp h1
 have hp:=List.pairwise_iff_getElem.1 M.1
 have:(br l l[k].1).toNat=k:=by
  rcases Nat.lt_trichotomy (br l l[k].1).toNat k with h | h | h
  ·exact absurd e (hp _ _ hi hk h (by rw[e];exact h0))
  ·exact h
  ·exact absurd e.symm (hp _ _ hk hi h h0)
 omega
end
def MW (m:WM):Prop:=MI m.aD m.ns.length
section
variable {m:WM} {u v x j b q:Nat} {f blk:Int}
theorem MW.tree (M:MW m) {m':WM} (hm:m'.aD=m.aD) (hl:m.ns.length<=m'.ns.length):MW m':=by
 unfold MW
 rw[hm]
 exact MI.mono M hl
theorem MW.bW (M:MW m) (k:Nat):MW (bW m k):=MI.erase M k
theorem MW.close (M:MW m) (n:Int):MW (cX m n):=M
theorem MW.drop (M:MW m) (id:Int):MW (gC m id):=M
theorem MW.insert (M:MW m) (G:aV m.ns) (sp:Int) (nm:Bs) (gB:List bx):MW (bt m sp nm gB):=M.tree rfl (by rw[ic G];omega)
theorem MW.write (M:MW m) (G:aV m.ns) (tx:Bs):MW (gb m tx):=M.tree rfl (wW G _ _ _)
theorem MW.G0 (blk:Int):∀(q n:Nat) {m:WM} {u v x b:Nat} (last:Int),CI m u v x f j b q->MW m->MW (dQ blk f q n m last b).1
 | 0,n,m,u,v,x,b,last,C,M=>absurd C.hj (by omega)
 | q+1,n,m,u,v,x,b,last,C,M=>by
  have hq:q<m.op.length:=by have:=C.hq;omega
  unfold dQ
  simp only[]
  by_cases hf:(m.op.getD q aI).1=f
  ·rw[if_pos hf];exact M
  ·rw[if_neg hf]
   by_cases h1:0<=br m.aD (m.op.getD q aI).1/\n<3
   ·rw[if_pos h1]
    have C2:=C.copy hf h1.1 last (b':=if last=blk then(br m.aD (m.op.getD q aI).1).toNat+1 else b) (by split;exact .inl rfl;exact .inr rfl)
    refine MW.G0 blk q (n+1) _ C2 ?_
    have eg:m.op.getD q aI=m.op[q]:=aJ hq
    obtain⟨A1,ec,hcl,_⟩:=C.A.copy (List.getElem_mem hq) (C.A.OH hq (C.pos hf))
    rw[<-eg] at A1 ec hcl
    unfold MW
    show MI (m.aD.set _ ((bg m.ns (m.op.getD q aI).1).2,_)) (cV (bg m.ns (m.op.getD q aI).1).1 _ _ _).1.length
    rw[fy A1.D.G,hcl,ec]
    exact MI.set M _ _
   ·rw[if_neg h1]
    by_cases h2:0<=br m.aD (m.op.getD q aI).1
    ·rw[if_pos h2]
     have C1:=C.bW hf h2
     exact MW.G0 blk q (n+1) last (C1.uI hf) (M.bW _)
    ·rw[if_neg h2]
     exact MW.G0 blk q (n+1) last (C.uI hf) M
theorem MW.renew (M:MW m) (C:CI m u v x f j b q):MW (ny m f blk b):=by
 have fY:j<m.op.length:=Nat.lt_of_lt_of_le C.hj C.hq
 have eg:m.op.getD j aI=m.op[j]:=aJ fY
 have tG:m.op[j].1=f:=by have:=C.hf;rwa[eg] at this
 obtain⟨A1,ec,hcl,_⟩:=C.A.copy (List.getElem_mem fY) (C.A.OH fY C.h0)
 rw[tG] at A1 ec hcl
 have A2:=A1.move blk (bg m.ns f).2
 unfold MW ny
 show MI (cQ _ _ ((bg m.ns f).2,_)) (cV (dn (bg m.ns f).1 blk (bg m.ns f).2).1 blk (-1) (bg m.ns f).2).1.length
 rw[fy A2.D.G]
 show MI _ (dn (bg m.ns f).1 blk (bg m.ns f).2).1.length
 rw[sO,hcl,ec]
 exact MI.ins (MI.erase M _) _ _
theorem MW.over (M:MW m) (A:AI m u v x) {k:Nat} (hk:k<m.aD.length) (h0:0<=(m.aD.getD k noMark).1) (wB:0<=gm m.op (m.aD.getD k noMark).1) {n:Nat} (hn:(gm m.op (m.aD.getD k noMark).1).toNat<n) (vQ:n<m.op.length):
  MW (uD m (m.aD.getD k noMark).1 k (gm m.op (m.aD.getD k noMark).1).toNat n):=by
 have C:=A.begin hk h0 wB hn (Nat.le_of_lt vQ)
 have C2:=iQ (m.op.getD n aI).1 n 0 (m.op.getD n aI).1 C
 have M2:=MW.G0 (m.op.getD n aI).1 n 0 (m.op.getD n aI).1 C M
 obtain⟨R,hR⟩:∃R,dQ (m.op.getD n aI).1 (m.aD.getD k noMark).1 n 0 m (m.op.getD n aI).1 k=R:=⟨_,rfl⟩
 rw[hR] at C2 M2
 unfold uD
 simp only[hR]
 exact MW.renew (MW.tree M2 (m':={R.1 with ns:=_}) rfl (by show _<=(cV _ _ _ _).1.length;rw[fy C2.A.D.G];omega)) (C2.put _ _ _)
theorem MW.round (M:MW m) (A:AI m u v x) {k:Nat} (hk:k<m.aD.length) (h0:0<=(m.aD.getD k noMark).1):MW (jv m k).1:=by
 unfold jv
 simp only[]
 split
 ·exact M.bW k
 ·rename_i wB
  split
  ·exact M
  ·split
   ·exact(M.close _).bW k
   ·rename_i hs
    obtain⟨hi,_,_⟩:=fD (l:=m.op.drop ((gm m.op (m.aD.getD k noMark).1).toNat+1)) (p:=fk) (by omega)
    rw[List.length_drop] at hi
    exact M.over A hk h0 (by omega) (by omega) (by omega)
theorem MW.rounds (s:Bs):∀(r:Nat) {m:WM} {u:Nat},AI m u v x->MW m->MW (eU s r m).1
 | 0,m,u,A,M=>M
 | r+1,m,u,A,M=>by
  unfold eU
  split
  ·exact M
  ·rename_i hl
   obtain⟨k,e,hk,h0⟩:=mu (by omega:0<=fC m.aD s)
   have yi:(fC m.aD s).toNat=k:=by rw[e];rfl
   rw[yi]
   have M2:=M.round A hk h0
   split
   ·exact MW.rounds s r (A.round hk h0) M2
   ·exact M2
theorem MW.run (M:MW m) (A:AI m u v x) (s:Bs):MW (runM m s).1:=by
 unfold runM
 split
 ·exact M.close _
 ·exact MW.rounds s 8 A M
theorem MW.uG {v:Nat}:∀(k:Nat) {m:WM} {u x:Nat} (i:Nat),AI m u v x->MW m->i+k<=m.aD.length->MW (wX k m i)
 | 0,m,u,x,i,A,M,_=>M
 | k+1,m,u,x,i,A,M,Ys=>by
  have hi:i<m.aD.length:=by omega
  have hg:m.aD.getD i noMark=m.aD[i]:=aJ hi
  have hw:=A.D.mw m.aD[i] (List.getElem_mem hi)
  have h1:=A.insert 0 (nm:=(m.aD.getD i noMark).2.1) (by rw[hg];exact hw.1) (m.aD.getD i noMark).2.2
  have h2:AI {bt m 0 (m.aD.getD i noMark).2.1 (m.aD.getD i noMark).2.2 with aD:=m.aD.set i ((m.ns.length:Int),(m.aD.getD i noMark).2)} (u+1) v x:=
   ⟨⟨h1.D.G,h1.D.B,h1.D.ne,h1.D.ids,h1.D.nd,h1.D.lo,h1.D.ln,by show(m.aD.set _ _).length<=v;rw[List.length_set];exact A.D.ml,by rw[hg];exact A.D.mw.set hi _,h1.D.tx⟩,h1.root,h1.kind,fun z hz=>by
    rcases List.mem_or_eq_of_mem_set hz with h | h
    ·exact A.tI z h
    ·rw[h]
     have:=A.pos
     exact fun e=>by have e:(m.ns.length:Int)=0:=e;omega,h1.yC⟩
  have hl:(bt m 0 (m.aD.getD i noMark).2.1 (m.aD.getD i noMark).2.2).ns.length=m.ns.length+1:=ic A.D.G
  exact MW.uG k (i+1) h2 (by unfold MW;rw[hl];exact MI.set M _ _) (by show i+1+k<=(m.aD.set _ _).length;rw[List.length_set];omega)
theorem MW.vX (M:MW m) (A:AI m u v x):MW (aU m):=by
 have hr:=iT m.aD m.op m.aD.length
 have h1:(gE m.aD m.op).toNat<=m.aD.length:=by have:=hr.2;show(jA m.aD m.op m.aD.length).toNat<=_;omega
 exact MW.uG (m.aD.length - (gE m.aD m.op).toNat) (gE m.aD m.op).toNat A M (by omega)
theorem MW.zero:MW EP:=MI.nil _
end
abbrev bJ:=Int × Bs × List bx × Bool × Bs
abbrev ja:El bJ:=iv (jG .u8) (iv cL (iv (EH aW) (iv EU cL)))
abbrev ku (x:bJ) (b:OA) (n c:Nat):List Value:=[.int .u8 x.1,S x.2.1,.slice b n c,.bool x.2.2.2.1,S x.2.2.2.2]
structure ae2 (A:Nat->Prop) (h:H) (a:Addr) (x:bJ) (b:OA) (n c:Nat):Prop where
 c0:cell h (a.add 0)=some (.int .u8 x.1)
 c1:cell h (a.add 1)=some (S x.2.1)
 c2:cell h (a.add 2)=some (.slice b n c)
 c3:cell h (a.add 3)=some (.bool x.2.2.2.1)
 c4:cell h (a.add 4)=some (S x.2.2.2.2)
 row:Row aW A h b n c x.2.2.1
 nil:b=none->c=0
 rk:bc .u8 x.1
 rn:x.2.1.length<=maxLen
 rt:x.2.2.2.2.length<=maxLen
section
variable {A:Nat->Prop} {h:H} {a:Addr} {x:bJ}
theorem pk (hA:At ja A h a x):∃b n c,ae2 A h a x b n c:=by
 have h2:=hA.snd.dH (k:=2) rfl
 have h3:=h2.dH (k:=3) rfl
 obtain⟨b,n,c,e,r,hz⟩:=h2.fst.sl
 exact⟨b,n,c,hA.fst.int.1,hA.snd.fst.str.1,e,h3.fst.bool,(h3.dH (k:=4) rfl).str.1,r,hz,hA.fst.int.2,hA.snd.fst.str.2,(h3.dH (k:=4) rfl).str.2⟩
theorem XL {b:OA} {n c:Nat} (r:Row aW A h b n c x.2.2.1) (hz:b=none->c=0) (rk:bc .u8 x.1) (rn:x.2.1.length<=maxLen) (rt:x.2.2.2.2.length<=maxLen):ja.R A h x (ku x b n c):=
 ⟨[.int .u8 x.1],_,rfl,⟨rfl,rk⟩,[S x.2.1],_,rfl,⟨rfl,rn⟩,[.slice b n c],_,rfl,⟨b,n,c,rfl,r,hz⟩,[.bool x.2.2.2.1],_,rfl,rfl,rfl,rt⟩
end
def FB (a:bx):Nat:=1+a.1.length / 8+a.2.length / 8
def sP (l:List bx):Nat:=(l.map FB).sum
def Cx (x:bJ):Nat:=1+x.2.2.2.2.length / 8+x.2.1.length / 8+sP x.2.2.1
def sw (l:List bJ):Nat:=(l.map Cx).sum
theorem Ix {l:List bx} {a:bx} (h:a ∈ l):FB a<=sP l:=by
 induction l with
 | nil=>cases h
 | cons b l ih=>
  unfold sP at ih ⊢
  rw[List.map_cons,List.sum_cons]
  rcases List.mem_cons.1 h with rfl | h
  ·omega
  ·have:=ih h;omega
theorem Iy (l:List bx):l.length<=sP l:=by
 induction l with
 | nil=>exact Nat.le_refl _
 | cons b l ih=>
  unfold sP at ih ⊢
  rw[List.map_cons,List.sum_cons,List.length_cons]
  have:1<=FB b:=by unfold FB;omega
  omega
theorem iK (n:Nat):Int.tdiv (n:Int) (8:Int)=((n / 8:Nat):Int):=rfl
theorem wE {x:bJ} {m:Nat} (h:Cx x<=m):x.2.1.length<=8*m/\x.2.2.2.2.length<=8*m/\x.2.2.1.length<=m/\∀a ∈ x.2.2.1,a.1.length<=8*m/\a.2.length<=8*m:=by
 unfold Cx at h
 refine⟨by omega,by omega,by have:=Iy x.2.2.1;omega,fun a ha=>?_⟩
 have:=Ix ha
 unfold FB at this
 omega
section
variable {A:Nat->Prop} {h:H} {K:KV} {b:OA} {n c:Nat} {l:List bJ}
theorem vo {n:Int} (h1: -9223372036854775808<=n) (h2:n<=9223372036854775807):bc .i64 n:=⟨h1,h2⟩
theorem Av (R:Row ja A h b n c l) {lim:Nat} (hlim:lim<=1000000) (hk:∀v:Int,0<=v->v<=5000000000000000000->(0<n->1<=v)->(v<=lim->v=sw l)->K (.int .i64 v) h):zC 28 [.slice b n c,.int .i64 lim] h K:=by
 have hl:=R.len
 have TV:n<=maxLen:=Nat.le_trans R.cap R.max
 simp only[maxLen] at TV
 refine vp.ok _ _ _ _ _ _ ⟨n+1,?_⟩
 have key:∀N i (w:Int),i+N=n->0<=w->w<=5000000000000000000->(0<i->1<=w)->(w<=lim->w=sw (l.take i))->
   vp.fu (fun z5 h=>vp.n4 z5 (fun y4 h=>K (.int .i64 y4) h) (fun y4 h=>K (.int .i64 y4) h) h) (fun z5 h=>vp.n4 z5 (fun y4 h=>K (.int .i64 y4) h) (fun y4 h=>K (.int .i64 y4) h) h) (fun y4 h=>K (.int .i64 y4) h) (N+1) b n c (lim:Int) w (i:Int) h:=by
  intro N
  induction N with
  | zero=>
   intro i w hi w0 w1 wi hw
   refine bX (by omega) (hk w w0 w1 (fun h0=>wi (by omega)) fun hle=>?_)
   have:=hw hle
   rwa[List.take_of_length_le (by omega)] at this
  | succ N ih=>
   intro i w hi w0 w1 wi hw
   have bM:i<l.length:=by omega
   refine bQ (by omega) (bh (fun hle=>?_) fun hgt=>?_)
   ·have hw:=hw hle
    refine R.bn bM rfl fun q hA=>?_
    obtain⟨ab,an,ac,C⟩:=pk hA
    have htl:l[i].2.2.2.2.length<=9223372036854775807:=by have:=C.rt;simp only[maxLen] at this;exact this
    have Eu:l[i].2.1.length<=9223372036854775807:=by have:=C.rn;simp only[maxLen] at this;exact this
    refine⟨_,C.c4,by decide,vo (by rw[iK];omega) (by rw[iK];omega),vo (by rw[iK];omega) (by rw[iK];omega),?_⟩
    refine R.bn bM rfl fun q2 sA=>?_
    obtain⟨Rx,J8,Ry,C2⟩:=pk sA
    refine⟨_,C2.c1,by decide,vo (by rw[iK];omega) (by rw[iK];omega),vo (by rw[iK,iK];omega) (by rw[iK,iK];omega),vo (by rw[iK,iK];omega) (by rw[iK,iK];omega),?_⟩
    rw[iK,iK]
    have ew:(w+((1:Int)+((l[i].2.2.2.2.length / 8:Nat):Int)+((l[i].2.1.length / 8:Nat):Int)))=((sw (l.take i)+(1+l[i].2.2.2.2.length / 8+l[i].2.1.length / 8):Nat):Int):=by rw[hw];omega
    rw[ew]
    have OC:=C.row.len
    have ae3:an<=maxLen:=Nat.le_trans C.row.cap C.row.max
    simp only[maxLen] at ae3
    have inner:∀M j (v:Int),j+M=l[i].2.2.1.length->1<=v->v<=5000000000000000000->(v<=lim->v=((sw (l.take i)+(1+l[i].2.2.2.2.length / 8+l[i].2.1.length / 8)+sP (l[i].2.2.1.take j):Nat):Int))->
      vp.G2 (fun AY AZ A7 z1 z5 z6 h=>vp.sg AY AZ A7 z1 z5 z6 (fun AY AZ A7 z1 z5 z6 h=>vp.fu (fun z5 h=>vp.n4 z5 (fun y4 h=>K (.int .i64 y4) h) (fun y4 h=>K (.int .i64 y4) h) h) (fun z5 h=>vp.n4 z5 (fun y4 h=>K (.int .i64 y4) h) (fun y4 h=>K (.int .i64 y4) h) h) (fun y4 h=>K (.int .i64 y4) h) (N+1) AY AZ A7 z1 z5 z6 h) (fun z5 h=>vp.n4 z5 (fun y4 h=>K (.int .i64 y4) h) (fun y4 h=>K (.int .i64 y4) h) h) (fun y4 h=>K (.int .i64 y4) h) h)
       (fun AY AZ A7 z1 z5 z6 h=>vp.sg AY AZ A7 z1 z5 z6 (fun AY AZ A7 z1 z5 z6 h=>vp.fu (fun z5 h=>vp.n4 z5 (fun y4 h=>K (.int .i64 y4) h) (fun y4 h=>K (.int .i64 y4) h) h) (fun z5 h=>vp.n4 z5 (fun y4 h=>K (.int .i64 y4) h) (fun y4 h=>K (.int .i64 y4) h) h) (fun y4 h=>K (.int .i64 y4) h) (N+1) AY AZ A7 z1 z5 z6 h) (fun z5 h=>vp.n4 z5 (fun y4 h=>K (.int .i64 y4) h) (fun y4 h=>K (.int .i64 y4) h) h) (fun y4 h=>K (.int .i64 y4) h) h)
       (fun AY AZ A7 z1 z5 z6 h=>vp.sg AY AZ A7 z1 z5 z6 (fun AY AZ A7 z1 z5 z6 h=>vp.fu (fun z5 h=>vp.n4 z5 (fun y4 h=>K (.int .i64 y4) h) (fun y4 h=>K (.int .i64 y4) h) h) (fun z5 h=>vp.n4 z5 (fun y4 h=>K (.int .i64 y4) h) (fun y4 h=>K (.int .i64 y4) h) h) (fun y4 h=>K (.int .i64 y4) h) (N+1) AY AZ A7 z1 z5 z6 h) (fun z5 h=>vp.n4 z5 (fun y4 h=>K (.int .i64 y4) h) (fun y4 h=>K (.int .i64 y4) h) h) (fun y4 h=>K (.int .i64 y4) h) h)
       (fun z5 h=>vp.n4 z5 (fun y4 h=>K (.int .i64 y4) h) (fun y4 h=>K (.int .i64 y4) h) h) (fun y4 h=>K (.int .i64 y4) h) (M+1) b n c (lim:Int) v (i:Int) (j:Int) h:=by
     intro M
     have fin:∀v:Int,1<=v->v<=5000000000000000000->(v<=lim->v=((sw (l.take i)+Cx l[i]:Nat):Int))->
       bc .i64 ((i:Int)+1)/\vp.fu (fun z5 h=>vp.n4 z5 (fun y4 h=>K (.int .i64 y4) h) (fun y4 h=>K (.int .i64 y4) h) h) (fun z5 h=>vp.n4 z5 (fun y4 h=>K (.int .i64 y4) h) (fun y4 h=>K (.int .i64 y4) h) h) (fun y4 h=>K (.int .i64 y4) h) (N+1) b n c (lim:Int) v ((i:Int)+1) h:=fun v v0 v1 hv=>
      ⟨vo (by omega) (by omega),ih (i+1) v (by omega) (by omega) v1 (fun _=>v0) fun hle=>by
       rw[hv hle]
       congr 1
       rw[List.take_add_one,List.getElem?_eq_getElem bM]
       unfold sw
       rw[List.map_append,List.sum_append]
       simp⟩
     induction M with
     | zero=>
      intro j v hj v0 v1 hv
      refine R.bn bM rfl fun q3 hA3=>?_
      obtain⟨ab3,an3,ac3,C3⟩:=pk hA3
      have h3l:=C3.row.len
      refine⟨_,_,_,C3.c2,bX (by omega) (fin v v0 v1 fun hle=>?_)⟩
      rw[hv hle,List.take_of_length_le (l:=l[i].2.2.1) (i:=j) (by omega)]
      unfold Cx
      omega
     | succ M ihM=>
      intro j v hj v0 v1 hv
      have fY:j<l[i].2.2.1.length:=by omega
      refine R.bn bM rfl fun q3 hA3=>?_
      obtain⟨ab3,an3,ac3,C3⟩:=pk hA3
      have h3l:=C3.row.len
      refine⟨_,_,_,C3.c2,bQ (by omega) (bh (fun ae5=>?_) fun ae6=>fin v v0 v1 fun hle=>absurd hle ae6)⟩
      refine R.bn bM rfl fun q4 hA4=>?_
      obtain⟨ab4,an4,ac4,C4⟩:=pk hA4
      refine⟨_,_,_,C4.c2,C4.row.bn fY rfl fun q5 TW=>⟨_,TW.fst.str.1,by decide,?_⟩⟩
      have l1:l[i].2.2.1[j].1.length<=9223372036854775807:=by have:=TW.fst.str.2;simp only[maxLen] at this;exact this
      have l2:l[i].2.2.1[j].2.length<=9223372036854775807:=by have:=TW.snd.str.2;simp only[maxLen] at this;exact this
      rw[iK]
      refine⟨vo (by omega) (by omega),vo (by omega) (by omega),?_⟩
      refine R.bn bM rfl fun q6 hA6=>?_
      obtain⟨ab6,an6,ac6,C6⟩:=pk hA6
      refine⟨_,_,_,C6.c2,C6.row.bn fY rfl fun q7 hA7=>⟨_,hA7.snd.str.1,by decide,?_⟩⟩
      rw[iK]
      refine⟨vo (by omega) (by omega),vo (by omega) (by omega),vo (by omega) (by omega),vo (by omega) (by omega),ihM (j+1) _ (by omega) (by omega) (by omega) fun hle=>?_⟩
      have hv:=hv ae5
      rw[hv,List.take_add_one,List.getElem?_eq_getElem fY]
      have:sP (l[i].2.2.1.take j++(some l[i].2.2.1[j]).toList)=sP (l[i].2.2.1.take j)+FB l[i].2.2.1[j]:=by
       unfold sP;rw[List.map_append,List.sum_append];simp
      rw[this]
      unfold FB
      omega
    refine⟨l[i].2.2.1.length+1,?_⟩
    exact inner l[i].2.2.1.length 0 _ (by omega) (by omega) (by omega) fun hle=>by
     rw[List.take_zero];rfl
   ·refine hk w w0 w1 (fun h0=>?_) fun hle=>absurd hle hgt
    omega
 exact key n 0 0 (by omega) (by omega) (by omega) (fun h0=>absurd h0 (Nat.lt_irrefl _)) fun _=>by rw[List.take_zero];rfl
end
def cW (s:Bs):List (List Bs)->Nat->Nat
 | [],_=>0
 | l::ls,k=>if s ∈ l then k else cW s ls (k+1)
def wS1:List Bs:=[[104,116,109,108],[98,111,100,121],[104,101,97,100],[102,114,97,109,101],[102,114,97,109,101,115,101,116],[99,97,112,116,105,111,110],[99,111,108],[99,111,108,103,114,111,117,112],[116,98,111,100,121],[116,100],[116,102,111,111,116],[116,104],[116,104,101,97,100],[116,114]]
def wS2:List Bs:=[[98,97,115,101],[98,97,115,101,102,111,110,116],[98,103,115,111,117,110,100],[108,105,110,107],[109,101,116,97],[112,97,114,97,109],[115,111,117,114,99,101],[116,114,97,99,107]]
def wS3:List Bs:=[[116,105,116,108,101]]
def wS4:List Bs:=[[110,111,102,114,97,109,101,115],[115,116,121,108,101],[105,102,114,97,109,101],[110,111,101,109,98,101,100]]
def wS5:List Bs:=[[115,99,114,105,112,116]]
def wS6:List Bs:=[[97,100,100,114,101,115,115],[97,114,116,105,99,108,101],[97,115,105,100,101],[98,108,111,99,107,113,117,111,116,101],[99,101,110,116,101,114],[100,101,116,97,105,108,115],[100,105,97,108,111,103],[100,105,114],[100,105,118],[100,108],[102,105,101,108,100,115,101,116],[102,105,103,99,97,112,116,105,111,110],[102,105,103,117,114,101],[102,111,111,116,101,114],[104,101,97,100,101,114],[104,103,114,111,117,112],[109,97,105,110],[109,101,110,117],[110,97,118],[111,108],[112],[115,101,97,114,99,104],[115,101,99,116,105,111,110],[115,117,109,109,97,114,121],[117,108]]
def yw:List Bs:=[[104,49],[104,50],[104,51],[104,52],[104,53],[104,54]]
def wS8:List Bs:=[[112,114,101],[108,105,115,116,105,110,103]]
def wS9:List Bs:=[[102,111,114,109]]
def OP:List Bs:=[[108,105]]
def H4:List Bs:=[[100,100],[100,116]]
def Yt:List Bs:=[[112,108,97,105,110,116,101,120,116]]
def Yu:List Bs:=[[98,117,116,116,111,110]]
def Yv:List Bs:=[[97]]
def Yw:List Bs:=[[110,111,98,114]]
def Yx:List Bs:=[[97,112,112,108,101,116],[109,97,114,113,117,101,101],[111,98,106,101,99,116]]
def Yy:List Bs:=[[116,97,98,108,101]]
def SZ:List Bs:=[[97,114,101,97],[98,114],[101,109,98,101,100],[105,109,103],[107,101,121,103,101,110],[119,98,114],[105,110,112,117,116]]
def Yz:List Bs:=[[105,109,97,103,101]]
def YA:List Bs:=[[104,114]]
def YB:List Bs:=[[116,101,120,116,97,114,101,97]]
def YC:List Bs:=[[120,109,112]]
def YD:List Bs:=[[111,112,116,103,114,111,117,112],[111,112,116,105,111,110]]
def YE:List Bs:=[[114,98],[114,116,99],[114,112],[114,116]]
def YF:List Bs:=[[109,97,116,104],[115,118,103]]
def Cp:List (List Bs):=[wS1,wS2,wS3,wS4,wS5,wS6,yw,wS8,wS9,OP,H4,Yt,Yu,Yv,Yw,Yx,Yy,SZ,Yz,YA,YB,YC,YD,YE,YF]
def wE1:List Bs:=[[98,111,100,121],[104,116,109,108]]
def wE2:List Bs:=[[97,100,100,114,101,115,115],[97,114,116,105,99,108,101],[97,115,105,100,101],[98,108,111,99,107,113,117,111,116,101],[98,117,116,116,111,110],[99,101,110,116,101,114],[100,101,116,97,105,108,115],[100,105,97,108,111,103],[100,105,114],[100,105,118],[100,108],[102,105,101,108,100,115,101,116],[102,105,103,99,97,112,116,105,111,110],[102,105,103,117,114,101],[102,111,111,116,101,114],[104,101,97,100,101,114],[104,103,114,111,117,112],[108,105,115,116,105,110,103],[109,97,105,110],[109,101,110,117],[110,97,118],[111,108],[112,114,101],[115,101,97,114,99,104],[115,101,99,116,105,111,110],[115,117,109,109,97,114,121],[117,108]]
def wE3:List Bs:=[[102,111,114,109]]
def wE4:List Bs:=[[112]]
def wE5:List Bs:=[[108,105],[100,100],[100,116]]
def wE6:List Bs:=[[104,49],[104,50],[104,51],[104,52],[104,53],[104,54]]
def wE7:List Bs:=[[97,112,112,108,101,116],[109,97,114,113,117,101,101],[111,98,106,101,99,116]]
def wE8:List Bs:=[[98,114]]
def JW:List (List Bs):=[wE1,wE2,wE3,wE4,wE5,wE6,wE7,wE8]
def oF (s:Bs):Nat:=cW s Cp 1
theorem KM:(List.range 25).all (fun k=>(Cp.getD k []).all fun s=>oF s == k+1)=true:=by decide+kernel
theorem aM {s:Bs} (k:Nat) (hk:k<25) (h:s ∈ Cp.getD k []):oF s=k+1:=by
 have h1:=List.all_eq_true.1 KM k (List.mem_range.2 hk)
 exact eq_of_beq (List.all_eq_true.1 h1 s h)
theorem GF {s:Bs} (h1:s ∉ wS1) (h2:s ∉ wS2) (h3:s ∉ wS3) (h4:s ∉ wS4) (h5:s ∉ wS5) (h6:s ∉ wS6) (h7:s ∉ yw) (h8:s ∉ wS8) (h9:s ∉ wS9) (cS:s ∉ OP) (eF:s ∉ H4) (eM:s ∉ Yt) (fi:s ∉ Yu) (dA:s ∉ Yv) (fZ:s ∉ Yw) (gX:s ∉ Yx) (fF:s ∉ Yy) (gO:s ∉ SZ) (pB:s ∉ Yz) (gx:s ∉ YA) (qC:s ∉ YB) (lN:s ∉ YC) (qD:s ∉ YD) (lX:s ∉ YE) (iG:s ∉ YF):oF s=0:=by
 unfold oF Cp cW;rw[if_neg h1,cW,if_neg h2,cW,if_neg h3,cW,if_neg h4,cW,if_neg h5,cW,if_neg h6,cW,if_neg h7,cW,if_neg h8,cW,if_neg h9,cW,if_neg cS,cW,if_neg eF,cW,if_neg eM,cW,if_neg fi,cW,if_neg dA,cW,if_neg fZ,cW,if_neg gX,cW,if_neg fF,cW,if_neg gO,cW,if_neg pB,cW,if_neg gx,cW,if_neg qC,cW,if_neg lN,cW,if_neg qD,cW,if_neg lX,cW,if_neg iG,cW]
def my (s:Bs):Nat:=cW s JW 1
theorem KN:(List.range 8).all (fun k=>(JW.getD k []).all fun s=>my s == k+1)=true:=by decide+kernel
theorem bK {s:Bs} (k:Nat) (hk:k<8) (h:s ∈ JW.getD k []):my s=k+1:=by
 have h1:=List.all_eq_true.1 KN k (List.mem_range.2 hk)
 exact eq_of_beq (List.all_eq_true.1 h1 s h)
theorem GH {s:Bs} (h1:s ∉ wE1) (h2:s ∉ wE2) (h3:s ∉ wE3) (h4:s ∉ wE4) (h5:s ∉ wE5) (h6:s ∉ wE6) (h7:s ∉ wE7) (h8:s ∉ wE8):my s=0:=by
 unfold my JW cW;rw[if_neg h1,cW,if_neg h2,cW,if_neg h3,cW,if_neg h4,cW,if_neg h5,cW,if_neg h6,cW,if_neg h7,cW,if_neg h8,cW]
structure MM where
 w:WM
 mode:Int
 back:Int
 fm:Int
 skip:Bool
 read:Int
 nm:Bs
noncomputable def fe (m:WM) (t:bJ):WM:=bt m 0 t.2.1 t.2.2.1
def sv (m:WM):WM:=cX m ((m.op.length:Int) - 1)
def wJ (m:WM) (ex:Bs):WM:=cX m (iA m.op ex)
def upW (m:WM) (ns:List Bs):WM:=cX m (bO m.op ns)
def wv (m:WM) (ex:Bs) (ns:List Bs):WM:=upW (wJ m ex) ns
def pW (m:WM):WM:=if lg m.op 2 wP=true then wv m [112] wP else m
noncomputable def jr (m:WM) (t:bJ):WM:=sv (fe m t)
noncomputable def dN (m:WM) (t:bJ):WM:=fe (pW m) t
noncomputable def gY (m:WM) (t:bJ):WM:=fe (aU m) t
noncomputable def bV (m:WM) (s:Bs):WM:=if(runM m s).2=true then(runM m s).1 else fq (runM m s).1 s
noncomputable def iq (m:WM) (t:bJ):WM:={fe (aU m) t with aD:=fp (aU m).aD (((aU m).ns.length:Int),t.2.1,t.2.2.1)}
def zp (m:WM) (ns:List Bs):Bs:=(m.op.getD (qV m.op ns).toNat aI).2.2.1
def qU (m:WM) (ns:List Bs):WM:=if 0<=qV m.op ns then wv m (zp m ns) [zp m ns] else m
def Es (m:WM) (ns:List Bs):Bool:=decide ((dR m.op).2.1=0)&&bm ns (dR m.op).2.2.1
def dM (m:WM) (id:Int):WM:=if 0<=br m.aD id then bW m (br m.aD id).toNat else m
def zd (m:WM) (s:Bs):Int:=(m.aD.getD (fC m.aD s).toNat noMark).1
noncomputable def nj (m:WM) (s:Bs):WM:=if 0<=fC m.aD s then gC (dM (bV m s) (zd m s)) (zd m s) else m
noncomputable def si (m:WM) (s:Bs):WM:=if lg m.op 0 [s]=true then bV m s else m
def vR (m:WM):WM:={m with aD:=fp m.aD (-1,[],[])}
def lV (l:List aS):List aS:=l.take (behind l - 1)
def qO (m:WM) (id:Int):Bool:=decide (0<=gm m.op id)&&eT (m.op.drop ((gm m.op id).toNat+1))
def sf (m:WM):WM:=if Es (pW m) yw=true then sv (pW m) else pW m
def Ap (m:WM):WM:=if Es m [[111,112,116,105,111,110]]=true then sv m else m
def dF (m:WM) (sc:Int) (ex:Bs) (ns:List Bs):WM:=if lg m.op sc ns=true then wv m ex ns else m
def JU (s:Bs):Bs:=if s=[114,112]∨s=[114,116] then [114,116,99] else []
def Cr:List Bs:=[[114,117,98,121]]
def jc (m:WM) (s:Bs):WM:=if lg m.op 0 Cr=true then wJ m (JU s) else m
def nt (s:Bs):Int:=if s=[115,118,103] then 1 else 2
noncomputable def iO (m:WM) (t:bJ):WM:=
 let m1:=bt (aU m) (nt t.2.1) t.2.1 t.2.2.1
 if t.2.2.2.1=true then sv m1 else m1
abbrev nr (t:bJ):bJ:=(t.1,[105,109,103],t.2.2)
abbrev sm (k:Int) (s:Bs):bJ:=(k,s,[],false,[])
def MM.fv (mm:MM) (w:WM) (t:bJ) (rd:Int):MM:={mm with w:=w,back:=mm.mode,mode:=1,read:=rd,nm:=t.2.1}
noncomputable def lU (mm:MM) (t:bJ):MM:={mm with w:=if dS t.2.1=true then iq mm.w t else gY mm.w t}
noncomputable def ux (mm:MM) (t:bJ):MM:=if mm.fm<0 then {mm with w:=dN mm.w t,fm:=(mm.w.ns.length:Int)} else mm
noncomputable def wq (mm:MM) (t:bJ):Nat->MM
 | 1=>mm
 | 2=>{mm with w:=jr mm.w t}
 | 3=>mm.fv (fe mm.w t) t 1
 | 4=>mm.fv (fe mm.w t) t 2
 | 5=>mm.fv (fe mm.w t) t 3
 | 6=>{mm with w:=dN mm.w t}
 | 7=>{mm with w:=fe (sf mm.w) t}
 | 8=>{mm with w:=dN mm.w t,skip:=true}
 | 9=>ux mm t
 | 10=>{mm with w:=dN (qU mm.w OP) t}
 | 11=>{mm with w:=dN (qU mm.w H4) t}
 | 12=>{mm with w:=dN mm.w t,read:=4}
 | 13=>{mm with w:=gY (dF mm.w 0 [] gw) t}
 | 14=>{mm with w:=iq (nj mm.w t.2.1) t}
 | 15=>{mm with w:=iq (si (aU mm.w) t.2.1) t}
 | 16=>{mm with w:=vR (gY mm.w t)}
 | 17=>{mm with w:=dN mm.w t,mode:=2}
 | 18=>{mm with w:=jr (aU mm.w) t}
 | 19=>{mm with w:=jr (aU mm.w) (nr t)}
 | 20=>{mm with w:=jr (pW mm.w) t}
 | 21=>{mm.fv (fe mm.w t) t 1 with skip:=true}
 | 22=>mm.fv (fe (aU (pW mm.w)) t) t 2
 | 23=>{mm with w:=gY (Ap mm.w) t}
 | 24=>{mm with w:=fe (jc mm.w t.2.1) t}
 | 25=>{mm with w:=iO mm.w t}
 | _=>lU mm t
noncomputable def ga (mm:MM) (t:bJ):MM:=wq mm t (oF t.2.1)
def gP (m:WM) (fm:Int):WM:=if 0<=fm/\qO m fm=true then gC (wJ m []) fm else m
noncomputable def uA (m:WM):WM:=pW (if lg m.op 2 wP=true then m else bt m 0 [112] [])
def lE (m:WM) (s:Bs):WM:=if lg m.op 0 [s]=true then {wv m [] [s] with aD:=lV m.aD} else m
noncomputable def EN (m:WM) (s:Bs) (fm:Int):Nat->WM
 | 1=>m
 | 2=>dF m 0 [] [s]
 | 3=>gP m fm
 | 4=>uA m
 | 5=>dF m (if s=[108,105] then 1 else 0) s [s]
 | 6=>dF m 0 [] yw
 | 7=>lE m s
 | 8=>jr (aU m) (sm 0 [98,114])
 | _=>if dS s=true then bV m s else fq m s
noncomputable def H6 (mm:MM) (s:Bs):MM:={mm with w:=EN mm.w s mm.fm (my s),fm:=if my s=3 then -1 else mm.fm}
noncomputable def sr (mm:MM) (t:bJ):MM:=
 if t.1=1 then {mm with w:=gb (aU mm.w) t.2.2.2.2}
 else if t.1=4 then {mm with w:=uF mm.w t.2.2.2.2}
 else if t.1=2 then ga mm t
 else if t.1=3 then H6 mm t.2.1
 else mm
noncomputable def su (mm:MM) (t:bJ):MM:=
 if t.1=1 then {mm with w:=gb mm.w t.2.2.2.2}
 else {mm with w:=sv mm.w,mode:=mm.back,read:=0,nm:=[]}
def Rq (mm:MM) (t:bJ):Bool:=mm.skip&&(decide (t.1=1)&&decide (t.2.2.2.2.head? =some 10))
def B4 (mm:MM) (t:bJ):bJ:=if Rq mm t=true then(t.1,t.2.1,t.2.2.1,t.2.2.2.1,t.2.2.2.2.drop 1) else t
def JY (mm:MM) (t:bJ):Bool:=if Rq mm t=true then !decide (t.2.2.2.2.drop 1=[]) else true
def B0 (mm:MM):MM:={mm with skip:=false}
noncomputable def dr (mm:MM) (t:bJ):MM:=
 if JY mm t=true then(if mm.mode=1 then su (B0 mm) (B4 mm t) else sr (B0 mm) (B4 mm t)) else B0 mm
def JX:MM:=⟨EP,0,0, -1,false,0,[]⟩
noncomputable def ir (l:List bJ):MM:=l.foldl dr JX
structure MS (m:WM) (u v x:Nat):Prop where
 A:AI m u v x
 M:MW m
theorem AI.YG {m:WM} {u v x:Nat} (A:AI m u v x) {tx:Bs} (ht:tx.length<=4000):AI (uF m tx) (u+1) v (x+4000):=
 ⟨A.D.note ht,A.root,fun y hy h0=>by
  obtain⟨z,hz,e⟩:=A.kind y hy h0
  obtain⟨z',iJ,e'⟩:=((fU.bF _ _).trans (.mL (fH (A.D.G.bF 3 0 [] [] tx) _ _ _) (fy (A.D.G.bF 3 0 [] [] tx) _ _ _)):fU m.ns (uF m tx).ns) _ z hz
  exact⟨z',iJ,e'.trans e⟩,A.tI,A.yC⟩
def po (t:bJ):Prop:=t.2.1.length<=4000/\t.2.2.1.length<=500/\(∀a ∈ t.2.2.1,a.1.length<=4000/\a.2.length<=4000)/\t.2.2.2.2.length<=4000
section
variable {m:WM} {u v x u' v' x':Nat} {t:bJ}
theorem MS.mono (s:MS m u v x) (h1:u<=u') (h2:v<=v') (h3:x<=x'):MS m u' v' x':=⟨s.A.mono h1 h2 h3,s.M⟩
theorem MS.close (s:MS m u v x) (n:Int):MS (cX m n) u v x:=⟨s.A.close n,s.M.close n⟩
theorem MS.pop (s:MS m u v x):MS (sv m) u v x:=s.close _
theorem MS.impl (s:MS m u v x) (ex:Bs):MS (wJ m ex) u v x:=s.close _
theorem MS.out (s:MS m u v x) (ex:Bs) (ns:List Bs):MS (wv m ex ns) u v x:=(s.close _).close _
theorem MS.p (s:MS m u v x):MS (pW m) u v x:=by
 unfold pW;split
 ·exact s.out _ _
 ·exact s
theorem MS.dF (s:MS m u v x) (sc:Int) (ex:Bs) (ns:List Bs):MS (dF m sc ex ns) u v x:=by
 unfold Go.Proofs.dF;split
 ·exact s.out _ _
 ·exact s
theorem MS.insert (s:MS m u v x) (sp:Int) {nm:Bs} (hn:nm.length<=4000) (gB:List bx):MS (bt m sp nm gB) (u+1) v x:=⟨s.A.insert sp hn gB,s.M.insert s.A.D.G sp nm gB⟩
theorem MS.ins (s:MS m u v x) (ht:po t):MS (fe m t) (u+1) v x:=s.insert 0 ht.1 _
theorem MS.uG (s:MS m u v x):MS (aU m) (u+v) v x:=⟨s.A.vX,s.M.vX s.A⟩
theorem MS.run (s:MS m u v x) (nm:Bs):MS (runM m nm).1 (u+32) v x:=⟨s.A.run nm,s.M.run s.A nm⟩
theorem MS.leave (s:MS m u v x) (nm:Bs):MS (bV m nm) (u+32) v x:=by
 unfold bV;split
 ·exact s.run nm
 ·exact(s.run nm).close _
theorem MS.bW (s:MS m u v x) (k:Nat):MS (bW m k) u v x:=⟨s.A.bW k,s.M.bW k⟩
theorem MS.EK (s:MS m u v x) (id:Int):MS (dM m id) u v x:=by
 unfold dM;split
 ·exact s.bW _
 ·exact s
theorem MS.drop (s:MS m u v x) (id:Int):MS (gC m id) u v x:=⟨s.A.drop id,s.M.drop id⟩
theorem MS.write (s:MS m u v x) {tx:Bs} (ht:tx.length<=4000):MS (gb m tx) (u+1) v (x+4000):=⟨s.A.write ht,s.M.write s.A.D.G tx⟩
theorem MS.note (s:MS m u v x) {tx:Bs} (ht:tx.length<=4000):MS (uF m tx) (u+1) v (x+4000):=⟨s.A.YG ht,s.M.tree rfl (by
 show _<=(cV _ _ _ _).1.length
 rw[fy (s.A.D.G.bF _ _ _ _ _)]
 show _<=(m.ns++ [_]).length
 simp)⟩
theorem MS.block (s:MS m u v x) (ht:po t):MS (dN m t) (u+1) v x:=s.p.ins ht
theorem MS.empty (s:MS m u v x) (ht:po t):MS (jr m t) (u+1) v x:=(s.ins ht).pop
theorem MS.plain (s:MS m u v x) (ht:po t):MS (gY m t) (u+v+1) v x:=s.uG.ins ht
theorem MS.format (s:MS m u v x) (ht:po t):MS (iq m t) (u+v+1) (v+1) x:=by
 have s1:=s.uG.ins ht
 have hp:=s.uG.A.pos
 have hl:(fe (aU m) t).ns.length=(aU m).ns.length+1:=ic s.uG.A.D.G
 refine⟨s1.A.push (y:=(((aU m).ns.length:Int),t.2.1,t.2.2.1)) ⟨ht.1,ht.2.1,fun a ha=>(ht.2.2.1 a ha).2⟩ (by show((aU m).ns.length:Int)≠0;omega),?_⟩
 unfold MW
 show MI (fp (aU m).aD _) (fe (aU m) t).ns.length
 rw[hl]
 exact MI.push s.uG.M _
theorem MS.wK (s:MS m u v x):MS (vR m) u (v+1) x:=
 ⟨s.A.push (y:=(-1,[],[])) ⟨by decide,by decide,fun a ha=>nomatch ha⟩ (by decide),MI.wK s.M s.A.pos⟩
theorem MS.item (s:MS m u v x) (ns:List Bs):MS (qU m ns) u v x:=by
 unfold qU;split
 ·exact s.out _ _
 ·exact s
theorem MS.head (s:MS m u v x):MS (sf m) u v x:=by
 unfold sf;split
 ·exact s.p.pop
 ·exact s.p
theorem MS.opt (s:MS m u v x):MS (Ap m) u v x:=by
 unfold Ap;split
 ·exact s.pop
 ·exact s
theorem MS.ae7 (s:MS m u v x) (n:Bs):MS (jc m n) u v x:=by
 unfold jc;split
 ·exact s.impl _
 ·exact s
theorem MS.unlink (s:MS m u v x) (n:Bs):MS (nj m n) (u+32) v x:=by
 unfold nj;split
 ·exact((s.leave n).EK _).drop _
 ·exact s.mono (by omega) (Nat.le_refl _) (Nat.le_refl _)
theorem MS.ae8 (s:MS m u v x) (n:Bs):MS (si m n) (u+32) v x:=by
 unfold si;split
 ·exact s.leave n
 ·exact s.mono (by omega) (Nat.le_refl _) (Nat.le_refl _)
theorem MS.YH (s:MS m u v x) (ht:po t):MS (iO m t) (u+v+1) v x:=by
 unfold iO;simp only[];split
 ·exact(s.uG.insert _ ht.1 _).pop
 ·exact s.uG.insert _ ht.1 _
theorem MS.clear (s:MS m u v x):MS {m with aD:=lV m.aD} u v x:=
 ⟨s.A.marks (Nat.le_trans (List.take_sublist _ _).length_le s.A.D.ml) (fun y hy=>s.A.D.mw y (List.mem_of_mem_take hy)) fun y hy=>s.A.tI y (List.mem_of_mem_take hy),MI.sub s.M (List.take_sublist _ _)⟩
end
structure MQ (mm:MM) (u v x:Nat):Prop where
 s:MS mm.w u v x
 f0: -1<=mm.fm
 f1:mm.fm<=(u:Int)
 mo:bc .u8 mm.mode
 ba:bc .u8 mm.back
 rd:bc .u8 mm.read
 nl:mm.nm.length<=4000
theorem jB {i:Int} (h0:0<=i) (h1:i<=255):bc .u8 i:=⟨h0,h1⟩
section
variable {mm:MM} {u v x u' v' x':Nat} {t:bJ} {m2:WM}
theorem MQ.mono (q:MQ mm u v x) (h1:u<=u') (h2:v<=v') (h3:x<=x'):MQ mm u' v' x':=⟨q.s.mono h1 h2 h3,q.f0,by have:=q.f1;omega,q.mo,q.ba,q.rd,q.nl⟩
theorem MQ.ww (q:MQ mm u v x) (s:MS m2 u' v' x') (hu:u<=u'):MQ {mm with w:=m2} u' v' x':=⟨s,q.f0,by have:=q.f1;show mm.fm<=_;omega,q.mo,q.ba,q.rd,q.nl⟩
theorem MQ.reads (q:MQ mm u v x) (s:MS m2 u' v' x') (hu:u<=u') (ht:po t) {rd:Int} (hr:bc .u8 rd):MQ (mm.fv m2 t rd) u' v' x':=⟨s,q.f0,by have:=q.f1;show mm.fm<=_;omega,jB (i:=1) (by decide) (by decide),q.mo,hr,ht.1⟩
theorem MQ.zero:MQ JX 1 0 0:=⟨⟨AI.zero,MW.zero⟩,by decide,by decide,jB (i:=0) (by decide) (by decide),jB (i:=0) (by decide) (by decide),jB (i:=0) (by decide) (by decide),by decide⟩
theorem MQ.start (q:MQ mm u v x) (ht:po t):MQ (ga mm t) (u+2*v+40) (v+1) x:=by
 have s:=q.s
 have mk:∀{m2:WM} {u1 v1 x1:Nat},MS m2 u1 v1 x1->u1<=u+2*v+40->v1<=v+1->x1<=x->MS m2 (u+2*v+40) (v+1) x:=fun s h1 h2 h3=>s.mono h1 h2 h3
 have ww:∀{m2:WM} {u1 v1 x1:Nat},MS m2 u1 v1 x1->u1<=u+2*v+40->v1<=v+1->x1<=x->MQ {mm with w:=m2} (u+2*v+40) (v+1) x:=fun s h1 h2 h3=>q.ww (mk s h1 h2 h3) (by omega)
 have rr:∀{m2:WM} {u1 v1 x1:Nat} {rd:Int},MS m2 u1 v1 x1->u1<=u+2*v+40->v1<=v+1->x1<=x->bc .u8 rd->MQ (mm.fv m2 t rd) (u+2*v+40) (v+1) x:=fun s h1 h2 h3 hr=>q.reads (mk s h1 h2 h3) (by omega) ht hr
 have hi:po (nr t):=⟨(by decide:([105,109,103]:Bs).length<=4000),ht.2⟩
 unfold ga
 generalize oF t.2.1=k
 unfold wq
 split
 ·exact q.mono (by omega) (by omega) (by omega)
 ·exact ww (s.empty ht) (by omega) (by omega) (by omega)
 ·exact rr (s.ins ht) (by omega) (by omega) (by omega) (jB (by decide) (by decide))
 ·exact rr (s.ins ht) (by omega) (by omega) (by omega) (jB (by decide) (by decide))
 ·exact rr (s.ins ht) (by omega) (by omega) (by omega) (jB (by decide) (by decide))
 ·exact ww (s.block ht) (by omega) (by omega) (by omega)
 ·exact ww (s.head.ins ht) (by omega) (by omega) (by omega)
 ·have:=ww (s.block ht) (by omega) (by omega) (by omega)
  exact⟨this.s,this.f0,this.f1,this.mo,this.ba,this.rd,this.nl⟩
 ·unfold ux
  split
  ·have:=ww (s.block ht) (by omega) (by omega) (by omega)
   have hl:=s.A.D.ln
   exact⟨this.s,by show(-1:Int)<=(mm.w.ns.length:Int);omega,by show(mm.w.ns.length:Int)<=_;omega,this.mo,this.ba,this.rd,this.nl⟩
  ·exact q.mono (by omega) (by omega) (by omega)
 ·exact ww ((s.item _).block ht) (by omega) (by omega) (by omega)
 ·exact ww ((s.item _).block ht) (by omega) (by omega) (by omega)
 ·have:=ww (s.block ht) (by omega) (by omega) (by omega)
  exact⟨this.s,this.f0,this.f1,this.mo,this.ba,jB (i:=4) (by decide) (by decide),this.nl⟩
 ·exact ww ((s.dF _ _ _).plain ht) (by omega) (by omega) (by omega)
 ·exact ww ((s.unlink _).format ht) (by omega) (by omega) (by omega)
 ·exact ww ((s.uG.ae8 _).format ht) (by omega) (by omega) (by omega)
 ·exact ww ((s.plain ht).wK) (by omega) (by omega) (by omega)
 ·have:=ww (s.block ht) (by omega) (by omega) (by omega)
  exact⟨this.s,this.f0,this.f1,jB (i:=2) (by decide) (by decide),this.ba,this.rd,this.nl⟩
 ·exact ww (s.uG.empty ht) (by omega) (by omega) (by omega)
 ·exact ww (s.uG.empty hi) (by omega) (by omega) (by omega)
 ·exact ww (s.p.empty ht) (by omega) (by omega) (by omega)
 ·have:=rr (s.ins ht) (by omega) (by omega) (by omega) (rd:=1) (jB (by decide) (by decide))
  exact⟨this.s,this.f0,this.f1,this.mo,this.ba,this.rd,this.nl⟩
 ·exact rr (s.p.uG.ins ht) (by omega) (by omega) (by omega) (jB (by decide) (by decide))
 ·exact ww (s.opt.plain ht) (by omega) (by omega) (by omega)
 ·exact ww ((s.ae7 _).ins ht) (by omega) (by omega) (by omega)
 ·exact ww (s.YH ht) (by omega) (by omega) (by omega)
 ·unfold lU
  split
  ·exact ww (s.format ht) (by omega) (by omega) (by omega)
  ·exact ww (s.plain ht) (by omega) (by omega) (by omega)
theorem MS.EN {m:WM} {s:Bs} (q:MS m u v x) (fm:Int) (k:Nat):MS (EN m s fm k) (u+2*v+40) (v+1) x:=by
 have mk:∀{m2:WM} {u1 v1 x1:Nat},MS m2 u1 v1 x1->u1<=u+2*v+40->v1<=v+1->x1<=x->MS m2 (u+2*v+40) (v+1) x:=fun s h1 h2 h3=>s.mono h1 h2 h3
 unfold Go.Proofs.EN
 split
 ·exact mk q (by omega) (by omega) (by omega)
 ·exact mk (q.dF _ _ _) (by omega) (by omega) (by omega)
 ·unfold gP;split
  ·exact mk ((q.impl _).drop _) (by omega) (by omega) (by omega)
  ·exact mk q (by omega) (by omega) (by omega)
 ·unfold uA;split
  ·exact mk q.p (by omega) (by omega) (by omega)
  ·exact mk (q.insert 0 (nm:=[112]) (by decide) []).p (by omega) (by omega) (by omega)
 ·exact mk (q.dF _ _ _) (by omega) (by omega) (by omega)
 ·exact mk (q.dF _ _ _) (by omega) (by omega) (by omega)
 ·unfold lE;split
  ·exact mk (q.out [] [s]).clear (by omega) (by omega) (by omega)
  ·exact mk q (by omega) (by omega) (by omega)
 ·exact mk (q.uG.empty (t:=sm 0 [98,114]) ⟨by decide,by decide,(fun a ha=>nomatch ha),by decide⟩) (by omega) (by omega) (by omega)
 ·split
  ·exact mk (q.leave _) (by omega) (by omega) (by omega)
  ·exact mk (q.close _) (by omega) (by omega) (by omega)
theorem MQ.fin (q:MQ mm u v x) (s:Bs):MQ (H6 mm s) (u+2*v+40) (v+1) x:=by
 have h:=q.s.EN (s:=s) mm.fm (my s)
 have f0:=q.f0
 have f1:=q.f1
 refine⟨h,?_,?_,q.mo,q.ba,q.rd,q.nl⟩
 ·show -1<=(if my s=3 then -1 else mm.fm);split <;> omega
 ·show(if my s=3 then -1 else mm.fm)<=_;split <;> omega
theorem MQ.body (q:MQ mm u v x) (ht:po t):MQ (sr mm t) (u+2*v+40) (v+1) (x+4000):=by
 unfold sr
 split
 ·exact(q.ww (u':=u+v+1) (q.s.uG.write ht.2.2.2) (by omega)).mono (by omega) (by omega) (by omega)
 ·split
  ·exact(q.ww (u':=u+1) (q.s.note ht.2.2.2) (by omega)).mono (by omega) (by omega) (by omega)
  ·split
   ·exact(q.start ht).mono (by omega) (by omega) (by omega)
   ·split
    ·exact(q.fin _).mono (by omega) (by omega) (by omega)
    ·exact q.mono (by omega) (by omega) (by omega)
theorem MQ.text (q:MQ mm u v x) (ht:po t):MQ (su mm t) (u+1) v (x+4000):=by
 unfold su
 split
 ·exact q.ww (q.s.write ht.2.2.2) (by omega)
 ·have:=q.ww q.s.pop (Nat.le_refl _)
  exact MQ.mono ⟨this.s,this.f0,this.f1,q.ba,q.ba,jB (i:=0) (by decide) (by decide),(by decide:([]:Bs).length<=4000)⟩ (by omega) (by omega) (by omega)
theorem MQ.nl2 (q:MQ mm u v x):MQ (B0 mm) u v x:=⟨q.s,q.f0,q.f1,q.mo,q.ba,q.rd,q.nl⟩
theorem Kx (ht:po t):po (B4 mm t):=by
 unfold B4;split
 ·refine⟨ht.1,ht.2.1,ht.2.2.1,?_⟩
  show(t.2.2.2.2.drop 1).length<=4000
  have:=ht.2.2.2
  rw[List.length_drop];omega
 ·exact ht
theorem MQ.step (q:MQ mm u v x) (ht:po t):MQ (dr mm t) (u+2*v+40) (v+1) (x+4000):=by
 unfold dr
 split
 ·split
  ·exact(q.nl2.text (Kx ht)).mono (by omega) (by omega) (by omega)
  ·exact q.nl2.body (Kx ht)
 ·exact q.nl2.mono (by omega) (by omega) (by omega)
end
end Go.Proofs
