import Derived.Test.YtijoifkjeamonaaGreatHc
import Derived.Test.YtijoifkjeamonaaGreatPdB
import Derived.Test.YtijoifkjeamonaaGreatTxH
import Derived.Test.YtijoifkjeamonaaGreatDrF
import Derived.Test.YtijoifkjeamonaaGreatTxG
namespace Go.Proofs
open Go Go.Sh
set_option linter.unusedVariables false
set_option maxRecDepth 100000
section
variable {h:H} {K:KV} {col:cd} {s ty:Nat} {w t:Addr} {op:List aP} {mk:List aS} {fo:Bool} {hi:Int} {m:WM}
theorem qN {b:OA} {c k:Nat}:(if c=Int.toNat (0:Int) then b else Option.map (fun q=>q.add (Int.toNat (0:Int)*k)) b)=b:=by
 split
 ·rfl
 ·cases b with
  | none=>rfl
  | some q=>
   show some (q.add (0*k))=some q
   rw[Nat.zero_mul,add_zero']
theorem al.step {Z:Nat->Prop} {a b c:H} {x y:cd} {g:Nat} (E:al Z a x b y) (k:KX g b c) (hg:a.size<=g):al Z a x c y:=
 ⟨E.sk.trans (k.less fun q hq e=>by have:=hq.1;omega),E.cl⟩
theorem Jj (W:bs h col s ty w t op mk fo hi) (f:bj h col) {i:Nat} (Ax:i<mk.length) (hn:mk.length<=1000000) {x:aS} {a21:Addr} {tv:Nat} {ab:OA} {an ac:Nat} (v21:Var h a21 tv [.int .i64 x.1,S x.2.1,.slice ab an ac]) (hR:cG (bT col h) h x ab an ac) {Q:H->Prop}
  (hk:∀h' col',bs h' col' s ty w t op (mk.set i x) fo hi->al (fun k=>k=s) h col h' col'->bj h' col'->Q h'):
  ∃xB BE yS,cell h (w.add 2)=some (.slice xB BE yS)/\((0<=(0:Int)/\(0:Int)<=(i:Int)/\(i:Int)<=(yS:Int))/\(bf Tryz.prog (Builtin.append_ #[40,40] 40 ⟨[(.slice none 0 0),(.slice (if yS=Int.toNat (0:Int) then xB else Option.map (fun q=>q.add (Int.toNat (0:Int)*3)) xB) (Int.toNat (i:Int) - Int.toNat (0:Int)) (yS - Int.toNat (0:Int)))]⟩) h fun B5 mq=>aA B5 fun xC xD yU=>∃i35,cell mq ((a21).add 0)=some (.int .i64 i35)/\(∃s36,cell mq ((a21).add 1)=some (S s36)/\(∃QL QM QN,cell mq ((a21).add 2)=some (.slice QL QM QN)/\(aw mq #[(.int .i64 i35),(S s36),(.slice QL QM QN)] 79 fun Ny yr=>bf Tryz.prog (Builtin.append_ #[40,40] 40 ⟨[(.slice xC xD yU),(.slice (some Ny) 1 1)]⟩) yr fun v40 yG=>aA v40 fun QB Jh QC=>ae (some w) fun JO=>∃NG Jk Jl,cell yG (JO.add 2)=some (.slice NG Jk Jl)/\(bc .i64 ((i:Int)+(1:Int))/\((0<=((i:Int)+(1:Int))/\((i:Int)+(1:Int))<=(Jk:Int)/\(Jk:Int)<=(Jl:Int))/\(bf Tryz.prog (Builtin.append_ #[40,40] 40 ⟨[(.slice QB Jh QC),(.slice (if Jl=Int.toNat ((i:Int)+(1:Int)) then NG else Option.map (fun q=>q.add (Int.toNat ((i:Int)+(1:Int))*3)) NG) (Int.toNat (Jk:Int) - Int.toNat ((i:Int)+(1:Int))) (Jl - Int.toNat ((i:Int)+(1:Int))))]⟩) yG fun v45 QO=>aA v45 fun Vw Vx Vy=>ae (some w) fun Nf=>aZ (Nf.add 2) [(.slice Vw Vx Vy)] 0 QO fun QE=>Q QE)))))))):=by
 obtain⟨ob,oc,mb,mn,mc,v,o,om⟩:=W.ex
 obtain⟨xs,he,hc,wV⟩:=om.parts
 have jn:=om.len
 have hcap:=om.cap
 have hA:∀k,bT col h k->k<h.size:=fun k hk=>hk.2
 refine⟨_,_,_,v.cell 2 rfl,⟨by omega,by omega,by omega⟩,?_⟩
 rw[qN]
 have e1:Int.toNat (i:Int) - Int.toNat (0:Int)=i:=by rw[Int.toNat_natCast];rfl
 rw[e1]
 refine bN.append cZ (bN.none (bT col h) h h.size 79) hA (l2:=mk.take i) (by rw[List.length_take];omega) (he.take i) (hc.take _) (by simp only[maxLen];omega) (by omega) (Nat.le_refl _) fun b1 c1 h1 o1 g1=>aC ?_
 rw[Nat.zero_add] at o1 ⊢
 have k1:KB h h1:=g1.vN (KB.refl h) fun q e=>by cases e
 refine⟨_,(v21.kb k1).cell 0 rfl,_,(v21.kb k1).cell 1 rfl,_,_,_,(v21.kb k1).cell 2 rfl,af fun Ny h2 v2 k2 e2 s2=>?_⟩
 have tU:=k1.trans k2
 refine bN.sE cZ (o1.kb k2) hA v2 (hR.kb tU) (by simp only[maxLen];omega) (by omega) tU.1 fun b3 c3 h3 o3 g3=>aC ?_
 have fX:KB h h3:=g3.vN tU o1.lo
 have e3:((i:Int)+(1:Int))=((i+1:Nat):Int):=rfl
 refine aa ⟨_,_,_,(v.kb fX).cell 2 rfl,aG (by omega) (by omega),⟨by omega,by omega,by omega⟩,?_⟩
 rw[e3,Int.toNat_natCast,Int.toNat_natCast]
 have hcd:=Cells.drop (c:=mc) (lo:=i+1) (z:=3) hc (fun e=>List.drop_of_length_le (by
  have h1:xs.length=mn*3:=wV
  have h2:mn=i+1:=by omega
  rw[h1,h2];exact Nat.le_refl _))
 have hed:=he.drop (i+1)
 refine bN.append cZ o3 hA (l2:=mk.drop (i+1)) (by rw[List.length_drop,jn]) (hed.keep ((KB.w fX).less fun k hk=>hk.2) fun _ h _=>h) (fun j u hu=>by
  obtain⟨q,e,ec⟩:=hcd j u hu
  exact⟨q,e,(KB.w fX).cell (fS ec) ec⟩) (by simp only[maxLen];omega) (by omega) fX.1 fun b4 c4 h4 o4 g4=>aC (aa ?_)
 have ov:KB h h4:=g4.vN fX o3.lo
 have el: []++mk.take i++ [x]++mk.drop (i+1)=mk.set i x:=by
  rw[List.nil_append,List.set_eq_take_append_cons_drop,if_pos Ax,List.append_assoc];rfl
 rw[el] at o4
 exact dZ W f ov o4 fun h5 W5 E5 f5 _=>hk h5 _ W5 E5 f5
theorem tS (p:RW h col w m) (G:aV m.ns) (bI:0<m.op.length) (eH:m.op.length+m.aD.length<1000000) (AA:m.ns.length+m.aD.length<1000000) (hm:pP m.aD)
  (hk:∀h' col',RW h' col' w (aU m)->al RS h col h' col'->K (.tuple ⟨[]⟩) h'):
  zC 44 [.pointer (some w)] h K:=by
 obtain⟨t,T,W⟩:=p.ex
 obtain⟨ob,oc,mb,mn,mc,v,o,om⟩:=W.ex
 have MN:=iT m.aD m.op m.aD.length
 have YN:0<=gE m.aD m.op:=MN.1
 have Ro:gE m.aD m.op<=(m.aD.length:Int):=MN.2
 obtain⟨f,hf⟩:=Int.eq_ofNat_of_zero_le YN
 have It:(gE m.aD m.op).toNat=f:=by rw[hf];rfl
 refine VP.ok _ _ _ (aa ⟨_,_,_,v.cell 2 rfl,aa ⟨_,_,_,v.cell 1 rfl,yY om.row o.row (aN ?_)⟩⟩)
 rw[hf]
 have hrw:wX (m.aD.length - f) m f=aU m:=by unfold aU;rw[It]
 refine⟨m.aD.length - f+1,?_⟩
 have key:∀k j (mj:WM) hj cj,j+k=m.aD.length - f->RW hj cj w mj->aV mj.ns->mj.op.length=m.op.length+j->mj.ns.length=m.ns.length+j->mj.aD.length=m.aD.length->pP mj.aD->wX k mj (f+j)=aU m->al RS h col hj cj->
   VP.nv (fun h=>K (.tuple ⟨[]⟩) h) (fun h=>K (.tuple ⟨[]⟩) h) (fun h=>K (.tuple ⟨[]⟩) h) (k+1) (some w) ((f+j:Nat):Int) hj:=by
  intro k
  induction k with
  | zero=>
   intro j mj hj cj hjk pj Gj lo ln lm U8 hr Ej
   obtain⟨tj,Tj,Wj⟩:=pj.ex
   obtain⟨obj,ocj,mbj,mnj,mcj,vj,oj,Xo⟩:=Wj.ex
   have ah7:=Xo.len
   have hr:mj=aU m:=hr
   unfold VP.nv LP VP.mA
   exact aa ⟨_,_,_,vj.cell 2 rfl,bX (by omega) (hk hj cj (by rw[<-hr];exact⟨tj,Tj,Wj⟩) Ej)⟩
  | succ k ih=>
   intro j mj hj cj hjk pj Gj lo ln lm U8 hr Ej
   have tG:f+j<mj.aD.length:=by omega
   obtain⟨tj,Tj,Wj⟩:=pj.ex
   obtain⟨obj,ocj,mbj,mnj,mcj,vj,oj,Xo⟩:=Wj.ex
   have ah7:=Xo.len
   obtain⟨xsj,PH,U9,_⟩:=Xo.parts
   obtain⟨a,b2,n2,c2,eb,m0,m1,m2,mR⟩:=kz PH U9 tG
   subst eb
   have hw:=U8 mj.aD[f+j] (List.getElem_mem tG)
   have yo:=mR.inv
   have vQ:=yo.1.len
   unfold VP.nv LP VP.mA
   refine aa ⟨_,_,_,vj.cell 2 rfl,bQ (by omega) (aa ⟨_,_,_,vj.cell 2 rfl,⟨by omega,by omega⟩,aa ?_⟩)⟩
   rw[Int.toNat_natCast]
   refine⟨_,m0,_,m1,_,_,_,m2,af fun a21 h2 v2 k2 e2 s2=>aQ v2 (by show 3<=3;omega) fun h3 v3 k3 s3=>?_⟩
   have Nb:KB hj h3:=KB.step k2 k3 (by omega)
   have Qv:Var h3 a21 79 [.int .i64 mj.aD[f+j].1,S mj.aD[f+j].2.1,.slice b2 n2 c2]:=v3
   have E3:∀Z:Nat->Prop,al Z hj cj h3 (cp cj a21.block (8,0)):=fun Z=>⟨Nb.less fun k hk=>hk.1,fun k hk=>dG (by omega)⟩
   have f3:bj h3 (cp cj a21.block (8,0)):=(pj.fresh.kb Nb).cp Qv.lt
   have p3:RW h3 (cp cj a21.block (8,0)) w mj:=pj.ext (Z:=fun _=>False) (E3 _) id id f3
   have rA:Row aW (bT (cp cj a21.block (8,0)) h3) h3 b2 n2 c2 mj.aD[f+j].2.2:=(E3 fun _=>False).row yo.1
   refine⟨_,Qv.cell 1 rfl,_,_,_,Qv.cell 2 rfl,?_⟩
   refine ox p3 Gj (by omega) (by omega) (by omega) rA (by omega) hw.2.2 ⟨by decide,by decide⟩ ⟨by decide,by decide⟩ hw.1 fun h5 c5 p5 E5=>aN ?_
   have v5:Var h5 a21 79 [.int .i64 mj.aD[f+j].1,S mj.aD[f+j].2.1,.slice b2 n2 c2]:=Qv.keep E5.sk.w ⟨Qv.lt,fun s p hs e=>by
    rw[gd] at e
    cases e
    rcases hs with h | h <;> exact absurd h (by decide)⟩
   refine aQ v5 (by show 1<=3;omega) fun h6 v6 k6 s6=>aa ?_
   have v6':Var h6 a21 79 [.int .i64 (mj.ns.length:Int),S mj.aD[f+j].2.1,.slice b2 n2 c2]:=v6
   have Jy:c5 a21.block=some (8,0):=by rw[E5.cl _ Qv.lt];exact gd
   have E6:al (fun k=>k=8) h5 c5 h6 c5:=al.kx k6 Jy rfl
   have f6:bj h6 c5:=fun q hq=>p5.fresh q (by rw[<-s6];exact hq)
   have p6:RW h6 c5 w (bt mj 0 mj.aD[f+j].2.1 mj.aD[f+j].2.2):=p5.ext (Z:=fun k=>k=8) E6 (by decide) (by decide) f6
   have r6:=E6.row (E5.row rA)
   have Ej6:al RS hj cj h6 c5:=((E3 RS).trans E5).step k6 (by show hj.size<=a21.block;omega)
   obtain⟨t6,T6,W6⟩:=p6.ex
   have hR6:cG (bT c5 h6) h6 ((mj.ns.length:Int),mj.aD[f+j].2) b2 n2 c2:=jI (m:=((mj.ns.length:Int),mj.aD[f+j].2)) r6 yo.2.1 (aG (by show _<=(mj.ns.length:Int);omega) (by show(mj.ns.length:Int)<=_;omega)) yo.2.2.2
   refine Jj W6 f6 (i:=f+j) tG (by show mj.aD.length<=_;omega) (x:=((mj.ns.length:Int),mj.aD[f+j].2)) v6' hR6 fun h7 c7 W7 E7 f7=>⟨aG (by omega) (by omega),?_⟩
   have hg:mj.aD.getD (f+j) noMark=mj.aD[f+j]:=aJ tG
   have hr:wX k {bt mj 0 (mj.aD.getD (f+j) noMark).2.1 (mj.aD.getD (f+j) noMark).2.2 with aD:=mj.aD.set (f+j) ((mj.ns.length:Int),(mj.aD.getD (f+j) noMark).2)} (f+j+1)=aU m:=hr
   rw[hg] at hr
   have:=ih (j+1) {bt mj 0 mj.aD[f+j].2.1 mj.aD[f+j].2.2 with aD:=mj.aD.set (f+j) ((mj.ns.length:Int),mj.aD[f+j].2)} h7 c7 (by omega) ⟨t6,T6.cJ (Z:=fun k=>k=3) (by decide) E7 f7,W7⟩
    (pQ Gj) (by show(mj.op++ [_]).length=_;rw[List.length_append];show mj.op.length+1=_;omega) (by rw[ic Gj];omega) (by show(mj.aD.set _ _).length=_;rw[List.length_set];exact lm) (U8.set tG _) hr ((Ej.trans Ej6).trans (E7.mono fun s hs=>.inr hs))
   exact this
 have:=key (m.aD.length - f) 0 m h col (by omega) p G rfl rfl rfl hm hrw (.refl _ _ _)
 exact this
def dj (op:List aP) (id:Int):Nat->List aP
 | 0=>[]
 | i+1=>if i=0∨(op.getD i aI).1≠id then dj op id i++ [op.getD i aI] else dj op id i
theorem xY (op:List aP) (id:Int):∀i,(dj op id i).length<=i
 | 0=>Nat.le_refl _
 | i+1=>by
  unfold dj
  have:=xY op id i
  split
  ·rw[List.length_append];show _+1<=_;omega
  ·omega
theorem rT {op:List aP} {id:Int}:∀i,i<=op.length->(∀j (hj:j<op.length),0<j->j<i->op[j].1≠id)->dj op id i=op.take i
 | 0,_,_=>rfl
 | i+1,hi,dk=>by
  have bM:i<op.length:=by omega
  unfold dj
  rw[aJ bM,rT i (by omega) fun j hj h0 O2=>dk j hj h0 (by omega)]
  have hc:i=0∨op[i].1≠id:=by
   rcases Nat.eq_zero_or_pos i with h | h
   ·exact .inl h
   ·exact .inr (dk i bM h (by omega))
  rw[if_pos hc,List.take_add_one,List.getElem?_eq_getElem bM];rfl
theorem xZ {op:List aP} {id:Int} {k:Nat} (Ig:0<k) (hk:k<op.length) (he:op[k].1=id) (dk:∀j (hj:j<op.length),j≠k->op[j].1≠id):∀i,i<=op.length->dj op id i=if k<i then(op.take i).eraseIdx k else op.take i
 | 0,_=>rfl
 | i+1,hi=>by
  have bM:i<op.length:=by omega
  unfold dj
  rw[aJ bM,xZ Ig hk he dk i (by omega)]
  have jO:op.take (i+1)=op.take i++ [op[i]]:=by rw[List.take_add_one,List.getElem?_eq_getElem bM];rfl
  by_cases Ys:i=k
  ·subst Ys
   rw[if_neg (fun h=>by rcases h with h | h;omega;exact h he),if_neg (by omega),if_pos (by omega),jO]
   have hlen:(op.take i).length=i:=by rw[List.length_take];omega
   rw[List.eraseIdx_append_of_length_le (by omega),hlen,Nat.sub_self]
   simp
  ·rw[if_pos (.inr (dk i bM Ys)),jO]
   by_cases h2:k<i
   ·rw[if_pos h2,if_pos (by omega),List.eraseIdx_append_of_lt_length (by rw[List.length_take];omega)]
   ·rw[if_neg h2,if_neg (by omega)]
theorem Jm {op:List aP} {id:Int} (jY:(op.map (·.1)).Nodup):dj op id op.length=bu op id:=by
 have uniq:∀i j (hi:i<op.length) (hj:j<op.length),op[i].1=op[j].1->i=j:=fun i j hi hj e=>
  by
   have hp:=List.pairwise_iff_getElem.1 jY
   rcases Nat.lt_trichotomy i j with h | h | h
   ·exact absurd (by rw[List.getElem_map,List.getElem_map];exact e) (hp i j (by simpa using hi) (by simpa using hj) h)
   ·exact h
   ·exact absurd (by rw[List.getElem_map,List.getElem_map];exact e.symm) (hp j i (by simpa using hj) (by simpa using hi) h)
 unfold bu
 have hq:=lH (l:=op) (p:=fun x=>decide (x.1=id))
 by_cases hex:∃k,∃hk:k<op.length,op[k].1=id
 ·obtain⟨k,hk,e⟩:=hex
  have dk:∀j (hj:j<op.length),j≠k->op[j].1≠id:=fun j hj bI e2=>bI (uniq j k hj hk (e2.trans e.symm))
  have hi:cK op (fun x=>decide (x.1=id))=(k:Int):=mZ hk (decide_eq_true e) fun j hj hjk=>decide_eq_false (dk j hj (by omega))
  rw[hi,Int.toNat_natCast]
  rcases Nat.eq_zero_or_pos k with h0 | h0
  ·rw[if_neg (by omega),rT _ (Nat.le_refl _) fun j hj h1 _=>dk j hj (by omega),List.take_length]
  ·rw[if_pos (by omega),xZ h0 hk e dk _ (Nat.le_refl _),if_pos hk,List.take_length]
 ·have dk:∀j (hj:j<op.length),op[j].1≠id:=fun j hj e=>hex ⟨j,hj,e⟩
  have hi:cK op (fun x=>decide (x.1=id))= -1:=nc fun j hj=>decide_eq_false (dk j hj)
  rw[hi,if_neg (by decide),rT _ (Nat.le_refl _) fun j hj _ _=>dk j hj,List.take_length]
theorem iY (p:RW h col w m) {id:Int} (hl:m.op.length<1000000) (jY:(m.op.map (·.1)).Nodup) (hk:∀h' col',RW h' col' w (gC m id)->al RS h col h' col'->K (.tuple ⟨[]⟩) h'):
  zC 120 [.pointer (some w),.int .i64 id] h K:=by
 obtain⟨t,T,W⟩:=p.ex
 obtain⟨ob,oc,mb,mn,mc,v,o,om⟩:=W.ex
 refine EF.ok _ _ _ _ ⟨m.op.length+1,?_⟩
 have key:∀k i h2 lb lc,i+k=m.op.length->bE bp h2 h.size 77 lb (dj m.op id i).length lc (dj m.op id i)->KB h h2->
   EF.cR (fun z0 VX VY VZ h=>EF.n3 z0 VX VY VZ (fun h=>K (.tuple ⟨[]⟩) h) (fun h=>K (.tuple ⟨[]⟩) h) h) (fun z0 VX VY VZ h=>EF.n3 z0 VX VY VZ (fun h=>K (.tuple ⟨[]⟩) h) (fun h=>K (.tuple ⟨[]⟩) h) h) (fun h=>K (.tuple ⟨[]⟩) h) (k+1) (some w) id lb (dj m.op id i).length lc (i:Int) h2:=by
  intro k
  induction k with
  | zero=>
   intro i h2 lb lc hi o2 k2
   unfold EF.cR LP EF.bS
   refine aa ⟨_,_,_,(v.kb k2).cell 1 rfl,bX (by omega) (aa ?_)⟩
   have ei:i=m.op.length:=by omega
   subst ei
   have o2':bN bp vm h2 h.size 77 lb (dj m.op id m.op.length).length lc (dj m.op id m.op.length):=⟨o2.own.flat kI,o2.lo,o2.hi,o2.nil⟩
   refine tX W p.fresh k2 o2' fun h5 W5 E5 f5 _=>hk h5 _ ⟨t,T.cJ (Z:=fun k=>k=3) (by decide) E5 f5,?_⟩ (E5.mono fun s hs=>.inr hs)
   rw[Jm jY] at W5
   exact W5
  | succ k ih=>
   intro i h2 lb lc hi o2 k2
   have bM:i<m.op.length:=by omega
   have hlen:=xY m.op id i
   unfold EF.cR LP EF.bS
   refine aa ⟨_,_,_,(v.kb k2).cell 1 rfl,bQ (by omega) ?_⟩
   have yes:(i=0∨m.op[i].1≠id)->∀(Kn Ke1:EF.T4) (Ke0:EF.T3) (Kr:EF.T0),(∀b' c' h',bE bp h' h.size 77 b' (dj m.op id (i+1)).length c' (dj m.op id (i+1))->KB h h'->Kn (some w) id b' (dj m.op id (i+1)).length c' (i:Int) h')->
     EF.uy (some w) id lb (dj m.op id i).length lc (i:Int) true Kn Ke1 Ke0 Kr h2:=by
    intro hy Kn Ke1 Ke0 Kr ZX
    have jO:dj m.op id (i+1)=dj m.op id i++ [m.op[i]]:=by
     conv=>lhs;unfold dj
     rw[aJ bM,if_pos hy]
    rw[jO,List.length_append] at ZX
    refine aF (aa ⟨_,_,_,(v.kb k2).cell 1 rfl,(o.kb k2).row.bn bM rfl fun q hA=>df hA fun ow=>?_⟩)
    refine Dl iz (x:=m.op[i]) (cs:=aX m.op[i]) (fun A h=>ow.r) o2 k2.1 (by simp only[maxLen];omega) (by omega) fun b' c' h' o' k'=>aC (ZX b' c' h' o' (SK.trans k2 (k'.less fun q hq=>⟨Nat.lt_of_lt_of_le hq k2.1,fun a ea e2=>by have:=o2.lo a ea;have hq:q<h.size:=hq;omega⟩)))
   have go:∀b' c' h',bE bp h' h.size 77 b' (dj m.op id (i+1)).length c' (dj m.op id (i+1))->KB h h'->
     bc .i64 ((i:Int)+1)/\EF.cR (fun z0 VX VY VZ h=>EF.n3 z0 VX VY VZ (fun h=>K (.tuple ⟨[]⟩) h) (fun h=>K (.tuple ⟨[]⟩) h) h) (fun z0 VX VY VZ h=>EF.n3 z0 VX VY VZ (fun h=>K (.tuple ⟨[]⟩) h) (fun h=>K (.tuple ⟨[]⟩) h) h) (fun h=>K (.tuple ⟨[]⟩) h) (k+1) (some w) id b' (dj m.op id (i+1)).length c' ((i:Int)+1) h':=fun b' c' h' o' k'=>
    ⟨aG (by omega) (by omega),ih (i+1) h' b' c' (by omega) o' k'⟩
   refine bh (fun e0=>yes (.inl (by omega)) _ _ _ _ go) fun e0=>aa ⟨_,_,_,(v.kb k2).cell 1 rfl,(o.kb k2).row.bn bM rfl fun q hA=>⟨_,hA.fst.int.1,bh (fun e1=>aE ?_) fun e1=>yes (.inr e1) _ _ _ _ go⟩⟩
   have jO:dj m.op id (i+1)=dj m.op id i:=by
    conv=>lhs;unfold dj
    rw[aJ bM,if_neg (fun h=>by rcases h with h | h;omega;exact h e1)]
   have:=go lb lc h2 (by rw[jO];exact o2) k2
   rw[jO] at this
   exact this
 exact key m.op.length 0 h none 0 (by omega) (bE.none _ _ _) (KB.refl h)
end
def rU (l:List aS):Prop:=∀x ∈ l,x.2.1.length<=4000/\x.2.2.length<=500/\∀a ∈ x.2.2,a.2.length<=4000
structure DI (m:WM) (u v x:Nat):Prop where
 G:aV m.ns
 B:gT m.ns
 ne:0<m.op.length
 ids:∀y ∈ m.op,0<=y.1/\y.1<m.ns.length
 nd:(m.op.map (·.1)).Nodup
 lo:m.op.length<=u
 ln:m.ns.length<=u
 ml:m.aD.length<=v
 mw:rU m.aD
 tx:gj m.ns x
theorem rU.w {l:List aS} (h:rU l):pP l:=fun x hx=>⟨by have:=(h x hx).1;omega,by have:=(h x hx).2.1;omega,fun a ha=>by have:=(h x hx).2.2 a ha;omega⟩
theorem DI.zero:DI EP 1 0 0:=
 ⟨IE,gT.KU,by decide,fun y hy=>by
  have:y=(0,0,sD,0):=by simpa [EP] using hy
  subst this;exact⟨by decide,by decide⟩,by decide,by decide,by decide,by decide,(fun y hy=>nomatch hy),gj.KU⟩
theorem DI.mono {m:WM} {u v x u' v' x':Nat} (H:DI m u v x) (h1:u<=u') (h2:v<=v') (h3:x<=x'):DI m u' v' x':=
 ⟨H.G,H.B,H.ne,H.ids,H.nd,Nat.le_trans H.lo h1,Nat.le_trans H.ln h1,Nat.le_trans H.ml h2,H.mw,H.tx.mono h3⟩
section
variable {m:WM} {u v x:Nat}
theorem DI.pos (H:DI m u v x):0<m.ns.length:=by obtain⟨r,hr,_⟩:=H.G.root;exact dv hr
theorem DI.insert (H:DI m u v x) (sp:Int) (nm:Bs) (gB:List bx):DI (bt m sp nm gB) (u+1) v x:=by
 have hl:(bt m sp nm gB).ns.length=m.ns.length+1:=ic H.G
 have eH:(bt m sp nm gB).op=m.op++ [((m.ns.length:Int),sp,nm,dt sp nm gB)]:=rfl
 have jZ:(bt m sp nm gB).op.length=m.op.length+1:=by rw[eH,List.length_append];rfl
 have h1:=H.lo
 have h2:=H.ln
 refine⟨pQ H.G,?_,by omega,fun y hy=>?_,?_,by omega,by omega,H.ml,H.mw,?_⟩
 ·exact(H.B.bF H.pos 1 sp nm gB []).mL (fH (H.G.bF _ _ _ _ _) _ _ _)
 ·rw[eH] at hy
  rw[hl]
  rcases List.mem_append.1 hy with h | h
  ·have:=H.ids y h;exact⟨this.1,by omega⟩
  ·rw[List.mem_singleton.1 h];exact⟨by show(0:Int)<=(m.ns.length:Int);omega,by show(m.ns.length:Int)<_;omega⟩
 ·rw[eH,List.map_append]
  refine List.nodup_append.2 ⟨H.nd,by simp,fun a ha b hb=>?_⟩
  obtain⟨y,hy,rfl⟩:=List.mem_map.1 ha
  have hb:b=(m.ns.length:Int):=by simpa using hb
  have:=(H.ids y hy).2
  omega
 ·have h1:gj (bF m.ns (bG 1 sp nm gB [])).1 x:=H.tx.bF (by simp)
  exact h1.mL (fH (H.G.bF _ _ _ _ _) _ _ _)
theorem wW {ns:List ay} (G:aV ns) (p b:Int) (tx:Bs):ns.length<=(cy ns p b tx).1.length:=by
 rcases pE (ns:=ns) p b tx with h | ⟨j,z,_,_,h⟩ | ⟨i,h⟩
 ·rw[h];exact Nat.le_refl _
 ·rw[h,List.length_set];exact Nat.le_refl _
 ·rw[h,fy (G.bF _ _ _ _ _)]
  show _<=(ns++ [_]).length
  simp
theorem DI.write (H:DI m u v x) {tx:Bs} (ht:tx.length<=4000):DI (gb m tx) (u+1) v (x+4000):=by
 have h1:=H.lo
 have h2:=H.ln
 have hg:=wW H.G (cU m).1 (cU m).2 tx
 have hl:=IG H.G (cU m).1 (cU m).2 tx
 refine⟨H.G.cy _ _ _,H.B.cy H.G H.pos _ _ _,H.ne,fun y hy=>?_,H.nd,by show m.op.length<=_;omega,by show(cy _ _ _ _).1.length<=_;omega,H.ml,H.mw,H.tx.cy H.G _ _ ht⟩
 have:=H.ids y hy
 exact⟨this.1,by show y.1<((cy _ _ _ _).1.length:Int);omega⟩
theorem DI.note (H:DI m u v x) {tx:Bs} (ht:tx.length<=4000):DI (uF m tx) (u+1) v (x+4000):=by
 have h1:=H.lo
 have h2:=H.ln
 have hl:(uF m tx).ns.length=m.ns.length+1:=by
  show(cV _ _ _ _).1.length=_
  rw[fy (H.G.bF _ _ _ _ _)]
  show(m.ns++ [_]).length=_
  simp
 refine⟨(H.G.bF _ _ _ _ _).cV _ _ _,(H.B.bF H.pos 3 0 [] [] tx).mL (fH (H.G.bF _ _ _ _ _) _ _ _),H.ne,fun y hy=>?_,H.nd,by show m.op.length<=_;omega,by omega,H.ml,H.mw,?_⟩
 ·have:=H.ids y hy
  exact⟨this.1,by rw[hl];omega⟩
 ·have h1:gj (bF m.ns (bG 3 0 [] [] tx)).1 (x+4000):=(H.tx.mono (by omega)).bF (by omega)
  exact h1.mL (fH (H.G.bF _ _ _ _ _) _ _ _)
theorem DI.ops (H:DI m u v x) {op:List aP} (bI:0<op.length) (hs:op.Sublist m.op):DI {m with op:=op} u v x:=
 ⟨H.G,H.B,bI,fun y hy=>H.ids y (hs.subset hy),H.nd.sublist (hs.map _),Nat.le_trans hs.length_le H.lo,H.ln,H.ml,H.mw,H.tx⟩
theorem DI.close (H:DI m u v x) (n:Int):DI (cX m n) u v x:=by
 unfold cX hZ
 have:=H.ne
 split
 ·exact H.ops (by rw[List.length_take];omega) (List.take_sublist _ _)
 ·exact H
theorem DI.drop (H:DI m u v x) (id:Int):DI (gC m id) u v x:=by
 unfold gC bu
 have hq:=lH (l:=m.op) (p:=fun x=>decide (x.1=id))
 split
 ·refine H.ops ?_ (List.eraseIdx_sublist _ _)
  rw[List.length_eraseIdx,if_pos (by omega)]
  omega
 ·exact H
theorem Eg {l:List aS} {y z:aS} (h:z ∈ fp l y):z ∈ l∨z=y:=by
 unfold fp at h
 split at h
 ·rcases List.mem_append.1 h with h | h
  ·exact .inl h
  ·exact .inr (List.mem_singleton.1 h)
 ·rcases List.mem_append.1 h with h | h
  ·exact .inl (List.mem_of_mem_eraseIdx h)
  ·exact .inr (List.mem_singleton.1 h)
theorem Eh (l:List aS) (y:aS):(fp l y).length<=l.length+1:=by
 unfold fp
 split
 ·rw[List.length_append];exact Nat.le_refl _
 ·rw[List.length_append]
  have:=List.length_eraseIdx_le l ((cM l y).headD 0)
  show _+1<=_
  omega
theorem DI.push (H:DI m u v x) {y:aS} (hy:y.2.1.length<=4000/\y.2.2.length<=500/\∀a ∈ y.2.2,a.2.length<=4000):DI {m with aD:=fp m.aD y} u (v+1) x:=
 ⟨H.G,H.B,H.ne,H.ids,H.nd,H.lo,H.ln,by have:=Eh m.aD y;have:=H.ml;show(fp _ _).length<=_;omega,fun z hz=>by
  rcases Eg hz with h | h
  ·exact H.mw z h
  ·rw[h];exact hy,H.tx⟩
theorem rU.set {l:List aS} (w:rU l) {i:Nat} (hi:i<l.length) (id:Int):rU (l.set i (id,l[i].2)):=fun x hx=>by
 rcases List.mem_or_eq_of_mem_set hx with h | h
 ·exact w x h
 ·rw[h];exact w l[i] (List.getElem_mem hi)
theorem DI.uG {v:Nat}:∀(k:Nat) {m:WM} {u x:Nat} (i:Nat),DI m u v x->i+k<=m.aD.length->DI (wX k m i) (u+k) v x
 | 0,m,u,x,i,H,_=>H
 | k+1,m,u,x,i,H,Ys=>by
  have hi:i<m.aD.length:=by omega
  have h1:=H.insert 0 (m.aD.getD i noMark).2.1 (m.aD.getD i noMark).2.2
  have hg:m.aD.getD i noMark=m.aD[i]:=aJ hi
  have h2:DI {bt m 0 (m.aD.getD i noMark).2.1 (m.aD.getD i noMark).2.2 with aD:=m.aD.set i ((m.ns.length:Int),(m.aD.getD i noMark).2)} (u+1) v x:=
   ⟨h1.G,h1.B,h1.ne,h1.ids,h1.nd,h1.lo,h1.ln,by show(m.aD.set _ _).length<=v;rw[List.length_set];exact H.ml,by rw[hg];exact H.mw.set hi _,h1.tx⟩
  have:=DI.uG k (i+1) h2 (by show i+1+k<=(m.aD.set _ _).length;rw[List.length_set];omega)
  rw[show u+(k+1)=u+1+k by omega]
  exact this
theorem DI.vX (H:DI m u v x):DI (aU m) (u+v) v x:=by
 have hr:=iT m.aD m.op m.aD.length
 have h1:(gE m.aD m.op).toNat<=m.aD.length:=by have:=hr.2;show(jA m.aD m.op m.aD.length).toNat<=_;omega
 have:=DI.uG (m.aD.length - (gE m.aD m.op).toNat) (gE m.aD m.op).toNat H (by omega)
 exact this.mono (by have:=H.ml;omega) (Nat.le_refl _) (Nat.le_refl _)
end
def AS (s:Nat):Prop:=PS s∨RS s
structure PD (h:H) (col:cd) (w r:Addr) (m:WM):Prop where
 P:PW h col w m
 R:RW h col r m
section
variable {h h':H} {K:KV} {col col':cd} {w r:Addr} {m m':WM} {u v x:Nat}
theorem PD.kb (D:PD h col w r m) (k:KB h h'):PD h' col w r m:=⟨D.P.kb k,D.R.kb k⟩
theorem PW.V0 {h1:H} {c1:cd} (P:PW h col w m) (E:al RS h col h1 c1) (f:bj h1 c1):PW h1 c1 w m:=P.ext E (by unfold RS;omega) (by unfold RS;omega) f
theorem RW.cJ {h1:H} {c1:cd} (R:RW h col r m) (E:al PS h col h1 c1) (f:bj h1 c1):RW h1 c1 r m:=R.ext E (by unfold PS;omega) (by unfold PS;omega) f
theorem PD.act {h1 h2:H} {c1 c2:cd} (D:PD h col w r m) (P1:PW h1 c1 w m') (E1:al PS h col h1 c1) (R2:RW h2 c2 r m') (E2:al RS h1 c1 h2 c2):PD h2 c2 w r m'/\al AS h col h2 c2:=
 ⟨⟨P1.V0 E2 R2.fresh,R2⟩,(E1.mono fun s hs=>.inl hs).trans (E2.mono fun s hs=>.inr hs)⟩
end
def uE (x:aP) (s:Bs):Bool:=decide (x.2.1=0)&&decide (x.2.2.1=s)
abbrev fk (x:aP):Bool:=cq x.2.1 x.2.2.1
def Ei (op:List aP) (s:Bs):Nat->Nat
 | 0=>0
 | i+1=>if i=0 then 0 else if uE (op.getD i aI) s then i else if fk (op.getD i aI) then 0 else Ei op s i
def fq (m:WM) (s:Bs):WM:=cX m (Ei m.op s m.op.length:Nat)
abbrev gm (op:List aP) (id:Int):Int:=cK op fun x=>decide (x.1=id)
def CE:List Bs:=[[42]]
def pd (x:aP):Bool:=lg [(0,0,[42],0),x] 0 CE
def eT (l:List aP):Bool:=l.all pd
def bW (m:WM) (k:Nat):WM:={m with aD:=m.aD.eraseIdx k}
def er (b k:Nat):Nat:=if k<b then b - 1 else b
noncomputable def dQ (blk f:Int):Nat->Nat->WM->Int->Nat->WM × Int × Nat
 | 0,_,m,last,b=>(m,last,b)
 | gB+1,n,m,last,b=>
  let x:=m.op.getD gB aI
  if x.1=f then(m,last,b)
  else
   let k:=br m.aD x.1
   if 0<=k/\n<3 then
    let c:=(bg m.ns x.1).2
    dQ blk f gB (n+1)
     {m with ns:=(cV (bg m.ns x.1).1 c (-1) last).1,op:=m.op.set gB (c,x.2),aD:=m.aD.set k.toNat (c,(m.aD.getD k.toNat noMark).2)}
     c (if last=blk then k.toNat+1 else b)
   else if 0<=k then dQ blk f gB (n+1) (gC (bW m k.toNat) x.1) last (er b k.toNat)
   else dQ blk f gB (n+1) (gC m x.1) last b
def cQ {α:Type} (l:List α) (i:Nat) (x:α):List α:=l.take i++x::l.drop i
noncomputable def ny (m:WM) (f blk:Int) (b:Nat):WM:=
 let id:=(bg m.ns f).2
 let ns:=(cV (dn (bg m.ns f).1 blk id).1 blk (-1) id).1
 let k:=(br m.aD f).toNat
 let op:=bu m.op f
 {m with ns:=ns,aD:=cQ (m.aD.eraseIdx k) (er b k) (id,(m.aD.getD k noMark).2),op:=cQ op ((gm op blk)+1).toNat (id,(m.op.getD (gm m.op f).toNat aI).2)}
noncomputable def uD (m:WM) (f:Int) (k gB n:Nat):WM:=
 let blk:=(m.op.getD n aI).1
 let r:=dQ blk f n 0 m blk k
 let p:=cv r.1.ns r.1.op r.1.fo (m.op.getD (gB - 1) aI)
 ny {r.1 with ns:=(cV r.1.ns p.1 p.2 r.2.1).1} f blk r.2.2
noncomputable def jv (m:WM) (k:Nat):WM × Bool:=
 let f:=(m.aD.getD k noMark).1
 if gm m.op f<0 then(bW m k,false)
 else
  let gB:=(gm m.op f).toNat
  if eT (m.op.drop (gB+1))=false then(m,false)
  else if cK (m.op.drop (gB+1)) fk<0 then(bW (cX m gB) k,false)
  else(uD m f k gB ((cK (m.op.drop (gB+1)) fk).toNat+(gB+1)),true)
noncomputable def eU (s:Bs):Nat->WM->WM × Bool
 | 0,m=>(m,true)
 | r+1,m=>
  if fC m.aD s<0 then(m,false)
  else if(jv m (fC m.aD s).toNat).2 then eU s r (jv m (fC m.aD s).toNat).1
  else((jv m (fC m.aD s).toNat).1,true)
noncomputable def runM (m:WM) (s:Bs):WM × Bool:=
 if uE (dR m.op) s=true/\br m.aD (dR m.op).1<0 then(cX m ((m.op.length:Int) - 1),true)
 else eU s 8 m
def fU (ns ns':List ay):Prop:=∀(j:Nat) z,ns[j]? =some z->∃z',ns'[j]? =some z'/\z'.kind=z.kind
theorem fU.mL {ns ns':List ay} (l:gF ns ns') (hl:ns'.length=ns.length):fU ns ns':=fun j z hz=>by
 have hj:j<ns.length:=(List.getElem?_eq_some_iff.1 hz).1
 have h':ns'[j]? =some (ns'[j]'(by omega)):=List.getElem?_eq_getElem (by omega)
 obtain⟨y,hy,e,_⟩:=l j _ h'
 rw[hz] at hy;cases hy
 exact⟨_,h',e⟩
theorem fU.trans {a b c:List ay} (h:fU a b) (k:fU b c):fU a c:=fun j z hz=>by
 obtain⟨y,hy,e⟩:=h j z hz
 obtain⟨x,hx,e2⟩:=k j y hy
 exact⟨x,hx,e2.trans e⟩
structure AI (m:WM) (u v x:Nat):Prop where
 D:DI m u v x
 root:(m.op.getD 0 aI).1=0
 kind:∀y ∈ m.op,y.1≠0->∃z,m.ns[y.1.toNat]? =some z/\z.kind=1
 tI:∀y ∈ m.aD,y.1≠0
 yC:∀y ∈ m.op,y.2.2.1.length<=4000
section
variable {m:WM} {u v x u':Nat}
theorem AI.mono {v' x':Nat} (A:AI m u v x) (h1:u<=u') (h2:v<=v') (h3:x<=x'):AI m u' v' x':=⟨A.D.mono h1 h2 h3,A.root,A.kind,A.tI,A.yC⟩
theorem AI.tree (A:AI m u v x) {ns':List ay} (G:aV ns') (B:gT ns') (T:gj ns' x) (hu:ns'.length<=u') (huu:u<=u') (hl:m.ns.length<=ns'.length) (hk:fU m.ns ns'):AI {m with ns:=ns'} u' v x:=
 ⟨⟨G,B,A.D.ne,fun y hy=>by have:=A.D.ids y hy;exact⟨this.1,by show y.1<(ns'.length:Int);omega⟩,A.D.nd,Nat.le_trans A.D.lo huu,hu,A.D.ml,A.D.mw,T⟩,A.root,
  fun y hy h0=>by obtain⟨z,hz,e⟩:=A.kind y hy h0;obtain⟨z',iJ,e'⟩:=hk _ z hz;exact⟨z',iJ,e'.trans e⟩,A.tI,A.yC⟩
theorem AI.put (A:AI m u v x) (q b i:Int):AI {m with ns:=(cV m.ns q b i).1} u v x:=by
 have hl:(cV m.ns q b i).1.length=m.ns.length:=fy A.D.G q b i
 have hk:=fH A.D.G q b i
 exact A.tree (A.D.G.cV q b i) (A.D.B.mL hk) (A.D.tx.mL hk) (by rw[hl];exact A.D.ln) (Nat.le_refl _) (Nat.le_of_eq hl.symm) (.mL hk hl)
theorem AI.move (A:AI m u v x) (q b:Int):AI {m with ns:=(dn m.ns q b).1} u v x:=by
 have hl:(dn m.ns q b).1.length=m.ns.length:=sO q b
 have hk:=zA (ns:=m.ns) q b
 exact A.tree (A.D.G.dn q b) (A.D.B.mL hk) (A.D.tx.mL hk) (by rw[hl];exact A.D.ln) (Nat.le_refl _) (Nat.le_of_eq hl.symm) (.mL hk hl)
theorem QP {ns:List ay} {id:Int} {z:ay} (h0:0<=id) (hz:ns[id.toNat]? =some z) (hk:z.kind=1):bg ns id=(ns++ [⟨1,z.space,z.name,z.attrs,[], -1,[]⟩],(ns.length:Int)):=by
 have cP:id.toNat<ns.length:=(List.getElem?_eq_some_iff.1 hz).1
 unfold bg
 rw[if_pos ⟨h0,by omega⟩,hz]
 show bF ns (bG z.kind z.space z.name z.attrs z.text)=_
 unfold bG
 rw[if_pos hk,hk]
 rfl
theorem AI.pos (A:AI m u v x):0<m.ns.length:=A.D.pos
theorem AI.copy (A:AI m u v x) {y:aP} (hy:y ∈ m.op) (h0:y.1≠0):AI {m with ns:=(bg m.ns y.1).1} (u+1) v x/\(bg m.ns y.1).2=(m.ns.length:Int)/\(bg m.ns y.1).1.length=m.ns.length+1/\∃z,(bg m.ns y.1).1[m.ns.length]? =some z/\z.kind=1:=by
 obtain⟨z,hz,hk⟩:=A.kind y hy h0
 have e:=QP (A.D.ids y hy).1 hz hk
 have hl:(bg m.ns y.1).1.length=m.ns.length+1:=by rw[e];simp
 have rB:=A.D.ln
 refine⟨A.tree (A.D.G.bg _) (A.D.B.bg A.pos _) (A.D.tx.bg _) (by omega) (by omega) (by omega) fun j z hz=>⟨z,?_,rfl⟩,by rw[e],hl,?_⟩
 ·rw[e]
  have hj:j<m.ns.length:=(List.getElem?_eq_some_iff.1 hz).1
  show(m.ns++ [_])[j]? =_
  rw[List.getElem?_append_left hj];exact hz
 ·rw[e]
  exact⟨_,by show(m.ns++ [_])[m.ns.length]? =_;rw[List.getElem?_append_right (Nat.le_refl _)];simp;rfl,rfl⟩
theorem AI.ops (A:AI m u v x) {op:List aP} (bI:0<op.length) (hs:op.Sublist m.op) (hr:(op.getD 0 aI).1=0):AI {m with op:=op} u v x:=
 ⟨A.D.ops bI hs,hr,fun y hy=>A.kind y (hs.subset hy),A.tI,fun y hy=>A.yC y (hs.subset hy)⟩
theorem getD_take {α:Type} (l:List α) {n:Nat} (hn:0<n) (d:α):(l.take n).getD 0 d=l.getD 0 d:=by
 cases l with
 | nil=>simp
 | cons a l=>cases n with
  | zero=>omega
  | succ n=>rfl
theorem getD_erase {α:Type} (l:List α) {i j:Nat} (hij:j<i) (d:α):(l.eraseIdx i).getD j d=l.getD j d:=by
 rw[List.getD_eq_getElem?_getD,List.getD_eq_getElem?_getD,List.getElem?_eraseIdx,if_pos hij]
theorem AI.close (A:AI m u v x) (n:Int):AI (cX m n) u v x:=by
 have hc:=A.D.close n
 unfold cX hZ at*
 split
 ·rename_i h
  rw[if_pos h] at hc
  exact A.ops hc.ne (List.take_sublist _ _) (by rw[getD_take _ (by omega)];exact A.root)
 ·exact A
theorem AI.drop (A:AI m u v x) (id:Int):AI (gC m id) u v x:=by
 have hc:=A.D.drop id
 unfold gC bu at*
 split
 ·rename_i h
  rw[if_pos h] at hc
  exact A.ops hc.ne (List.eraseIdx_sublist _ _) (by rw[getD_erase _ (by omega)];exact A.root)
 ·exact A
theorem AI.fq (A:AI m u v x) (s:Bs):AI (fq m s) u v x:=A.close _
theorem AI.marks (A:AI m u v x) {l:List aS} (hl:l.length<=v) (hw:rU l) (hm:∀y ∈ l,y.1≠0):AI {m with aD:=l} u v x:=
 ⟨⟨A.D.G,A.D.B,A.D.ne,A.D.ids,A.D.nd,A.D.lo,A.D.ln,hl,hw,A.D.tx⟩,A.root,A.kind,hm,A.yC⟩
theorem AI.bW (A:AI m u v x) (k:Nat):AI (bW m k) u v x:=
 A.marks (Nat.le_trans (List.length_eraseIdx_le _ _) A.D.ml) (fun y hy=>A.D.mw y (List.mem_of_mem_eraseIdx hy)) fun y hy=>A.tI y (List.mem_of_mem_eraseIdx hy)
theorem fD {α:Type} {l:List α} {p:α->Bool} (h:0<=cK l p):∃hi:(cK l p).toNat<l.length,p l[(cK l p).toNat]=true/\∀j (hj:j<l.length),j<(cK l p).toNat->p l[j]=false:=by
 unfold cK at*
 cases hq:l.findIdx? p with
 | none=>rw[hq] at h;exact absurd h (by decide)
 | some i=>
  obtain⟨hi,h1,h2⟩:=List.findIdx?_eq_some_iff_getElem.1 hq
  exact⟨hi,h1,fun j hj O2=>by simpa using h2 j O2⟩
theorem AI.SE (A:AI m u v x) {i j:Nat} (hi:i<m.op.length) (hj:j<m.op.length) (e:m.op[i].1=m.op[j].1):i=j:=by
 have hn:=A.D.nd
 have h1:(m.op.map (·.1))[i]'(by simpa using hi)=(m.op.map (·.1))[j]'(by simpa using hj):=by simpa using e
 have hp:=List.pairwise_iff_getElem.1 hn
 rcases Nat.lt_trichotomy i j with h | h | h
 ·exact absurd h1 (hp i j (by simpa using hi) (by simpa using hj) h)
 ·exact h
 ·exact absurd h1.symm (hp j i (by simpa using hj) (by simpa using hi) h)
theorem AI.tM (A:AI m u v x) {i:Nat} (hi:i<m.op.length):gm m.op m.op[i].1=(i:Int):=by
 have h0:0<=gm m.op m.op[i].1:=by
  refine mD.2 (List.any_eq_true.2 ⟨_,List.getElem_mem hi,by simp⟩)
 obtain⟨hk,h1,h2⟩:=fD h0
 have:=A.SE hk hi (by simpa using h1)
 show cK m.op _=_
 have e:(cK m.op fun x=>decide (x.1=m.op[i].1)).toNat=i:=this
 have h0:0<=cK m.op fun x=>decide (x.1=m.op[i].1):=h0
 omega
theorem AI.OH (A:AI m u v x) {i:Nat} (hi:i<m.op.length) (h0:0<i):m.op[i].1≠0:=fun e=>by
 have hr:=A.root
 have hp:=A.D.ne
 rw[aJ hp] at hr
 have:=A.SE hi hp (e.trans hr.symm)
 omega
theorem AI.vO (A:AI m u v x) {i:Nat} (hi:i<m.op.length) (h0:0<i):bu m.op m.op[i].1=m.op.eraseIdx i:=by
 have e:=A.tM hi
 unfold bu
 have e:(cK m.op fun x=>decide (x.1=m.op[i].1))=(i:Int):=e
 rw[e,if_pos (by omega)];rfl
theorem gp {l:List aS} {id:Int} (h:0<=br l id):0<=id/\∃hi:(br l id).toNat<l.length,l[(br l id).toNat].1=id:=by
 unfold br at*
 split at h
 ·exact absurd h (by decide)
 ·rename_i hn
  obtain⟨hi,h1,_⟩:=fD h
  simp only[if_neg hn]
  exact⟨by omega,hi,by simpa using h1⟩
theorem pZ {l:List aS} {id:Int} (h0:0<=id):0<=br l id↔∃y ∈ l,y.1=id:=by
 unfold br
 rw[if_neg (by omega),mD,List.any_eq_true]
 simp
structure CI (m:WM) (u v x:Nat) (f:Int) (j b q:Nat):Prop where
 A:AI m u v x
 hj:j<q
 h0:0<j
 hq:q<=m.op.length
 hf:(m.op.getD j aI).1=f
 hm:∃y ∈ m.aD,y.1=f
 hb:b<=m.aD.length
variable {f:Int} {j b q:Nat}
theorem CI.lt (C:CI m u v x f j b (q+1)) (bI:(m.op.getD q aI).1≠f):j<q:=by
 have:=C.hj
 rcases Nat.lt_or_ge j q with h | h
 ·exact h
 ·have:q=j:=by omega
  rw[this] at bI;exact absurd C.hf bI
theorem CI.pos (C:CI m u v x f j b (q+1)) (bI:(m.op.getD q aI).1≠f):0<q:=by have:=C.lt bI;omega
theorem ya {α:Type} (l:List α) {i j:Nat} (hij:j≠i) (y d:α):(l.set i y).getD j d=l.getD j d:=by
 rw[List.getD_eq_getElem?_getD,List.getD_eq_getElem?_getD,List.getElem?_set_ne (fun e=>hij e.symm)]
theorem Jn {β:Type} {l:List (Int × β)} (hn:(l.map (·.1)).Nodup) {i:Nat} {y:Int × β} (hy:∀z ∈ l,z.1≠y.1):((l.set i y).map (·.1)).Nodup:=by
 induction l generalizing i with
 | nil=>exact hn
 | cons a l ih=>
  rw[List.map_cons,List.nodup_cons] at hn
  cases i with
  | zero=>
   rw[List.set_cons_zero,List.map_cons,List.nodup_cons]
   refine⟨fun h=>?_,hn.2⟩
   obtain⟨z,hz,e⟩:=List.mem_map.1 h
   exact hy z (by simp[hz]) e
  | succ i=>
   rw[List.set_cons_succ,List.map_cons,List.nodup_cons]
   refine⟨fun h=>?_,ih hn.2 fun z hz=>hy z (by simp[hz])⟩
   obtain⟨z,hz,e⟩:=List.mem_map.1 h
   rcases List.mem_or_eq_of_mem_set hz with h2 | h2
   ·exact hn.1 (List.mem_map.2 ⟨z,h2,e⟩)
   ·subst h2;exact hy a (by simp) e.symm
theorem AI.QQ (A:AI m u v x) {i:Nat} (hi:i<m.op.length) (h0:0<i):AI {m with ns:=(bg m.ns m.op[i].1).1,op:=m.op.set i ((bg m.ns m.op[i].1).2,m.op[i].2)} (u+1) v x:=by
 obtain⟨A1,e,hl,z,hz,hk⟩:=A.copy (List.getElem_mem hi) (A.OH hi h0)
 have jZ:=A.D.lo
 refine⟨⟨A1.D.G,A1.D.B,by show 0<(m.op.set _ _).length;rw[List.length_set];exact A.D.ne,fun y hy=>?_,?_,by show(m.op.set _ _).length<=_;rw[List.length_set];omega,A1.D.ln,A.D.ml,A.D.mw,A1.D.tx⟩,?_,fun y hy hy0=>?_,A.tI,fun y hy=>?_⟩
 ·rcases List.mem_or_eq_of_mem_set hy with h | h
  ·exact A1.D.ids y h
  ·subst h
   rw[e]
   exact⟨by show(0:Int)<=(m.ns.length:Int);omega,by show(m.ns.length:Int)<((bg m.ns m.op[i].1).1.length:Int);omega⟩
 ·refine Jn A.D.nd fun z hz=>?_
  have:=(A.D.ids z hz).2
  rw[e]
  exact fun h=>by have h:z.1=(m.ns.length:Int):=h;omega
 ·rw[ya _ (by omega)];exact A.root
 ·rcases List.mem_or_eq_of_mem_set hy with h | h
  ·exact A1.kind y h hy0
  ·subst h
   rw[e]
   exact⟨z,by show(bg m.ns m.op[i].1).1[(m.ns.length:Int).toNat]? =_;rw[Int.toNat_natCast];exact hz,hk⟩
 ·rcases List.mem_or_eq_of_mem_set hy with h | h
  ·exact A.yC y h
  ·subst h;exact A.yC m.op[i] (List.getElem_mem hi)
theorem CI.copy (C:CI m u v x f j b (q+1)) (bI:(m.op.getD q aI).1≠f) (hk:0<=br m.aD (m.op.getD q aI).1) (last:Int) {b':Nat} (IM:b'=(br m.aD (m.op.getD q aI).1).toNat+1∨b'=b):
  CI {m with ns:=(cV (bg m.ns (m.op.getD q aI).1).1 (bg m.ns (m.op.getD q aI).1).2 (-1) last).1,op:=m.op.set q ((bg m.ns (m.op.getD q aI).1).2,(m.op.getD q aI).2),aD:=m.aD.set (br m.aD (m.op.getD q aI).1).toNat ((bg m.ns (m.op.getD q aI).1).2,(m.aD.getD (br m.aD (m.op.getD q aI).1).toNat noMark).2)} (u+1) v x f j b' q:=by
 have hq:q<m.op.length:=by have:=C.hq;omega
 have hjq:=C.lt bI
 have hp:=C.pos bI
 have eg:m.op.getD q aI=m.op[q]:=aJ hq
 rw[eg] at bI hk IM ⊢
 obtain⟨_,dJ,WY⟩:=gp hk
 obtain⟨A1,e,hl,_⟩:=C.A.copy (List.getElem_mem hq) (C.A.OH hq hp)
 have A2:=C.A.QQ hq hp
 have tL:m.aD.getD (br m.aD m.op[q].1).toNat noMark=m.aD[(br m.aD m.op[q].1).toNat]:=aJ dJ
 rw[tL]
 have A3:AI {m with ns:=(bg m.ns m.op[q].1).1,op:=m.op.set q ((bg m.ns m.op[q].1).2,m.op[q].2),aD:=m.aD.set (br m.aD m.op[q].1).toNat ((bg m.ns m.op[q].1).2,m.aD[(br m.aD m.op[q].1).toNat].2)} (u+1) v x:=by
  refine A2.marks (l:=m.aD.set (br m.aD m.op[q].1).toNat ((bg m.ns m.op[q].1).2,m.aD[(br m.aD m.op[q].1).toNat].2)) (by rw[List.length_set];exact C.A.D.ml) (C.A.D.mw.set dJ _) fun y hy=>?_
  rcases List.mem_or_eq_of_mem_set hy with h | h
  ·exact C.A.tI y h
  ·subst h
   have:=C.A.pos
   rw[e]
   exact fun h=>by have h:(m.ns.length:Int)=0:=h;omega
 refine⟨A3.put (bg m.ns m.op[q].1).2 (-1) last,hjq,C.h0,by show q<=(m.op.set _ _).length;rw[List.length_set];omega,by show((m.op.set _ _).getD j aI).1=f;rw[ya _ (by omega)];exact C.hf,?_,by
  show b'<=(m.aD.set _ _).length
  rw[List.length_set]
  have:=C.hb
  omega⟩
 obtain⟨y,hy,ey⟩:=C.hm
 obtain⟨i,hi,rfl⟩:=List.mem_iff_getElem.1 hy
 have FV:(br m.aD m.op[q].1).toNat≠i:=fun h=>by
  subst h
  rw[WY] at ey;exact bI ey
 exact⟨m.aD[i],by
  show m.aD[i] ∈ m.aD.set _ _
  rw[List.mem_iff_getElem]
  exact⟨i,by rw[List.length_set];exact hi,by rw[List.getElem_set_ne FV]⟩,ey⟩
theorem CI.uI (C:CI m u v x f j b (q+1)) (bI:(m.op.getD q aI).1≠f):CI (gC m (m.op.getD q aI).1) u v x f j b q:=by
 have hq:q<m.op.length:=by have:=C.hq;omega
 have hjq:=C.lt bI
 have hp:=C.pos bI
 have eg:m.op.getD q aI=m.op[q]:=aJ hq
 have hd:(gC m (m.op.getD q aI).1).op=m.op.eraseIdx q:=by rw[eg];exact C.A.vO hq hp
 refine⟨C.A.drop _,hjq,C.h0,?_,?_,C.hm,C.hb⟩
 ·rw[hd,List.length_eraseIdx,if_pos hq];omega
 ·rw[hd,getD_erase _ hjq];exact C.hf
theorem CI.bW (C:CI m u v x f j b (q+1)) (bI:(m.op.getD q aI).1≠f) (hk:0<=br m.aD (m.op.getD q aI).1):CI (bW m (br m.aD (m.op.getD q aI).1).toNat) u v x f j (er b (br m.aD (m.op.getD q aI).1).toNat) (q+1):=by
 obtain⟨_,dJ,WY⟩:=gp hk
 have hb:=C.hb
 refine⟨C.A.bW _,C.hj,C.h0,C.hq,C.hf,?_,?_⟩
 ·obtain⟨y,hy,ey⟩:=C.hm
  refine⟨y,?_,ey⟩
  refine List.mem_eraseIdx_iff_getElem.2 ?_
  obtain⟨i,hi,rfl⟩:=List.mem_iff_getElem.1 hy
  exact⟨i,hi,fun h=>by subst h;rw[WY] at ey;exact bI ey,rfl⟩
 ·show er b _<=(m.aD.eraseIdx _).length
  rw[List.length_eraseIdx,if_pos dJ]
  unfold er
  split <;> omega
theorem iQ (blk:Int):∀(q n:Nat) {m:WM} {u v x:Nat} {b:Nat} (last:Int),CI m u v x f j b q->CI (dQ blk f q n m last b).1 (u+(3 - n)) v x f j (dQ blk f q n m last b).2.2 (j+1)
 | 0,n,m,u,v,x,b,last,C=>absurd C.hj (by omega)
 | q+1,n,m,u,v,x,b,last,C=>by
  unfold dQ
  simp only[]
  by_cases hf:(m.op.getD q aI).1=f
  ·rw[if_pos hf]
   exact⟨C.A.mono (by omega) (Nat.le_refl _) (Nat.le_refl _),by omega,C.h0,by have:=C.hj;have:=C.hq;show j+1<=m.op.length;omega,C.hf,C.hm,C.hb⟩
  ·rw[if_neg hf]
   by_cases h1:0<=br m.aD (m.op.getD q aI).1/\n<3
   ·rw[if_pos h1]
    have C2:=C.copy hf h1.1 last (b':=if last=blk then(br m.aD (m.op.getD q aI).1).toNat+1 else b) (by split;exact .inl rfl;exact .inr rfl)
    have:=iQ blk q (n+1) (bg m.ns (m.op.getD q aI).1).2 C2
    rw[show u+(3 - n)=u+1+(3 - (n+1)) by omega]
    exact this
   ·rw[if_neg h1]
    by_cases h2:0<=br m.aD (m.op.getD q aI).1
    ·rw[if_pos h2]
     have C2:=(C.bW hf h2).uI hf
     have:=iQ blk q (n+1) last C2
     exact⟨this.A.mono (by omega) (Nat.le_refl _) (Nat.le_refl _),this.hj,this.h0,this.hq,this.hf,this.hm,this.hb⟩
    ·rw[if_neg h2]
     have:=iQ blk q (n+1) last (C.uI hf)
     exact⟨this.A.mono (by omega) (Nat.le_refl _) (Nat.le_refl _),this.hj,this.h0,this.hq,this.hf,this.hm,this.hb⟩
end
section
variable {m:WM} {u v x j b q:Nat} {f blk:Int}
def BI (m:WM) (blk:Int) (q:Nat):Prop:=∃i,q<=i/\i<m.op.length/\(m.op.getD i aI).1=blk
theorem CI.HS (C:CI m u v x f j b (q+1)) (bI:(m.op.getD q aI).1≠f):(gC m (m.op.getD q aI).1).op=m.op.eraseIdx q:=by
 have hq:q<m.op.length:=by have:=C.hq;omega
 rw[aJ hq]
 exact C.A.vO hq (C.pos bI)
theorem BI.drop (B:BI m blk (q+1)) {m':WM} (hq:q<m.op.length) (ho:m'.op=m.op.eraseIdx q):BI m' blk q:=by
 obtain⟨i,h1,h2,h3⟩:=B
 refine⟨i - 1,by omega,by rw[ho,List.length_eraseIdx,if_pos hq];omega,?_⟩
 rw[ho,List.getD_eq_getElem?_getD,List.getElem?_eraseIdx,if_neg (by omega),show i - 1+1=i by omega,<-List.getD_eq_getElem?_getD]
 exact h3
theorem mE:∀(q n:Nat) {m:WM} {u v x b:Nat} (last:Int),CI m u v x f j b q->BI m blk q->BI (dQ blk f q n m last b).1 blk (j+1)
 | 0,n,m,u,v,x,b,last,C,B=>absurd C.hj (by omega)
 | q+1,n,m,u,v,x,b,last,C,B=>by
  have hq:q<m.op.length:=by have:=C.hq;omega
  unfold dQ
  simp only[]
  by_cases hf:(m.op.getD q aI).1=f
  ·rw[if_pos hf]
   obtain⟨i,h1,h2,h3⟩:=B
   exact⟨i,by have:=C.hj;omega,h2,h3⟩
  ·rw[if_neg hf]
   by_cases h1:0<=br m.aD (m.op.getD q aI).1/\n<3
   ·rw[if_pos h1]
    have C2:=C.copy hf h1.1 last (b':=if last=blk then(br m.aD (m.op.getD q aI).1).toNat+1 else b) (by split;exact .inl rfl;exact .inr rfl)
    refine mE q (n+1) _ C2 ?_
    obtain⟨i,h1,h2,h3⟩:=B
    exact⟨i,by omega,by show i<(m.op.set _ _).length;rw[List.length_set];exact h2,by show((m.op.set _ _).getD i aI).1=blk;rw[ya _ (by omega)];exact h3⟩
   ·rw[if_neg h1]
    by_cases h2:0<=br m.aD (m.op.getD q aI).1
    ·rw[if_pos h2]
     have C1:=C.bW hf h2
     exact mE q (n+1) last (C1.uI hf) (B.drop (m':=gC (bW m _) _) hq (C1.HS hf))
    ·rw[if_neg h2]
     exact mE q (n+1) last (C.uI hf) (B.drop hq (C.HS hf))
theorem NH {α:Type} (l:List α) {i:Nat} (hi:0<i) (hl:0<l.length) (y d:α):(cQ l i y).getD 0 d=l.getD 0 d:=by
 unfold cQ
 cases l with
 | nil=>simp at hl
 | cons a l=>cases i with
  | zero=>omega
  | succ i=>rfl
theorem sN {α:Type} {l:List α} {i:Nat} {y z:α} (h:z ∈ cQ l i y):z ∈ l∨z=y:=by
 unfold cQ at h
 rcases List.mem_append.1 h with h | h
 ·exact .inl (List.mem_of_mem_take h)
 ·rcases List.mem_cons.1 h with h | h
  ·exact .inr h
  ·exact .inl (List.mem_of_mem_drop h)
theorem vW {α:Type} (l:List α) (i:Nat) (y:α):(cQ l i y).length=l.length+1:=by
 unfold cQ
 rw[List.length_append,List.length_cons,List.length_take,List.length_drop]
 omega
theorem Gy {β:Type} {l:List (Int × β)} (hn:(l.map (·.1)).Nodup) {i:Nat} {y:Int × β} (hy:∀z ∈ l,z.1≠y.1):((cQ l i y).map (·.1)).Nodup:=by
 unfold cQ
 rw[List.map_append,List.map_cons]
 have hp:(l.map (·.1))=(l.take i).map (·.1)++(l.drop i).map (·.1):=by rw[<-List.map_append,List.take_append_drop]
 rw[hp] at hn
 obtain⟨h1,h2,h3⟩:=List.nodup_append.1 hn
 refine List.nodup_append.2 ⟨h1,List.nodup_cons.2 ⟨fun h=>?_,h2⟩,fun p hp q hq=>?_⟩
 ·obtain⟨z,hz,e⟩:=List.mem_map.1 h
  exact hy z (List.mem_of_mem_drop hz) e
 ·rcases List.mem_cons.1 hq with e | e
  ·subst e
   intro e2
   obtain⟨z,hz,e3⟩:=List.mem_map.1 hp
   exact hy z (List.mem_of_mem_take hz) (e3.trans e2)
  ·exact h3 p hp q e
theorem CI.renew (C:CI m u v x f j b q) (B:BI m blk (j+1)):AI (ny m f blk b) (u+1) v x:=by
 have fY:j<m.op.length:=Nat.lt_of_lt_of_le C.hj C.hq
 have eg:m.op.getD j aI=m.op[j]:=aJ fY
 have tG:m.op[j].1=f:=by have:=C.hf;rwa[eg] at this
 have XV:0<=f:=by rw[<-tG];exact(C.A.D.ids _ (List.getElem_mem fY)).1
 have wB:gm m.op f=(j:Int):=by rw[<-tG];exact C.A.tM fY
 obtain⟨A1,ec,hcl,z,hz,hzk⟩:=C.A.copy (List.getElem_mem fY) (C.A.OH fY C.h0)
 rw[tG] at A1 ec hcl hz
 have A2:=(A1.move blk (bg m.ns f).2).put blk (-1) (bg m.ns f).2
 have wG:bu m.op f=m.op.eraseIdx j:=by rw[<-tG];exact C.A.vO fY C.h0
 have Tg:0<=br m.aD f:=(pZ XV).2 C.hm
 obtain⟨_,dJ,_⟩:=gp Tg
 have tL:m.aD.getD (br m.aD f).toNat noMark=m.aD[(br m.aD f).toNat]:=aJ dJ
 have rB:=C.A.D.ln
 have jZ:=C.A.D.lo
 have jn:=C.A.D.ml
 obtain⟨i,Ax,yo,hi3⟩:=B
 have WZ:(m.op.eraseIdx j).length=m.op.length - 1:=by rw[List.length_eraseIdx,if_pos fY]
 have Ad:=C.A.drop f
 have uw:0<((gm (bu m.op f) blk)+1).toNat:=by
  have je:∃y ∈ bu m.op f,y.1=blk:=by
   rw[wG]
   refine⟨m.op[i],List.mem_eraseIdx_iff_getElem.2 ⟨i,yo,by omega,rfl⟩,?_⟩
   rwa[aJ yo] at hi3
  have:0<=cK (bu m.op f) (fun x=>decide (x.1=blk)):=by
   rw[mD,List.any_eq_true]
   obtain⟨y,hy,e⟩:=je
   exact⟨y,hy,by simpa using e⟩
  have:0<=gm (bu m.op f) blk:=this
  omega
 have hid:∀y ∈ bu m.op f,y.1≠(m.ns.length:Int):=fun y hy e=>by
  have:=(Ad.D.ids y hy).2
  have h2:y.1<(m.ns.length:Int):=this
  omega
 have hlen:(cV (dn (bg m.ns f).1 blk (bg m.ns f).2).1 blk (-1) (bg m.ns f).2).1.length=m.ns.length+1:=by
  rw[fy (A1.move blk (bg m.ns f).2).D.G,sO,hcl]
 have kk:fU (bg m.ns f).1 (cV (dn (bg m.ns f).1 blk (bg m.ns f).2).1 blk (-1) (bg m.ns f).2).1:=
  (fU.mL (zA _ _) (sO _ _)).trans (.mL (fH (A1.move blk (bg m.ns f).2).D.G _ _ _) (fy (A1.move blk (bg m.ns f).2).D.G _ _ _))
 unfold ny
 simp only[wB,Int.toNat_natCast,eg,tL,ec] at A2 hlen kk ⊢
 have hyy:∀y ∈ cQ (bu m.op f) ((gm (bu m.op f) blk)+1).toNat ((m.ns.length:Int),m.op[j].2),y ∈ m.op∨y=((m.ns.length:Int),m.op[j].2):=fun y hy=>by
  rcases sN hy with h | h
  ·refine .inl ?_
   rw[wG] at h
   exact List.mem_of_mem_eraseIdx h
  ·exact .inr h
 refine⟨⟨A2.D.G,A2.D.B,?_,fun y hy=>?_,?_,?_,A2.D.ln,?_,fun y hy=>?_,A2.D.tx⟩,?_,fun y hy hy0=>?_,fun y hy=>?_,fun y hy=>?_⟩
 ·show 0<(cQ _ _ _).length
  rw[vW];omega
 ·rcases hyy y hy with h | h
  ·exact A2.D.ids y h
  ·subst h
   refine⟨by show(0:Int)<=(m.ns.length:Int);omega,?_⟩
   show(m.ns.length:Int)<(((cV (dn (bg m.ns f).1 blk (m.ns.length:Int)).1 blk (-1) (m.ns.length:Int)).1.length:Nat):Int)
   rw[hlen];omega
 ·exact Gy Ad.D.nd hid
 ·show(cQ _ _ _).length<=u+1
  rw[vW,wG,WZ];omega
 ·show(cQ _ _ _).length<=v
  rw[vW,List.length_eraseIdx,if_pos dJ];omega
 ·rcases sN hy with h | h
  ·exact C.A.D.mw y (List.mem_of_mem_eraseIdx h)
  ·subst h
   exact C.A.D.mw m.aD[(br m.aD f).toNat] (List.getElem_mem dJ)
 ·show((cQ _ _ _).getD 0 aI).1=0
  rw[NH _ uw (by rw[wG,WZ];omega),wG,getD_erase _ C.h0]
  exact C.A.root
 ·rcases hyy y hy with h | h
  ·exact A2.kind y h hy0
  ·subst h
   obtain⟨z',iJ,e'⟩:=kk _ z hz
   exact⟨z',by show _[((m.ns.length:Int)).toNat]? =_;rw[Int.toNat_natCast];exact iJ,e'.trans hzk⟩
 ·rcases sN hy with h | h
  ·exact C.A.tI y (List.mem_of_mem_eraseIdx h)
  ·subst h
   have:=C.A.pos
   exact fun e=>by have e:(m.ns.length:Int)=0:=e;omega
 ·rcases hyy y hy with h | h
  ·exact C.A.yC y h
  ·subst h
   exact C.A.yC m.op[j] (List.getElem_mem fY)
theorem CI.put (C:CI m u v x f j b q) (p c i:Int):CI {m with ns:=(cV m.ns p c i).1} u v x f j b q:=⟨C.A.put p c i,C.hj,C.h0,C.hq,C.hf,C.hm,C.hb⟩
theorem AI.begin (A:AI m u v x) {k:Nat} (hk:k<m.aD.length) (h0:0<=(m.aD.getD k noMark).1) (wB:0<=gm m.op (m.aD.getD k noMark).1) {n:Nat} (hn:(gm m.op (m.aD.getD k noMark).1).toNat<n) (vQ:n<=m.op.length):
  CI m u v x (m.aD.getD k noMark).1 (gm m.op (m.aD.getD k noMark).1).toNat k n:=by
 obtain⟨hi,h1,_⟩:=fD (l:=m.op) (p:=fun x=>decide (x.1=(m.aD.getD k noMark).1)) wB
 have tL:m.aD.getD k noMark=m.aD[k]:=aJ hk
 have hi:(gm m.op (m.aD.getD k noMark).1).toNat<m.op.length:=hi
 have e:(m.op.getD (gm m.op (m.aD.getD k noMark).1).toNat aI).1=(m.aD.getD k noMark).1:=by rw[aJ hi];simpa using h1
 refine⟨A,hn,?_,vQ,e,⟨m.aD[k],List.getElem_mem hk,by rw[tL]⟩,by omega⟩
 rcases Nat.eq_zero_or_pos (gm m.op (m.aD.getD k noMark).1).toNat with h | h
 ·exfalso
  rw[h,A.root] at e
  have bI:=A.tI m.aD[k] (List.getElem_mem hk)
  rw[tL] at e
  exact bI e.symm
 ·exact h
theorem AI.over (A:AI m u v x) {k:Nat} (hk:k<m.aD.length) (h0:0<=(m.aD.getD k noMark).1) (wB:0<=gm m.op (m.aD.getD k noMark).1) {n:Nat} (hn:(gm m.op (m.aD.getD k noMark).1).toNat<n) (vQ:n<m.op.length):
  AI (uD m (m.aD.getD k noMark).1 k (gm m.op (m.aD.getD k noMark).1).toNat n) (u+4) v x:=by
 have C:=A.begin hk h0 wB hn (Nat.le_of_lt vQ)
 have C2:=iQ (m.op.getD n aI).1 n 0 (m.op.getD n aI).1 C
 have B2:=mE (blk:=(m.op.getD n aI).1) n 0 (m.op.getD n aI).1 C ⟨n,Nat.le_refl _,vQ,rfl⟩
 obtain⟨R,hR⟩:∃R,dQ (m.op.getD n aI).1 (m.aD.getD k noMark).1 n 0 m (m.op.getD n aI).1 k=R:=⟨_,rfl⟩
 rw[hR] at C2 B2
 unfold uD
 simp only[hR]
 exact(C2.put _ _ _).renew B2
theorem AI.round (A:AI m u v x) {k:Nat} (hk:k<m.aD.length) (h0:0<=(m.aD.getD k noMark).1):AI (jv m k).1 (u+4) v x:=by
 unfold jv
 simp only[]
 split
 ·exact(A.bW k).mono (by omega) (Nat.le_refl _) (Nat.le_refl _)
 ·rename_i wB
  split
  ·exact A.mono (by omega) (Nat.le_refl _) (Nat.le_refl _)
  ·split
   ·exact((A.close _).bW k).mono (by omega) (Nat.le_refl _) (Nat.le_refl _)
   ·rename_i hs
    obtain⟨hi,_,_⟩:=fD (l:=m.op.drop ((gm m.op (m.aD.getD k noMark).1).toNat+1)) (p:=fk) (by omega)
    rw[List.length_drop] at hi
    exact A.over hk h0 (by omega) (by omega) (by omega)
theorem Ai (l:List aS) (s:Bs):∀i,i<=l.length->0<=oh l s i->∃k:Nat,oh l s i=(k:Int)/\k<i/\0<=(l.getD k noMark).1
 | 0,_,h=>absurd (show(0:Int)<= -1 from h) (by decide)
 | i+1,hi,h=>by
  unfold oh at h ⊢
  by_cases h1:(l.getD i noMark).1<0
  ·rw[if_pos h1] at h;exact absurd h (by decide)
  ·rw[if_neg h1] at h ⊢
   by_cases h2:(l.getD i noMark).2.1=s
   ·rw[if_pos h2];exact⟨i,rfl,by omega,by omega⟩
   ·rw[if_neg h2] at h ⊢
    obtain⟨k,e,hk,h3⟩:=Ai l s i (by omega) h
    exact⟨k,e,by omega,h3⟩
theorem mu {l:List aS} {s:Bs} (h:0<=fC l s):∃k:Nat,fC l s=(k:Int)/\k<l.length/\0<=(l.getD k noMark).1:=Ai l s l.length (Nat.le_refl _) h
theorem AI.rounds (s:Bs):∀(r:Nat) {m:WM} {u:Nat},AI m u v x->AI (eU s r m).1 (u+4*r) v x
 | 0,m,u,A=>A
 | r+1,m,u,A=>by
  unfold eU
  split
  ·exact A.mono (by omega) (Nat.le_refl _) (Nat.le_refl _)
  ·rename_i hl
   obtain⟨k,e,hk,h0⟩:=mu (by omega:0<=fC m.aD s)
   have yi:(fC m.aD s).toNat=k:=by rw[e];rfl
   rw[yi]
   have A2:=A.round hk h0
   split
   ·have:=AI.rounds s r A2
    rw[show u+4*(r+1)=u+4+4*r by omega]
    exact this
   ·exact A2.mono (by omega) (Nat.le_refl _) (Nat.le_refl _)
theorem AI.run (A:AI m u v x) (s:Bs):AI (runM m s).1 (u+32) v x:=by
 unfold runM
 split
 ·exact(A.close _).mono (by omega) (Nat.le_refl _) (Nat.le_refl _)
 ·exact AI.rounds s 8 A
end
theorem fU.refl (ns:List ay):fU ns ns:=fun j z hz=>⟨z,hz,rfl⟩
theorem fU.app (ns:List ay) (l:List ay):fU ns (ns++l):=fun j z hz=>⟨z,by rw[List.getElem?_append_left (dv hz)];exact hz,rfl⟩
theorem fU.bF (ns:List ay) (x:Option ay):fU ns (bF ns x).1:=by
 cases x with
 | none=>exact .refl _
 | some x=>exact .app _ _
theorem fU.cy {ns:List ay} (G:aV ns) (p b:Int) (tx:Bs):fU ns (cy ns p b tx).1:=by
 rcases pE (ns:=ns) p b tx with h | ⟨j,z,hz,_,h⟩ | ⟨i,h⟩
 ·rw[h];exact .refl _
 ·rw[h]
  intro k y hy
  by_cases e:k=j
  ·subst e
   rw[hz] at hy;cases hy
   exact⟨{z with text:=z.text++tx},by rw[List.getElem?_set_self (dv hz)],rfl⟩
  ·exact⟨y,by rw[List.getElem?_set_ne (by omega)];exact hy,rfl⟩
 ·rw[h]
  exact(fU.bF _ _).trans (.mL (fH (G.bF _ _ _ _ _) _ _ _) (fy (G.bF _ _ _ _ _) _ _ _))
section
variable {m:WM} {u v x:Nat}
theorem AI.zero:AI EP 1 0 0:=⟨DI.zero,rfl,fun y hy h0=>by
 have:y=(0,0,sD,0):=by simpa [EP] using hy
 subst this
 exact absurd rfl h0,(fun y hy=>nomatch hy),fun y hy=>by
 have:y=(0,0,sD,0):=by simpa [EP] using hy
 subst this
 decide⟩
theorem NI {α:Type} (l l2:List α) (h:0<l.length) (d:α):(l++l2).getD 0 d=l.getD 0 d:=by
 rw[List.getD_eq_getElem?_getD,List.getElem?_append_left h,<-List.getD_eq_getElem?_getD]
theorem AI.insert (A:AI m u v x) (sp:Int) {nm:Bs} (hn:nm.length<=4000) (gB:List bx):AI (bt m sp nm gB) (u+1) v x:=by
 have k1:fU m.ns (bt m sp nm gB).ns:=(fU.bF _ _).trans (.mL (fH (A.D.G.bF _ _ _ _ _) _ _ _) (fy (A.D.G.bF _ _ _ _ _) _ _ _))
 have k2:fU (bF m.ns (bG 1 sp nm gB [])).1 (bt m sp nm gB).ns:=.mL (fH (A.D.G.bF _ _ _ _ _) _ _ _) (fy (A.D.G.bF _ _ _ _ _) _ _ _)
 have eH:(bt m sp nm gB).op=m.op++ [((m.ns.length:Int),sp,nm,dt sp nm gB)]:=rfl
 refine⟨A.D.insert _ _ _,by rw[eH,NI _ _ A.D.ne];exact A.root,fun y hy h0=>?_,A.tI,fun y hy=>?_⟩
 ·rw[eH] at hy
  rcases List.mem_append.1 hy with h | h
  ·obtain⟨z,hz,e⟩:=A.kind y h h0
   obtain⟨z',iJ,e'⟩:=k1 _ z hz
   exact⟨z',iJ,e'.trans e⟩
  ·rw[List.mem_singleton.1 h]
   obtain⟨z',iJ,e'⟩:=k2 m.ns.length ⟨1,sp,nm,gB,[], -1,[]⟩ (by
    show(m.ns++ [_])[m.ns.length]? =_
    rw[List.getElem?_append_right (Nat.le_refl _),Nat.sub_self];rfl)
   exact⟨z',iJ,e'⟩
 ·rw[eH] at hy
  rcases List.mem_append.1 hy with h | h
  ·exact A.yC y h
  ·rw[List.mem_singleton.1 h];exact hn
theorem AI.write (A:AI m u v x) {tx:Bs} (ht:tx.length<=4000):AI (gb m tx) (u+1) v (x+4000):=
 ⟨A.D.write ht,A.root,fun y hy h0=>by
  obtain⟨z,hz,e⟩:=A.kind y hy h0
  obtain⟨z',iJ,e'⟩:=fU.cy A.D.G (cU m).1 (cU m).2 tx _ z hz
  exact⟨z',iJ,e'.trans e⟩,A.tI,A.yC⟩
theorem AI.push (A:AI m u v x) {y:aS} (hy:y.2.1.length<=4000/\y.2.2.length<=500/\∀a ∈ y.2.2,a.2.length<=4000) (h0:y.1≠0):AI {m with aD:=fp m.aD y} u (v+1) x:=
 ⟨A.D.push hy,A.root,A.kind,fun z hz=>by
  rcases Eg hz with h | h
  ·exact A.tI z h
  ·rw[h];exact h0,A.yC⟩
theorem AI.uG {v:Nat}:∀(k:Nat) {m:WM} {u x:Nat} (i:Nat),AI m u v x->i+k<=m.aD.length->AI (wX k m i) (u+k) v x
 | 0,m,u,x,i,A,_=>A
 | k+1,m,u,x,i,A,Ys=>by
  have hi:i<m.aD.length:=by omega
  have hg:m.aD.getD i noMark=m.aD[i]:=aJ hi
  have hw:=A.D.mw m.aD[i] (List.getElem_mem hi)
  have h1:=A.insert 0 (nm:=(m.aD.getD i noMark).2.1) (by rw[hg];exact hw.1) (m.aD.getD i noMark).2.2
  have h2:AI {bt m 0 (m.aD.getD i noMark).2.1 (m.aD.getD i noMark).2.2 with aD:=m.aD.set i ((m.ns.length:Int),(m.aD.getD i noMark).2)} (u+1) v x:=
   ⟨⟨h1.D.G,h1.D.B,h1.D.ne,h1.D.ids,h1.D.nd,h1.D.lo,h1.D.ln,by show(m.aD.set _ _).length<=v;rw[List.length_set];exact A.D.ml,by rw[hg];exact A.D.mw.set hi _,h1.D.tx⟩,h1.root,h1.kind,fun z hz=>by
    rcases List.mem_or_eq_of_mem_set hz with h | h
    ·exact A.tI z h
    ·rw[h]
     have:=A.pos
     exact fun e=>by have e:(m.ns.length:Int)=0:=e;omega,h1.yC⟩
  have:=AI.uG k (i+1) h2 (by show i+1+k<=(m.aD.set _ _).length;rw[List.length_set];omega)
  rw[show u+(k+1)=u+1+k by omega]
  exact this
theorem AI.vX (A:AI m u v x):AI (aU m) (u+v) v x:=by
 have hr:=iT m.aD m.op m.aD.length
 have h1:(gE m.aD m.op).toNat<=m.aD.length:=by have:=hr.2;show(jA m.aD m.op m.aD.length).toNat<=_;omega
 have:=AI.uG (m.aD.length - (gE m.aD m.op).toNat) (gE m.aD m.op).toNat A (by omega)
 exact this.mono (by have:=A.D.ml;omega) (Nat.le_refl _) (Nat.le_refl _)
end
theorem aal (f:Nat->aP->Option Bool) (a x:aP):scan f false [a,x]=match f 1 x with | some r=>r | none=>match f 0 a with | some r=>r | none=>false:=by
 unfold scan
 simp only[List.length_cons,List.length_nil,eW]
 rw[show([a,x].getD 1 (0,0,[],0))=x from rfl,show([a,x].getD 0 (0,0,[],0))=a from rfl]
 cases f 1 x with
 | none=>cases f 0 a <;> rfl
 | some r=>rfl
theorem Am {a x:aP} {ns:List Bs} (ha:jC a ns=true) (hb:jC x ns=true->eC x 0=false):lg [a,x] 0 ns=!eC x 0:=by
 unfold lg
 rw[aal]
 unfold II
 by_cases h:jC x ns=true
 ·rw[if_pos h,hb h];rfl
 ·rw[if_neg h]
  by_cases h2:eC x 0=true
  ·rw[if_pos h2,h2];rfl
  ·rw[if_neg h2,ha]
   have h3:eC x 0=false:=by simpa using h2
   rw[h3];rfl
theorem nk {x:aP} {w:Bs} (hw:bm w9 w=false) (h:jC x [w]=true):eC x 0=false:=by
 unfold jC at h
 rw[Bool.and_eq_true] at h
 have h1:x.2.1=0:=of_decide_eq_true h.1
 have h2:x.2.2.1=w:=by have:=of_decide_eq_true h.2;simpa using this
 rw[fB (by decide) h1,h2,hw]
 rfl
def wP:List Bs:=[[112]]
theorem Cn (x:aP):pd x=!eC x 0:=Am (by decide) (nk (by decide))
theorem NJ (x:aP):lg [(0,0,[112],0),x] 0 wP=!eC x 0:=Am (by decide) (nk (by decide))
section
variable {A:Nat->Prop} {h h':H} {K:KV} {col col':cd} {w:Addr} {m:WM} {nm:Bs} {f bk:Int} {u v x:Nat} {b:OA} {n c:Nat}
theorem gf (p:RW h col w m) (hl:m.op.length<=1000000) {id:Int} (hk:K (.int .i64 (gm m.op id)) h):zC 208 [.pointer (some w),.int .i64 id] h K:=by
 obtain⟨t,T,W⟩:=p.ex
 obtain⟨ob,oc,mb,mn,mc,v,o,om⟩:=W.ex
 refine V1.ok _ _ _ _ ⟨m.op.length+1,?_⟩
 have key:∀N i,i+N=m.op.length->(∀j (h1:j<m.op.length),j<i->decide (m.op[j].1=id)=false)->
   V1.cR (fun h=>K (.int .i64 (-1)) h) (fun h=>K (.int .i64 (-1)) h) (fun y4 h=>K (.int .i64 y4) h) (N+1) (some w) id (i:Int) h:=by
  intro N
  induction N with
  | zero=>
   intro i hi bq
   unfold V1.cR LP V1.bS
   refine aa ⟨_,_,_,v.cell 1 rfl,bX (by omega) ?_⟩
   have e:gm m.op id= -1:=nc fun j hj=>bq j hj (by omega)
   rwa[e] at hk
  | succ N ih=>
   intro i hi bq
   have bM:i<m.op.length:=by omega
   unfold V1.cR LP V1.bS
   refine aa ⟨_,_,_,v.cell 1 rfl,bQ (by omega) (aa ⟨_,_,_,v.cell 1 rfl,o.row.bn bM rfl fun q hA=>⟨_,hA.fst.int.1,bh (fun e=>?_) fun e=>⟨aG (by omega) (by omega),ih (i+1) (by omega) fun j h1 hj=>?_⟩⟩⟩)⟩
   ·have e2:gm m.op id=(i:Int):=mZ bM (decide_eq_true e) bq
    rwa[e2] at hk
   ·by_cases e2:j<i
    ·exact bq j h1 e2
    ·have:j=i:=by omega
     subst this
     exact decide_eq_false e
 exact key m.op.length 0 (by omega) fun j _ hj=>absurd hj (Nat.not_lt_zero _)
theorem mz (p:RW h col w m) (eH:m.op.length<=1000000) (hk:∀h' col',RW h' col' w (fq m nm)->al RS h col h' col'->K (.tuple ⟨[]⟩) h'):
  zC 124 [.pointer (some w),S nm] h K:=by
 obtain⟨t,T,W⟩:=p.ex
 obtain⟨ob,oc,mb,mn,mc,v,o,om⟩:=W.ex
 refine JG.ok _ _ _ _ (aa ⟨_,_,_,v.cell 1 rfl,aG (by omega) (by omega),m.op.length+1,?_⟩)
 obtain⟨res,kF⟩:∃r,Ei m.op nm m.op.length=r:=⟨_,rfl⟩
 have Jo:res=0->∀h',KB h h'->K (.tuple ⟨[]⟩) h':=fun e h' k'=>by
  have e2:fq m nm=m:=by unfold fq cX hZ;rw[kF,e,if_neg (by omega)]
  exact hk h' col (by rw[e2];exact p.kb k') (.kb k')
 have key:∀i h2,i<=m.op.length->KB h h2->Ei m.op nm i=res->
   JG.nv (fun h=>K (.tuple ⟨[]⟩) h) (fun h=>K (.tuple ⟨[]⟩) h) (fun h=>K (.tuple ⟨[]⟩) h) (i+1) (some w) nm ((i:Int) - 1) h2:=by
  intro i
  induction i with
  | zero=>
   intro h2 hi k2 e
   unfold JG.nv LP JG.mA
   exact bX (by omega) (Jo e.symm h2 k2)
  | succ i ih=>
   intro h2 hi k2 e
   unfold JG.nv LP JG.mA
   have e0:(((i+1:Nat):Int) - 1)=(i:Int):=by omega
   rw[e0]
   have bM:i<m.op.length:=by omega
   unfold Ei at e
   refine bh (fun h0=>?_) fun h0=>?_
   rotate_left
   ·rw[if_pos (by omega)] at e
    exact Jo e.symm h2 k2
   rw[if_neg (by omega),aJ bM] at e
   refine aa ⟨_,_,_,(v.kb k2).cell 1 rfl,(o.kb k2).row.bn bM rfl fun q hA=>df hA fun ow=>af fun a5 h3 v3 k3 e3 s3=>aQ v3 (by show 4<=4;omega) fun h4 v4 k4 s4=>?_⟩
   have sx:KB h2 h4:=KB.step k3 k4 (by omega)
   have jo:=k2.trans sx
   have v4:Var h4 a5 77 (aX m.op[i]):=v4
   have spec:uE m.op[i] nm=false->JG.sg (some w) nm (i:Int) a5 (fun z0 z1 z4 h=>JG.n6 z0 z1 z4 (JG.nv (fun h=>K (.tuple ⟨[]⟩) h) (fun h=>K (.tuple ⟨[]⟩) h) (fun h=>K (.tuple ⟨[]⟩) h) (i+1)) (fun h=>K (.tuple ⟨[]⟩) h) (fun h=>K (.tuple ⟨[]⟩) h) h) (fun z0 z1 z4 h=>JG.n6 z0 z1 z4 (JG.nv (fun h=>K (.tuple ⟨[]⟩) h) (fun h=>K (.tuple ⟨[]⟩) h) (fun h=>K (.tuple ⟨[]⟩) h) (i+1)) (fun h=>K (.tuple ⟨[]⟩) h) (fun h=>K (.tuple ⟨[]⟩) h) h) (fun h=>K (.tuple ⟨[]⟩) h) (fun h=>K (.tuple ⟨[]⟩) h) h4:=fun dk=>by
    rw[if_neg (by rw[dk];decide)] at e
    refine⟨_,v4.cell 1 rfl,_,v4.cell 2 rfl,gv fun h5 k5=>ag (aR (fun eb=>?_) fun eb=>⟨aG (by omega) (by omega),?_⟩)⟩
    ·have eb:fk m.op[i]=true:=eb
     rw[if_pos eb] at e
     exact Jo e.symm h5 (jo.trans k5)
    ·have eb:fk m.op[i]=false:=eb
     rw[if_neg (by rw[eb];decide)] at e
     exact ih h5 (by omega) (jo.trans k5) e
   have hmy:∀b:Bool,uE m.op[i] nm=b->(decide (m.op[i].2.1=0)&&decide (m.op[i].2.2.1=nm))=b:=fun b h=>h
   refine⟨_,v4.cell 1 rfl,bh (fun ez=>⟨_,v4.cell 2 rfl,bh (fun en=>aF ?_) fun en=>aE (spec ?_)⟩) fun ez=>aE (spec ?_)⟩
   ·have vq:uE m.op[i] nm=true:=by unfold uE;rw[decide_eq_true ez,decide_eq_true en];rfl
    rw[if_pos vq] at e
    have o4:=o.kb jo
    refine aa ⟨_,_,_,(v.kb jo).cell 1 rfl,mG o4.row fun h5 k5=>aN ⟨aG (by omega) (by omega),?_⟩⟩
    refine gg (p.kb (jo.trans k5)) fun h6 c6 p6 E6=>gg p6 fun h7 c7 p7 E7=>?_
    refine hk h7 c7 ?_ ((al.kb (jo.trans k5)).trans (E6.trans E7))
    have e2:cX (cX m (if((i:Int)+(1:Int))>iA m.op nm then((i:Int)+(1:Int)) else iA m.op nm)) (i:Int)=fq m nm:=by
     unfold fq cX
     rw[kF,<-e]
     obtain⟨j,hj⟩:∃j,(if((i:Int)+(1:Int))>iA m.op nm then((i:Int)+(1:Int)) else iA m.op nm)=j:=⟨_,rfl⟩
     have O2:(i:Int)+1<=j:=by rw[<-hj];split <;> omega
     rw[hj]
     have:hZ (hZ m.op j) (i:Int)=hZ m.op (i:Int):=by
      unfold hZ
      by_cases hc:1<=j/\j<(m.op.length:Int)
      ·rw[if_pos hc]
       have hl:(m.op.take j.toNat).length=j.toNat:=by rw[List.length_take];omega
       rw[hl,if_pos (by omega),if_pos (by omega),List.take_take,Int.toNat_natCast,Nat.min_eq_left (by omega)]
      ·rw[if_neg hc]
     rw[this]
    rw[e2] at p7
    exact p7
   ·unfold uE;rw[decide_eq_false en,Bool.and_false]
   ·unfold uE;rw[decide_eq_false ez,Bool.false_and]
 have e1:((m.op.length:Int) - (1:Int))=(m.op.length:Int) - 1:=rfl
 exact key m.op.length h (Nat.le_refl _) (KB.refl h) kF
theorem vi (p:RW h col w m) (eH:m.op.length<=1000000) (M8:∀x ∈ m.op,x.2.2.1.length<=1000000000) {i0:Nat} (yF:i0<m.op.length) (hk:∀h',KB h h'->K (.bool (eT (m.op.drop (i0+1)))) h'):
  zC 210 [.pointer (some w),.int .i64 (i0:Int)] h K:=by
 obtain⟨t,T,W⟩:=p.ex
 obtain⟨ob,oc,mb,mn,mc,v,o,om⟩:=W.ex
 have hcap:=o.cap
 refine V2.ok _ _ _ _ (aa ⟨_,_,_,v.cell 1 rfl,aG (by omega) (by omega),m.op.length - 1 - i0+1,?_⟩)
 have key:∀j h2,i0+j<m.op.length->KB h h2->(m.op.drop (i0+j+1)).all pd=true->
   V2.cR (fun h=>K (.bool true) h) (fun h=>K (.bool true) h) (fun y4 h=>K (.bool y4) h) (j+1) (some w) (i0:Int) ((i0+j:Nat):Int) h2:=by
  intro j
  induction j with
  | zero=>
   intro h2 hj k2 bq
   unfold V2.cR LP V2.bS
   refine bX (by omega) ?_
   have:=hk h2 k2
   unfold eT at this
   rw[Nat.add_zero] at bq
   rwa[bq] at this
  | succ j ih=>
   intro h2 hj k2 bq
   unfold V2.cR LP V2.bS
   obtain⟨i,hi⟩:∃i,i0+(j+1)=i:=⟨_,rfl⟩
   rw[hi] at hj bq ⊢
   have e0:((i:Int) - (1:Int))=((i0+j:Nat):Int):=by omega
   have o2:=o.kb k2
   have Sg:=o2.cap
   have rE:=Sg.2
   simp only[maxLen] at rE
   have hx:m.op[i] ∈ m.op:=List.getElem_mem hj
   have hdr:m.op.drop i=m.op[i]::m.op.drop (i+1):=List.drop_eq_getElem_cons hj
   refine bQ (by omega) (aa ⟨_,_,_,(v.kb k2).cell 1 rfl,o2.row.bn hj rfl fun q hA=>df hA fun ow=>af fun a6 h3 v3 k3 e3 s3=>aQ v3 (by show 4<=4;omega) fun h4 v4 k4 s4=>?_⟩)
   have sx:KB h2 h4:=KB.step k3 k4 (by omega)
   have jo:=k2.trans sx
   have v4:Var h4 a6 77 (aX m.op[i]):=v4
   refine aa ⟨_,_,_,(v.kb jo).cell 1 rfl,aG (by omega) (by omega),⟨by omega,by omega,by omega⟩,?_⟩
   have o4:=o.kb jo
   have r0:Row bp (rX h4.size) h4 (if oc=i then ob else Option.map (fun q=>q.add (i*4)) ob) (i+1 - i) (oc - i) ((m.op.take (i+1)).drop i):=o4.row.sub (lo:=i) (hi:=i+1) (by omega) (by omega) rfl
   have e1:(m.op.take (i+1)).drop i=[m.op[i]]:=by
    rw[List.take_succ_eq_append_getElem hj,List.drop_append_of_le_length (by rw[List.length_take];omega),List.drop_of_length_le (by rw[List.length_take];omega),List.nil_append]
   have e2:i+1 - i=1:=by omega
   rw[e1,e2] at r0
   have e3:Int.toNat ((i:Int)+1) - Int.toNat (i:Int)=1:=by omega
   have e4:Int.toNat (i:Int)=i:=rfl
   rw[e3,e4]
   refine r0.bn (i:=0) (Nat.succ_pos 0) rfl fun q hA=>df hA fun ow=>af fun a8 h8 v8 k8 e8 s8=>af (cs:=wP.map S) fun jJ cS v10 wR Sc pv=>?_
   have SW:gN (0,0,[112],0):=⟨⟨by decide,by decide⟩,⟨by decide,by decide⟩,by decide,⟨by decide,by decide⟩⟩
   have r2:Row bp (rX cS.size) cS (some a8) 2 2 [(0,0,[112],0),m.op[i]]:=
    Row.of (xs:=aX (0,0,[112],0)++aX m.op[i]) ⟨aX (0,0,[112],0),_,rfl,SW.r,aX m.op[i],[],by simp,ow.r,rfl⟩ (fun jj x hx=>⟨a8,rfl,(v8.kb wR).cell jj hx⟩) rfl (Nat.le_refl _) (by decide) fun x e=>by cases e;exact(v8.kb wR).lt
   refine nq (sc:=0) r2 (fun x Er=>?_) (iN (ws:=wP) v10 (by decide) (by decide)) fun eM tU=>ag ?_
   ·rcases List.mem_cons.1 Er with e | e
    ·rw[e];decide
    ·rw[List.mem_singleton.1 e];have:=M8 _ hx;omega
   have k0c:KB h eM:=jo.trans ((k8.trans wR).trans tU)
   have v12:=v4.kb ((k8.trans wR).trans tU)
   rw[NJ]
   have hfr:=Cn m.op[i]
   refine aR (fun eb=>aE ⟨aG (by omega) (by omega),?_⟩) fun eb=>aF ?_
   ·rw[e0]
    refine ih eM (by omega) k0c ?_
    rw[show i0+j+1=i by omega,hdr,List.all_cons,hfr,eb,bq]
    rfl
   ·have hbd:eC m.op[i] 0=true:=by simpa using eb
    have dk:eT (m.op.drop (i0+1))=false:=by
     unfold eT
     have uw:m.op[i] ∈ m.op.drop (i0+1):=List.mem_drop_iff_getElem.2 ⟨i - (i0+1),by omega,by congr 1;omega⟩
     refine Bool.eq_false_iff.2 fun h=>?_
     have:=List.all_eq_true.1 h _ uw
     rw[hfr,hbd] at this
     cases this
    have no:K (.bool false) eM:=by have:=hk eM k0c;rwa[dk] at this
    refine⟨_,v12.cell 1 rfl,bh (fun ez=>⟨_,v12.cell 2 rfl,bh (fun en=>?_) fun en=>no⟩) fun ez=>no⟩
    exfalso
    have:eC m.op[i] 0=false:=nk (w:=[112]) (by decide) (by unfold jC bm;rw[decide_eq_true ez,decide_eq_true (by rw[en];exact List.mem_singleton.2 rfl)];rfl)
    rw[this] at hbd
    cases hbd
 have ek:((m.op.length:Int) - (1:Int))=((i0+(m.op.length - 1 - i0):Nat):Int):=by omega
 rw[ek]
 exact key _ h (by omega) (KB.refl h) (by rw[List.drop_of_length_le (by omega)];rfl)
end
section
variable {h h':H} {K:KV} {col col':cd} {s i p:Nat} {t a:Addr} {ns:List ay} {x y:ay} {lb:OA} {lc:Nat} {rs:List jR} {r:jR}
def oB (ns:List ay) (id:Int):List ay × Int:=if id=0 then(ns, -1) else bg ns id
theorem TS (T:dD h col s t ns) {id:Int} (lW:ns.length<1000000) (hk:∀h' col',dD h' col' s t (oB ns id).1->Ext s h col h' col'->K (.int .i64 (oB ns id).2) h'):
  zC 229 [.pointer (some t),.int .i64 id] h K:=by
 refine Xdt.ok _ _ _ _ (lM T (ag (aR (fun e=>bh (fun e0=>?_) fun e0=>?_) fun e=>?_)))
 ·have:oB ns id=(ns, -1):=by unfold oB;rw[if_pos e0]
  rw[this] at hk
  exact hk h col T (Ext.refl _ _ _)
 ·have e:=of_decide_eq_true e
  obtain⟨i,rfl⟩:=Int.eq_ofNat_of_zero_le e.1
  have hk:∀h' col',dD h' col' s t (oB ns (i:Int)).1->Ext s h col h' col'->K (.int .i64 (oB ns (i:Int)).2) h':=hk
  have hx:ns[i]? =some (ns[i]'(by omega)):=List.getElem?_eq_getElem (by omega)
  generalize ns[i]'(by omega)=x at hx
  have ec:oB ns (i:Int)=bF ns (bG x.kind x.space x.name x.attrs x.text):=by
   unfold oB bg
   rw[if_neg e0,if_pos e,Int.toNat_natCast,hx];rfl
  rw[ec] at hk
  have T':=T
  obtain⟨lb,lc,rs,C,em⟩:=T
  obtain⟨r,hr,rfl⟩:=fx em hx
  have N:=C.nodes i r hr
  have hra:=N.ra.len
  have hfa:=N.fa
  exact iy C hr fun a hc=>⟨_,Ab hc 0 rfl,_,Ab hc 1 rfl,_,Ab hc 2 rfl,_,_,_,Ab hc 3 rfl,_,Ab hc 4 rfl,_,_,_,Ab hc 5 rfl,wI T' N.ra (by omega) N.rk N.rs N.fn N.ft lW fun h' col' T' e'=>aN (hk h' col' T' e')⟩
 ·have e:=of_decide_eq_false e
  have:oB ns id=(ns, -1):=by unfold oB bg;rw[if_neg e];split <;> rfl
  rw[this] at hk
  exact hk h col T (Ext.refl _ _ _)
end
end Go.Proofs
