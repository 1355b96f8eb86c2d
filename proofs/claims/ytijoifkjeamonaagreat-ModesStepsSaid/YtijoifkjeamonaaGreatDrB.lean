import Derived.Test.YtijoifkjeamonaaGreatHc
import Derived.Test.YtijoifkjeamonaaGreatPdB
import Derived.Test.YtijoifkjeamonaaGreatTxH
import Derived.Test.YtijoifkjeamonaaGreatDrF
import Derived.Test.YtijoifkjeamonaaGreatTxG
namespace Go.Proofs
open Go Go.Sh
set_option linter.unusedVariables false
set_option maxRecDepth 100000
section
variable {h:H} {K:KV} {col:bY} {s ty:Nat} {w t:Addr} {op:List aP} {mk:List aS} {fo:Bool} {hi:Int} {m:WM}
theorem qK {b:OA} {c k:Nat}:(if c=Int.toNat (0:Int) then b else Option.map (fun q=>q.add (Int.toNat (0:Int)*k)) b)=b:=by
 split
 ·rfl
 ·cases b with
  | none=>rfl
  | some q=>
   show some (q.add (0*k))=some q
   rw[Nat.zero_mul,add_zero']
theorem al.step {Z:Nat->Prop} {a b c:H} {x y:bY} {g:Nat} (E:al Z a x b y) (k:KX g b c) (hg:a.size<=g):al Z a x c y:=
 ⟨E.sk.trans (k.less fun q hq e=>by have:=hq.1;omega),E.cl⟩
theorem Jp (W:bq h col s ty w t op mk fo hi) (f:bh h col) {i:Nat} (Ay:i<mk.length) (hn:mk.length<=1000000) {x:aS} {a21:Addr} {tv:Nat} {ab:OA} {an ac:Nat} (v21:Var h a21 tv [.int .i64 x.1,S x.2.1,.slice ab an ac]) (hR:cI (bT col h) h x ab an ac) {Q:H->Prop}
  (hk:∀h' col',bq h' col' s ty w t op (mk.set i x) fo hi->al (fun k=>k=s) h col h' col'->bh h' col'->Q h'):
  ∃xw BJ yT,cell h (w.add 2)=some (.slice xw BJ yT)/\((0<=(0:Int)/\(0:Int)<=(i:Int)/\(i:Int)<=(yT:Int))/\(aZ Tryz.prog (Builtin.append_ #[40,40] 40 ⟨[(.slice none 0 0),(.slice (if yT=Int.toNat (0:Int) then xw else Option.map (fun q=>q.add (Int.toNat (0:Int)*3)) xw) (Int.toNat (i:Int) - Int.toNat (0:Int)) (yT - Int.toNat (0:Int)))]⟩) h fun B0 lW=>aB B0 fun xx xy yV=>∃i35,cell lW ((a21).add 0)=some (.int .i64 i35)/\(∃s36,cell lW ((a21).add 1)=some (S s36)/\(∃QV QW QY,cell lW ((a21).add 2)=some (.slice QV QW QY)/\(aw lW #[(.int .i64 i35),(S s36),(.slice QV QW QY)] 79 fun Jn yq=>aZ Tryz.prog (Builtin.append_ #[40,40] 40 ⟨[(.slice xx xy yV),(.slice (some Jn) 1 1)]⟩) yq fun v40 yH=>aB v40 fun QM Jk QN=>ae (some w) fun JT=>∃NO Jq Jr,cell yH (JT.add 2)=some (.slice NO Jq Jr)/\(bd .i64 ((i:Int)+(1:Int))/\((0<=((i:Int)+(1:Int))/\((i:Int)+(1:Int))<=(Jq:Int)/\(Jq:Int)<=(Jr:Int))/\(aZ Tryz.prog (Builtin.append_ #[40,40] 40 ⟨[(.slice QM Jk QN),(.slice (if Jr=Int.toNat ((i:Int)+(1:Int)) then NO else Option.map (fun q=>q.add (Int.toNat ((i:Int)+(1:Int))*3)) NO) (Int.toNat (Jq:Int) - Int.toNat ((i:Int)+(1:Int))) (Jr - Int.toNat ((i:Int)+(1:Int))))]⟩) yH fun v45 QZ=>aB v45 fun VJ VK VL=>ae (some w) fun Nr=>bc (Nr.add 2) [(.slice VJ VK VL)] 0 QZ fun QO=>Q QO)))))))):=by
 obtain⟨ob,oc,mb,mn,mc,v,o,om⟩:=W.ex
 obtain⟨xs,he,hc,wO⟩:=om.parts
 have jR:=om.len
 have hcap:=om.cap
 have hA:∀k,bT col h k->k<h.size:=fun k hk=>hk.2
 refine⟨_,_,_,v.cell 2 rfl,⟨by omega,by omega,by omega⟩,?_⟩
 rw[qK]
 have e1:Int.toNat (i:Int) - Int.toNat (0:Int)=i:=by rw[Int.toNat_natCast];rfl
 rw[e1]
 refine bO.append db (bO.none (bT col h) h h.size 79) hA (l2:=mk.take i) (by rw[List.length_take];omega) (he.take i) (hc.take _) (by simp only[maxLen];omega) (by omega) (Nat.le_refl _) fun b1 c1 h1 o1 g1=>aH ?_
 rw[Nat.zero_add] at o1 ⊢
 have k1:KB h h1:=g1.yj (KB.refl h) fun q e=>by cases e
 refine⟨_,(v21.kb k1).cell 0 rfl,_,(v21.kb k1).cell 1 rfl,_,_,_,(v21.kb k1).cell 2 rfl,af fun Jn h2 v2 k2 e2 s2=>?_⟩
 have tK:=k1.trans k2
 refine bO.sj db (o1.kb k2) hA v2 (hR.kb tK) (by simp only[maxLen];omega) (by omega) tK.1 fun b3 c3 h3 o3 g3=>aH ?_
 have gi:KB h h3:=g3.yj tK o1.lo
 have e3:((i:Int)+(1:Int))=((i+1:Nat):Int):=rfl
 refine aa ⟨_,_,_,(v.kb gi).cell 2 rfl,aF (by omega) (by omega),⟨by omega,by omega,by omega⟩,?_⟩
 rw[e3,Int.toNat_natCast,Int.toNat_natCast]
 have hcd:=Cells.drop (c:=mc) (lo:=i+1) (z:=3) hc (fun e=>List.drop_of_length_le (by
  have h1:xs.length=mn*3:=wO
  have h2:mn=i+1:=by omega
  rw[h1,h2];exact Nat.le_refl _))
 have hed:=he.drop (i+1)
 refine bO.append db o3 hA (l2:=mk.drop (i+1)) (by rw[List.length_drop,jR]) (hed.keep ((KB.w gi).less fun k hk=>hk.2) fun _ h _=>h) (fun j u hu=>by
  obtain⟨q,e,ec⟩:=hcd j u hu
  exact⟨q,e,(KB.w gi).cell (fP ec) ec⟩) (by simp only[maxLen];omega) (by omega) gi.1 fun b4 c4 h4 o4 g4=>aH (aa ?_)
 have nU:KB h h4:=g4.yj gi o3.lo
 have el: []++mk.take i++ [x]++mk.drop (i+1)=mk.set i x:=by
  rw[List.nil_append,List.set_eq_take_append_cons_drop,if_pos Ay,List.append_assoc];rfl
 rw[el] at o4
 exact dY W f nU o4 fun h5 W5 E5 f5 _=>hk h5 _ W5 E5 f5
theorem tH (p:RW h col w m) (G:aV m.ns) (bL:0<m.op.length) (eD:m.op.length+m.aE.length<1000000) (AB:m.ns.length+m.aE.length<1000000) (hm:pE m.aE)
  (hk:∀h' col',RW h' col' w (aU m)->al RS h col h' col'->K (.tuple ⟨[]⟩) h'):
  zC 44 [.pointer (some w)] h K:=by
 obtain⟨t,T,W⟩:=p.ex
 obtain⟨ob,oc,mb,mn,mc,v,o,om⟩:=W.ex
 have MV:=iP m.aE m.op m.aE.length
 have Zf:0<=gu m.aE m.op:=MV.1
 have RF:gu m.aE m.op<=(m.aE.length:Int):=MV.2
 obtain⟨f,hf⟩:=Int.eq_ofNat_of_zero_le Zf
 have Iv:(gu m.aE m.op).toNat=f:=by rw[hf];rfl
 refine V1.ok _ _ _ (aa ⟨_,_,_,v.cell 2 rfl,aa ⟨_,_,_,v.cell 1 rfl,y9 om.row o.row (aO ?_)⟩⟩)
 rw[hf]
 have hrw:wR (m.aE.length - f) m f=aU m:=by unfold aU;rw[Iv]
 refine⟨m.aE.length - f+1,?_⟩
 have key:∀k j (mj:WM) hj cj,j+k=m.aE.length - f->RW hj cj w mj->aV mj.ns->mj.op.length=m.op.length+j->mj.ns.length=m.ns.length+j->mj.aE.length=m.aE.length->pE mj.aE->wR k mj (f+j)=aU m->al RS h col hj cj->
   V1.tX (fun h=>K (.tuple ⟨[]⟩) h) (fun h=>K (.tuple ⟨[]⟩) h) (fun h=>K (.tuple ⟨[]⟩) h) (k+1) (some w) ((f+j:Nat):Int) hj:=by
  intro k
  induction k with
  | zero=>
   intro j mj hj cj hjk pj Gj lo ln lm Vf hr Ej
   obtain⟨tj,Tj,Wj⟩:=pj.ex
   obtain⟨obj,ocj,mbj,mnj,mcj,vj,oj,XO⟩:=Wj.ex
   have ahz:=XO.len
   have hr:mj=aU m:=hr
   unfold V1.tX LP V1.rK
   exact aa ⟨_,_,_,vj.cell 2 rfl,cg (by omega) (hk hj cj (by rw[<-hr];exact⟨tj,Tj,Wj⟩) Ej)⟩
  | succ k ih=>
   intro j mj hj cj hjk pj Gj lo ln lm Vf hr Ej
   have tu:f+j<mj.aE.length:=by omega
   obtain⟨tj,Tj,Wj⟩:=pj.ex
   obtain⟨obj,ocj,mbj,mnj,mcj,vj,oj,XO⟩:=Wj.ex
   have ahz:=XO.len
   obtain⟨xsj,PO,Vg,_⟩:=XO.parts
   obtain⟨a,b2,n2,c2,eb,m0,m1,m2,mR⟩:=j5 PO Vg tu
   subst eb
   have hw:=Vf mj.aE[f+j] (List.getElem_mem tu)
   have yl:=mR.inv
   have vJ:=yl.1.len
   unfold V1.tX LP V1.rK
   refine aa ⟨_,_,_,vj.cell 2 rfl,bK (by omega) (aa ⟨_,_,_,vj.cell 2 rfl,⟨by omega,by omega⟩,aa ?_⟩)⟩
   rw[Int.toNat_natCast]
   refine⟨_,m0,_,m1,_,_,_,m2,af fun a21 h2 v2 k2 e2 s2=>aQ v2 (by show 3<=3;omega) fun h3 v3 k3 s3=>?_⟩
   have Nc:KB hj h3:=KB.step k2 k3 (by omega)
   have QD:Var h3 a21 79 [.int .i64 mj.aE[f+j].1,S mj.aE[f+j].2.1,.slice b2 n2 c2]:=v3
   have E3:∀Z:Nat->Prop,al Z hj cj h3 (cr cj a21.block (8,0)):=fun Z=>⟨Nc.less fun k hk=>hk.1,fun k hk=>dG (by omega)⟩
   have f3:bh h3 (cr cj a21.block (8,0)):=(pj.fresh.kb Nc).cr QD.lt
   have p3:RW h3 (cr cj a21.block (8,0)) w mj:=pj.ext (Z:=fun _=>False) (E3 _) id id f3
   have rA:Row aY (bT (cr cj a21.block (8,0)) h3) h3 b2 n2 c2 mj.aE[f+j].2.2:=(E3 fun _=>False).row yl.1
   refine⟨_,QD.cell 1 rfl,_,_,_,QD.cell 2 rfl,?_⟩
   refine nV p3 Gj (by omega) (by omega) (by omega) rA (by omega) hw.2.2 ⟨by decide,by decide⟩ ⟨by decide,by decide⟩ hw.1 fun h5 c5 p5 E5=>aO ?_
   have v5:Var h5 a21 79 [.int .i64 mj.aE[f+j].1,S mj.aE[f+j].2.1,.slice b2 n2 c2]:=QD.keep E5.sk.w ⟨QD.lt,fun s p hs e=>by
    rw[fX] at e
    cases e
    rcases hs with h | h <;> exact absurd h (by decide)⟩
   refine aQ v5 (by show 1<=3;omega) fun h6 v6 k6 s6=>aa ?_
   have v6':Var h6 a21 79 [.int .i64 (mj.ns.length:Int),S mj.aE[f+j].2.1,.slice b2 n2 c2]:=v6
   have JG:c5 a21.block=some (8,0):=by rw[E5.cl _ QD.lt];exact fX
   have E6:al (fun k=>k=8) h5 c5 h6 c5:=al.kx k6 JG rfl
   have f6:bh h6 c5:=fun q hq=>p5.fresh q (by rw[<-s6];exact hq)
   have p6:RW h6 c5 w (bs mj 0 mj.aE[f+j].2.1 mj.aE[f+j].2.2):=p5.ext (Z:=fun k=>k=8) E6 (by decide) (by decide) f6
   have r6:=E6.row (E5.row rA)
   have Ej6:al RS hj cj h6 c5:=((E3 RS).trans E5).step k6 (by show hj.size<=a21.block;omega)
   obtain⟨t6,T6,W6⟩:=p6.ex
   have hR6:cI (bT c5 h6) h6 ((mj.ns.length:Int),mj.aE[f+j].2) b2 n2 c2:=jA (m:=((mj.ns.length:Int),mj.aE[f+j].2)) r6 yl.2.1 (aF (by show _<=(mj.ns.length:Int);omega) (by show(mj.ns.length:Int)<=_;omega)) yl.2.2.2
   refine Jp W6 f6 (i:=f+j) tu (by show mj.aE.length<=_;omega) (x:=((mj.ns.length:Int),mj.aE[f+j].2)) v6' hR6 fun h7 c7 W7 E7 f7=>⟨aF (by omega) (by omega),?_⟩
   have hg:mj.aE.getD (f+j) noMark=mj.aE[f+j]:=aJ tu
   have hr:wR k {bs mj 0 (mj.aE.getD (f+j) noMark).2.1 (mj.aE.getD (f+j) noMark).2.2 with aE:=mj.aE.set (f+j) ((mj.ns.length:Int),(mj.aE.getD (f+j) noMark).2)} (f+j+1)=aU m:=hr
   rw[hg] at hr
   have:=ih (j+1) {bs mj 0 mj.aE[f+j].2.1 mj.aE[f+j].2.2 with aE:=mj.aE.set (f+j) ((mj.ns.length:Int),mj.aE[f+j].2)} h7 c7 (by omega) ⟨t6,T6.cf (Z:=fun k=>k=3) (by decide) E7 f7,W7⟩
    (pD Gj) (by show(mj.op++ [_]).length=_;rw[List.length_append];show mj.op.length+1=_;omega) (by rw[hG Gj];omega) (by show(mj.aE.set _ _).length=_;rw[List.length_set];exact lm) (Vf.set tu _) hr ((Ej.trans Ej6).trans (E7.mono fun s hs=>.inr hs))
   exact this
 have:=key (m.aE.length - f) 0 m h col (by omega) p G rfl rfl rfl hm hrw (.refl _ _ _)
 exact this
def dj (op:List aP) (id:Int):Nat->List aP
 | 0=>[]
 | i+1=>if i=0∨(op.getD i aI).1≠id then dj op id i++ [op.getD i aI] else dj op id i
theorem xW (op:List aP) (id:Int):∀i,(dj op id i).length<=i
 | 0=>Nat.le_refl _
 | i+1=>by
  unfold dj
  have:=xW op id i
  split
  ·rw[List.length_append];show _+1<=_;omega
  ·omega
theorem rO {op:List aP} {id:Int}:∀i,i<=op.length->(∀j (hj:j<op.length),0<j->j<i->op[j].1≠id)->dj op id i=op.take i
 | 0,_,_=>rfl
 | i+1,hi,dk=>by
  have bQ:i<op.length:=by omega
  unfold dj
  rw[aJ bQ,rO i (by omega) fun j hj h0 O9=>dk j hj h0 (by omega)]
  have hc:i=0∨op[i].1≠id:=by
   rcases Nat.eq_zero_or_pos i with h | h
   ·exact .inl h
   ·exact .inr (dk i bQ h (by omega))
  rw[if_pos hc,List.take_add_one,List.getElem?_eq_getElem bQ];rfl
theorem xX {op:List aP} {id:Int} {k:Nat} (Ij:0<k) (hk:k<op.length) (he:op[k].1=id) (dk:∀j (hj:j<op.length),j≠k->op[j].1≠id):∀i,i<=op.length->dj op id i=if k<i then(op.take i).eraseIdx k else op.take i
 | 0,_=>rfl
 | i+1,hi=>by
  have bQ:i<op.length:=by omega
  unfold dj
  rw[aJ bQ,xX Ij hk he dk i (by omega)]
  have jF:op.take (i+1)=op.take i++ [op[i]]:=by rw[List.take_add_one,List.getElem?_eq_getElem bQ];rfl
  by_cases YS:i=k
  ·subst YS
   rw[if_neg (fun h=>by rcases h with h | h;omega;exact h he),if_neg (by omega),if_pos (by omega),jF]
   have hlen:(op.take i).length=i:=by rw[List.length_take];omega
   rw[List.eraseIdx_append_of_length_le (by omega),hlen,Nat.sub_self]
   simp
  ·rw[if_pos (.inr (dk i bQ YS)),jF]
   by_cases h2:k<i
   ·rw[if_pos h2,if_pos (by omega),List.eraseIdx_append_of_lt_length (by rw[List.length_take];omega)]
   ·rw[if_neg h2,if_neg (by omega)]
theorem Js {op:List aP} {id:Int} (jO:(op.map (·.1)).Nodup):dj op id op.length=bt op id:=by
 have uniq:∀i j (hi:i<op.length) (hj:j<op.length),op[i].1=op[j].1->i=j:=fun i j hi hj e=>
  by
   have hp:=List.pairwise_iff_getElem.1 jO
   rcases Nat.lt_trichotomy i j with h | h | h
   ·exact absurd (by rw[List.getElem_map,List.getElem_map];exact e) (hp i j (by simpa using hi) (by simpa using hj) h)
   ·exact h
   ·exact absurd (by rw[List.getElem_map,List.getElem_map];exact e.symm) (hp j i (by simpa using hj) (by simpa using hi) h)
 unfold bt
 have hq:=ll (l:=op) (p:=fun x=>decide (x.1=id))
 by_cases hex:∃k,∃hk:k<op.length,op[k].1=id
 ·obtain⟨k,hk,e⟩:=hex
  have dk:∀j (hj:j<op.length),j≠k->op[j].1≠id:=fun j hj bL e2=>bL (uniq j k hj hk (e2.trans e.symm))
  have hi:cM op (fun x=>decide (x.1=id))=(k:Int):=mO hk (decide_eq_true e) fun j hj hjk=>decide_eq_false (dk j hj (by omega))
  rw[hi,Int.toNat_natCast]
  rcases Nat.eq_zero_or_pos k with h0 | h0
  ·rw[if_neg (by omega),rO _ (Nat.le_refl _) fun j hj h1 _=>dk j hj (by omega),List.take_length]
  ·rw[if_pos (by omega),xX h0 hk e dk _ (Nat.le_refl _),if_pos hk,List.take_length]
 ·have dk:∀j (hj:j<op.length),op[j].1≠id:=fun j hj e=>hex ⟨j,hj,e⟩
  have hi:cM op (fun x=>decide (x.1=id))= -1:=mP fun j hj=>decide_eq_false (dk j hj)
  rw[hi,if_neg (by decide),rO _ (Nat.le_refl _) fun j hj _ _=>dk j hj,List.take_length]
theorem iU (p:RW h col w m) {id:Int} (hl:m.op.length<1000000) (jO:(m.op.map (·.1)).Nodup) (hk:∀h' col',RW h' col' w (gr m id)->al RS h col h' col'->K (.tuple ⟨[]⟩) h'):
  zC 120 [.pointer (some w),.int .i64 id] h K:=by
 obtain⟨t,T,W⟩:=p.ex
 obtain⟨ob,oc,mb,mn,mc,v,o,om⟩:=W.ex
 refine EH.ok _ _ _ _ ⟨m.op.length+1,?_⟩
 have key:∀k i h2 lb lc,i+k=m.op.length->bH bo h2 h.size 77 lb (dj m.op id i).length lc (dj m.op id i)->KB h h2->
   EH.cQ (fun z0 V9 Wa Wc h=>EH.n3 z0 V9 Wa Wc (fun h=>K (.tuple ⟨[]⟩) h) (fun h=>K (.tuple ⟨[]⟩) h) h) (fun z0 V9 Wa Wc h=>EH.n3 z0 V9 Wa Wc (fun h=>K (.tuple ⟨[]⟩) h) (fun h=>K (.tuple ⟨[]⟩) h) h) (fun h=>K (.tuple ⟨[]⟩) h) (k+1) (some w) id lb (dj m.op id i).length lc (i:Int) h2:=by
  intro k
  induction k with
  | zero=>
   intro i h2 lb lc hi o2 k2
   unfold EH.cQ LP EH.bU
   refine aa ⟨_,_,_,(v.kb k2).cell 1 rfl,cg (by omega) (aa ?_)⟩
   have ei:i=m.op.length:=by omega
   subst ei
   have o2':bO bo vf h2 h.size 77 lb (dj m.op id m.op.length).length lc (dj m.op id m.op.length):=⟨o2.own.flat ko,o2.lo,o2.hi,o2.nil⟩
   refine tN W p.fresh k2 o2' fun h5 W5 E5 f5 _=>hk h5 _ ⟨t,T.cf (Z:=fun k=>k=3) (by decide) E5 f5,?_⟩ (E5.mono fun s hs=>.inr hs)
   rw[Js jO] at W5
   exact W5
  | succ k ih=>
   intro i h2 lb lc hi o2 k2
   have bQ:i<m.op.length:=by omega
   have hlen:=xW m.op id i
   unfold EH.cQ LP EH.bU
   refine aa ⟨_,_,_,(v.kb k2).cell 1 rfl,bK (by omega) ?_⟩
   have yes:(i=0∨m.op[i].1≠id)->∀(Kn Ke1:EH.T4) (Ke0:EH.T3) (Kr:EH.T0),(∀b' c' h',bH bo h' h.size 77 b' (dj m.op id (i+1)).length c' (dj m.op id (i+1))->KB h h'->Kn (some w) id b' (dj m.op id (i+1)).length c' (i:Int) h')->
     EH.ui (some w) id lb (dj m.op id i).length lc (i:Int) true Kn Ke1 Ke0 Kr h2:=by
    intro hy Kn Ke1 Ke0 Kr hKn
    have jF:dj m.op id (i+1)=dj m.op id i++ [m.op[i]]:=by
     conv=>lhs;unfold dj
     rw[aJ bQ,if_pos hy]
    rw[jF,List.length_append] at hKn
    refine aD (aa ⟨_,_,_,(v.kb k2).cell 1 rfl,(o.kb k2).row.bj bQ rfl fun q hA=>cT hA fun ow=>?_⟩)
    refine Dk iu (x:=m.op[i]) (cs:=aW m.op[i]) (fun A h=>ow.r) o2 k2.1 (by simp only[maxLen];omega) (by omega) fun b' c' h' o' k'=>aH (hKn b' c' h' o' (SK.trans k2 (k'.less fun q hq=>⟨Nat.lt_of_lt_of_le hq k2.1,fun a ea e2=>by have:=o2.lo a ea;have hq:q<h.size:=hq;omega⟩)))
   have go:∀b' c' h',bH bo h' h.size 77 b' (dj m.op id (i+1)).length c' (dj m.op id (i+1))->KB h h'->
     bd .i64 ((i:Int)+1)/\EH.cQ (fun z0 V9 Wa Wc h=>EH.n3 z0 V9 Wa Wc (fun h=>K (.tuple ⟨[]⟩) h) (fun h=>K (.tuple ⟨[]⟩) h) h) (fun z0 V9 Wa Wc h=>EH.n3 z0 V9 Wa Wc (fun h=>K (.tuple ⟨[]⟩) h) (fun h=>K (.tuple ⟨[]⟩) h) h) (fun h=>K (.tuple ⟨[]⟩) h) (k+1) (some w) id b' (dj m.op id (i+1)).length c' ((i:Int)+1) h':=fun b' c' h' o' k'=>
    ⟨aF (by omega) (by omega),ih (i+1) h' b' c' (by omega) o' k'⟩
   refine bf (fun e0=>yes (.inl (by omega)) _ _ _ _ go) fun e0=>aa ⟨_,_,_,(v.kb k2).cell 1 rfl,(o.kb k2).row.bj bQ rfl fun q hA=>⟨_,hA.fst.int.1,bf (fun e1=>aC ?_) fun e1=>yes (.inr e1) _ _ _ _ go⟩⟩
   have jF:dj m.op id (i+1)=dj m.op id i:=by
    conv=>lhs;unfold dj
    rw[aJ bQ,if_neg (fun h=>by rcases h with h | h;omega;exact h e1)]
   have:=go lb lc h2 (by rw[jF];exact o2) k2
   rw[jF] at this
   exact this
 exact key m.op.length 0 h none 0 (by omega) (bH.none _ _ _) (KB.refl h)
end
def rP (l:List aS):Prop:=∀x ∈ l,x.2.1.length<=4000/\x.2.2.length<=500/\∀a ∈ x.2.2,a.2.length<=4000
structure DI (m:WM) (u v x:Nat):Prop where
 G:aV m.ns
 B:gJ m.ns
 ne:0<m.op.length
 ids:∀y ∈ m.op,0<=y.1/\y.1<m.ns.length
 nd:(m.op.map (·.1)).Nodup
 lo:m.op.length<=u
 ln:m.ns.length<=u
 ml:m.aE.length<=v
 mw:rP m.aE
 tx:gd m.ns x
theorem rP.w {l:List aS} (h:rP l):pE l:=fun x hx=>⟨by have:=(h x hx).1;omega,by have:=(h x hx).2.1;omega,fun a ha=>by have:=(h x hx).2.2 a ha;omega⟩
theorem DI.zero:DI EP 1 0 0:=
 ⟨IF,gJ.Lf,by decide,fun y hy=>by
  have:y=(0,0,sx,0):=by simpa [EP] using hy
  subst this;exact⟨by decide,by decide⟩,by decide,by decide,by decide,by decide,(fun y hy=>nomatch hy),gd.Lf⟩
theorem DI.mono {m:WM} {u v x u' v' x':Nat} (H:DI m u v x) (h1:u<=u') (h2:v<=v') (h3:x<=x'):DI m u' v' x':=
 ⟨H.G,H.B,H.ne,H.ids,H.nd,Nat.le_trans H.lo h1,Nat.le_trans H.ln h1,Nat.le_trans H.ml h2,H.mw,H.tx.mono h3⟩
section
variable {m:WM} {u v x:Nat}
theorem DI.pos (H:DI m u v x):0<m.ns.length:=by obtain⟨r,hr,_⟩:=H.G.root;exact dv hr
theorem DI.insert (H:DI m u v x) (sp:Int) (nm:Bs) (gE:List bw):DI (bs m sp nm gE) (u+1) v x:=by
 have hl:(bs m sp nm gE).ns.length=m.ns.length+1:=hG H.G
 have eD:(bs m sp nm gE).op=m.op++ [((m.ns.length:Int),sp,nm,dr sp nm gE)]:=rfl
 have jQ:(bs m sp nm gE).op.length=m.op.length+1:=by rw[eD,List.length_append];rfl
 have h1:=H.lo
 have h2:=H.ln
 refine⟨pD H.G,?_,by omega,fun y hy=>?_,?_,by omega,by omega,H.ml,H.mw,?_⟩
 ·exact(H.B.bE H.pos 1 sp nm gE []).mD (fC (H.G.bE _ _ _ _ _) _ _ _)
 ·rw[eD] at hy
  rw[hl]
  rcases List.mem_append.1 hy with h | h
  ·have:=H.ids y h;exact⟨this.1,by omega⟩
  ·rw[List.mem_singleton.1 h];exact⟨by show(0:Int)<=(m.ns.length:Int);omega,by show(m.ns.length:Int)<_;omega⟩
 ·rw[eD,List.map_append]
  refine List.nodup_append.2 ⟨H.nd,by simp,fun a ha b hb=>?_⟩
  obtain⟨y,hy,rfl⟩:=List.mem_map.1 ha
  have hb:b=(m.ns.length:Int):=by simpa using hb
  have:=(H.ids y hy).2
  omega
 ·have h1:gd (bE m.ns (bF 1 sp nm gE [])).1 x:=H.tx.bE (by simp)
  exact h1.mD (fC (H.G.bE _ _ _ _ _) _ _ _)
theorem wQ {ns:List ay} (G:aV ns) (p b:Int) (tx:Bs):ns.length<=(cD ns p b tx).1.length:=by
 rcases pg (ns:=ns) p b tx with h | ⟨j,z,_,_,h⟩ | ⟨i,h⟩
 ·rw[h];exact Nat.le_refl _
 ·rw[h,List.length_set];exact Nat.le_refl _
 ·rw[h,fv (G.bE _ _ _ _ _)]
  show _<=(ns++ [_]).length
  simp
theorem DI.write (H:DI m u v x) {tx:Bs} (ht:tx.length<=4000):DI (fW m tx) (u+1) v (x+4000):=by
 have h1:=H.lo
 have h2:=H.ln
 have hg:=wQ H.G (cS m).1 (cS m).2 tx
 have hl:=IH H.G (cS m).1 (cS m).2 tx
 refine⟨H.G.cD _ _ _,H.B.cD H.G H.pos _ _ _,H.ne,fun y hy=>?_,H.nd,by show m.op.length<=_;omega,by show(cD _ _ _ _).1.length<=_;omega,H.ml,H.mw,H.tx.cD H.G _ _ ht⟩
 have:=H.ids y hy
 exact⟨this.1,by show y.1<((cD _ _ _ _).1.length:Int);omega⟩
theorem DI.note (H:DI m u v x) {tx:Bs} (ht:tx.length<=4000):DI (uw m tx) (u+1) v (x+4000):=by
 have h1:=H.lo
 have h2:=H.ln
 have hl:(uw m tx).ns.length=m.ns.length+1:=by
  show(cV _ _ _ _).1.length=_
  rw[fv (H.G.bE _ _ _ _ _)]
  show(m.ns++ [_]).length=_
  simp
 refine⟨(H.G.bE _ _ _ _ _).cV _ _ _,(H.B.bE H.pos 3 0 [] [] tx).mD (fC (H.G.bE _ _ _ _ _) _ _ _),H.ne,fun y hy=>?_,H.nd,by show m.op.length<=_;omega,by omega,H.ml,H.mw,?_⟩
 ·have:=H.ids y hy
  exact⟨this.1,by rw[hl];omega⟩
 ·have h1:gd (bE m.ns (bF 3 0 [] [] tx)).1 (x+4000):=(H.tx.mono (by omega)).bE (by omega)
  exact h1.mD (fC (H.G.bE _ _ _ _ _) _ _ _)
theorem DI.ops (H:DI m u v x) {op:List aP} (bL:0<op.length) (hs:op.Sublist m.op):DI {m with op:=op} u v x:=
 ⟨H.G,H.B,bL,fun y hy=>H.ids y (hs.subset hy),H.nd.sublist (hs.map _),Nat.le_trans hs.length_le H.lo,H.ln,H.ml,H.mw,H.tx⟩
theorem DI.close (H:DI m u v x) (n:Int):DI (cZ m n) u v x:=by
 unfold cZ gW
 have:=H.ne
 split
 ·exact H.ops (by rw[List.length_take];omega) (List.take_sublist _ _)
 ·exact H
theorem DI.drop (H:DI m u v x) (id:Int):DI (gr m id) u v x:=by
 unfold gr bt
 have hq:=ll (l:=m.op) (p:=fun x=>decide (x.1=id))
 split
 ·refine H.ops ?_ (List.eraseIdx_sublist _ _)
  rw[List.length_eraseIdx,if_pos (by omega)]
  omega
 ·exact H
theorem Ek {l:List aS} {y z:aS} (h:z ∈ fj l y):z ∈ l∨z=y:=by
 unfold fj at h
 split at h
 ·rcases List.mem_append.1 h with h | h
  ·exact .inl h
  ·exact .inr (List.mem_singleton.1 h)
 ·rcases List.mem_append.1 h with h | h
  ·exact .inl (List.mem_of_mem_eraseIdx h)
  ·exact .inr (List.mem_singleton.1 h)
theorem Em (l:List aS) (y:aS):(fj l y).length<=l.length+1:=by
 unfold fj
 split
 ·rw[List.length_append];exact Nat.le_refl _
 ·rw[List.length_append]
  have:=List.length_eraseIdx_le l ((cO l y).headD 0)
  show _+1<=_
  omega
theorem DI.push (H:DI m u v x) {y:aS} (hy:y.2.1.length<=4000/\y.2.2.length<=500/\∀a ∈ y.2.2,a.2.length<=4000):DI {m with aE:=fj m.aE y} u (v+1) x:=
 ⟨H.G,H.B,H.ne,H.ids,H.nd,H.lo,H.ln,by have:=Em m.aE y;have:=H.ml;show(fj _ _).length<=_;omega,fun z hz=>by
  rcases Ek hz with h | h
  ·exact H.mw z h
  ·rw[h];exact hy,H.tx⟩
theorem rP.set {l:List aS} (w:rP l) {i:Nat} (hi:i<l.length) (id:Int):rP (l.set i (id,l[i].2)):=fun x hx=>by
 rcases List.mem_or_eq_of_mem_set hx with h | h
 ·exact w x h
 ·rw[h];exact w l[i] (List.getElem_mem hi)
theorem DI.ux {v:Nat}:∀(k:Nat) {m:WM} {u x:Nat} (i:Nat),DI m u v x->i+k<=m.aE.length->DI (wR k m i) (u+k) v x
 | 0,m,u,x,i,H,_=>H
 | k+1,m,u,x,i,H,YS=>by
  have hi:i<m.aE.length:=by omega
  have h1:=H.insert 0 (m.aE.getD i noMark).2.1 (m.aE.getD i noMark).2.2
  have hg:m.aE.getD i noMark=m.aE[i]:=aJ hi
  have h2:DI {bs m 0 (m.aE.getD i noMark).2.1 (m.aE.getD i noMark).2.2 with aE:=m.aE.set i ((m.ns.length:Int),(m.aE.getD i noMark).2)} (u+1) v x:=
   ⟨h1.G,h1.B,h1.ne,h1.ids,h1.nd,h1.lo,h1.ln,by show(m.aE.set _ _).length<=v;rw[List.length_set];exact H.ml,by rw[hg];exact H.mw.set hi _,h1.tx⟩
  have:=DI.ux k (i+1) h2 (by show i+1+k<=(m.aE.set _ _).length;rw[List.length_set];omega)
  rw[show u+(k+1)=u+1+k by omega]
  exact this
theorem DI.vR (H:DI m u v x):DI (aU m) (u+v) v x:=by
 have hr:=iP m.aE m.op m.aE.length
 have h1:(gu m.aE m.op).toNat<=m.aE.length:=by have:=hr.2;show(js m.aE m.op m.aE.length).toNat<=_;omega
 have:=DI.ux (m.aE.length - (gu m.aE m.op).toNat) (gu m.aE m.op).toNat H (by omega)
 exact this.mono (by have:=H.ml;omega) (Nat.le_refl _) (Nat.le_refl _)
end
def AS (s:Nat):Prop:=PS s∨RS s
structure PD (h:H) (col:bY) (w r:Addr) (m:WM):Prop where
 P:PW h col w m
 R:RW h col r m
section
variable {h h':H} {K:KV} {col col':bY} {w r:Addr} {m m':WM} {u v x:Nat}
theorem PD.kb (D:PD h col w r m) (k:KB h h'):PD h' col w r m:=⟨D.P.kb k,D.R.kb k⟩
theorem PW.wo {h1:H} {c1:bY} (P:PW h col w m) (E:al RS h col h1 c1) (f:bh h1 c1):PW h1 c1 w m:=P.ext E (by unfold RS;omega) (by unfold RS;omega) f
theorem RW.cf {h1:H} {c1:bY} (R:RW h col r m) (E:al PS h col h1 c1) (f:bh h1 c1):RW h1 c1 r m:=R.ext E (by unfold PS;omega) (by unfold PS;omega) f
theorem PD.act {h1 h2:H} {c1 c2:bY} (D:PD h col w r m) (P1:PW h1 c1 w m') (E1:al PS h col h1 c1) (R2:RW h2 c2 r m') (E2:al RS h1 c1 h2 c2):PD h2 c2 w r m'/\al AS h col h2 c2:=
 ⟨⟨P1.wo E2 R2.fresh,R2⟩,(E1.mono fun s hs=>.inl hs).trans (E2.mono fun s hs=>.inr hs)⟩
end
def uv (x:aP) (s:Bs):Bool:=decide (x.2.1=0)&&decide (x.2.2.1=s)
abbrev fi (x:aP):Bool:=ct x.2.1 x.2.2.1
def En (op:List aP) (s:Bs):Nat->Nat
 | 0=>0
 | i+1=>if i=0 then 0 else if uv (op.getD i aI) s then i else if fi (op.getD i aI) then 0 else En op s i
def fk (m:WM) (s:Bs):WM:=cZ m (En m.op s m.op.length:Nat)
abbrev gh (op:List aP) (id:Int):Int:=cM op fun x=>decide (x.1=id)
def CA:List Bs:=[[42]]
def oW (x:aP):Bool:=kQ [(0,0,[42],0),x] 0 CA
def eT (l:List aP):Bool:=l.all oW
def bX (m:WM) (k:Nat):WM:={m with aE:=m.aE.eraseIdx k}
def ed (b k:Nat):Nat:=if k<b then b - 1 else b
noncomputable def dN (blk f:Int):Nat->Nat->WM->Int->Nat->WM × Int × Nat
 | 0,_,m,last,b=>(m,last,b)
 | gE+1,n,m,last,b=>
  let x:=m.op.getD gE aI
  if x.1=f then(m,last,b)
  else
   let k:=bp m.aE x.1
   if 0<=k/\n<3 then
    let c:=(bg m.ns x.1).2
    dN blk f gE (n+1)
     {m with ns:=(cV (bg m.ns x.1).1 c (-1) last).1,op:=m.op.set gE (c,x.2),aE:=m.aE.set k.toNat (c,(m.aE.getD k.toNat noMark).2)}
     c (if last=blk then k.toNat+1 else b)
   else if 0<=k then dN blk f gE (n+1) (gr (bX m k.toNat) x.1) last (ed b k.toNat)
   else dN blk f gE (n+1) (gr m x.1) last b
def cP {α:Type} (l:List α) (i:Nat) (x:α):List α:=l.take i++x::l.drop i
noncomputable def mW (m:WM) (f blk:Int) (b:Nat):WM:=
 let id:=(bg m.ns f).2
 let ns:=(cV (dn (bg m.ns f).1 blk id).1 blk (-1) id).1
 let k:=(bp m.aE f).toNat
 let op:=bt m.op f
 {m with ns:=ns,aE:=cP (m.aE.eraseIdx k) (ed b k) (id,(m.aE.getD k noMark).2),op:=cP op ((gh op blk)+1).toNat (id,(m.op.getD (gh m.op f).toNat aI).2)}
noncomputable def ur (m:WM) (f:Int) (k gE n:Nat):WM:=
 let blk:=(m.op.getD n aI).1
 let r:=dN blk f n 0 m blk k
 let p:=cy r.1.ns r.1.op r.1.fo (m.op.getD (gE - 1) aI)
 mW {r.1 with ns:=(cV r.1.ns p.1 p.2 r.2.1).1} f blk r.2.2
noncomputable def jl (m:WM) (k:Nat):WM × Bool:=
 let f:=(m.aE.getD k noMark).1
 if gh m.op f<0 then(bX m k,false)
 else
  let gE:=(gh m.op f).toNat
  if eT (m.op.drop (gE+1))=false then(m,false)
  else if cM (m.op.drop (gE+1)) fi<0 then(bX (cZ m gE) k,false)
  else(ur m f k gE ((cM (m.op.drop (gE+1)) fi).toNat+(gE+1)),true)
noncomputable def eS (s:Bs):Nat->WM->WM × Bool
 | 0,m=>(m,true)
 | r+1,m=>
  if fA m.aE s<0 then(m,false)
  else if(jl m (fA m.aE s).toNat).2 then eS s r (jl m (fA m.aE s).toNat).1
  else((jl m (fA m.aE s).toNat).1,true)
noncomputable def runM (m:WM) (s:Bs):WM × Bool:=
 if uv (dP m.op) s=true/\bp m.aE (dP m.op).1<0 then(cZ m ((m.op.length:Int) - 1),true)
 else eS s 8 m
def fR (ns ns':List ay):Prop:=∀(j:Nat) z,ns[j]? =some z->∃z',ns'[j]? =some z'/\z'.kind=z.kind
theorem fR.mD {ns ns':List ay} (l:gv ns ns') (hl:ns'.length=ns.length):fR ns ns':=fun j z hz=>by
 have hj:j<ns.length:=(List.getElem?_eq_some_iff.1 hz).1
 have h':ns'[j]? =some (ns'[j]'(by omega)):=List.getElem?_eq_getElem (by omega)
 obtain⟨y,hy,e,_⟩:=l j _ h'
 rw[hz] at hy;cases hy
 exact⟨_,h',e⟩
theorem fR.trans {a b c:List ay} (h:fR a b) (k:fR b c):fR a c:=fun j z hz=>by
 obtain⟨y,hy,e⟩:=h j z hz
 obtain⟨x,hx,e2⟩:=k j y hy
 exact⟨x,hx,e2.trans e⟩
structure AI (m:WM) (u v x:Nat):Prop where
 D:DI m u v x
 root:(m.op.getD 0 aI).1=0
 kind:∀y ∈ m.op,y.1≠0->∃z,m.ns[y.1.toNat]? =some z/\z.kind=1
 tz:∀y ∈ m.aE,y.1≠0
 yD:∀y ∈ m.op,y.2.2.1.length<=4000
section
variable {m:WM} {u v x u':Nat}
theorem AI.mono {v' x':Nat} (A:AI m u v x) (h1:u<=u') (h2:v<=v') (h3:x<=x'):AI m u' v' x':=⟨A.D.mono h1 h2 h3,A.root,A.kind,A.tz,A.yD⟩
theorem AI.tree (A:AI m u v x) {ns':List ay} (G:aV ns') (B:gJ ns') (T:gd ns' x) (hu:ns'.length<=u') (huu:u<=u') (hl:m.ns.length<=ns'.length) (hk:fR m.ns ns'):AI {m with ns:=ns'} u' v x:=
 ⟨⟨G,B,A.D.ne,fun y hy=>by have:=A.D.ids y hy;exact⟨this.1,by show y.1<(ns'.length:Int);omega⟩,A.D.nd,Nat.le_trans A.D.lo huu,hu,A.D.ml,A.D.mw,T⟩,A.root,
  fun y hy h0=>by obtain⟨z,hz,e⟩:=A.kind y hy h0;obtain⟨z',il,e'⟩:=hk _ z hz;exact⟨z',il,e'.trans e⟩,A.tz,A.yD⟩
theorem AI.put (A:AI m u v x) (q b i:Int):AI {m with ns:=(cV m.ns q b i).1} u v x:=by
 have hl:(cV m.ns q b i).1.length=m.ns.length:=fv A.D.G q b i
 have hk:=fC A.D.G q b i
 exact A.tree (A.D.G.cV q b i) (A.D.B.mD hk) (A.D.tx.mD hk) (by rw[hl];exact A.D.ln) (Nat.le_refl _) (Nat.le_of_eq hl.symm) (.mD hk hl)
theorem AI.move (A:AI m u v x) (q b:Int):AI {m with ns:=(dn m.ns q b).1} u v x:=by
 have hl:(dn m.ns q b).1.length=m.ns.length:=sF q b
 have hk:=zG (ns:=m.ns) q b
 exact A.tree (A.D.G.dn q b) (A.D.B.mD hk) (A.D.tx.mD hk) (by rw[hl];exact A.D.ln) (Nat.le_refl _) (Nat.le_of_eq hl.symm) (.mD hk hl)
theorem Q0 {ns:List ay} {id:Int} {z:ay} (h0:0<=id) (hz:ns[id.toNat]? =some z) (hk:z.kind=1):bg ns id=(ns++ [⟨1,z.space,z.name,z.attrs,[], -1,[]⟩],(ns.length:Int)):=by
 have cR:id.toNat<ns.length:=(List.getElem?_eq_some_iff.1 hz).1
 unfold bg
 rw[if_pos ⟨h0,by omega⟩,hz]
 show bE ns (bF z.kind z.space z.name z.attrs z.text)=_
 unfold bF
 rw[if_pos hk,hk]
 rfl
theorem AI.pos (A:AI m u v x):0<m.ns.length:=A.D.pos
theorem AI.copy (A:AI m u v x) {y:aP} (hy:y ∈ m.op) (h0:y.1≠0):AI {m with ns:=(bg m.ns y.1).1} (u+1) v x/\(bg m.ns y.1).2=(m.ns.length:Int)/\(bg m.ns y.1).1.length=m.ns.length+1/\∃z,(bg m.ns y.1).1[m.ns.length]? =some z/\z.kind=1:=by
 obtain⟨z,hz,hk⟩:=A.kind y hy h0
 have e:=Q0 (A.D.ids y hy).1 hz hk
 have hl:(bg m.ns y.1).1.length=m.ns.length+1:=by rw[e];simp
 have qF:=A.D.ln
 refine⟨A.tree (A.D.G.bg _) (A.D.B.bg A.pos _) (A.D.tx.bg _) (by omega) (by omega) (by omega) fun j z hz=>⟨z,?_,rfl⟩,by rw[e],hl,?_⟩
 ·rw[e]
  have hj:j<m.ns.length:=(List.getElem?_eq_some_iff.1 hz).1
  show(m.ns++ [_])[j]? =_
  rw[List.getElem?_append_left hj];exact hz
 ·rw[e]
  exact⟨_,by show(m.ns++ [_])[m.ns.length]? =_;rw[List.getElem?_append_right (Nat.le_refl _)];simp;rfl,rfl⟩
theorem AI.ops (A:AI m u v x) {op:List aP} (bL:0<op.length) (hs:op.Sublist m.op) (hr:(op.getD 0 aI).1=0):AI {m with op:=op} u v x:=
 ⟨A.D.ops bL hs,hr,fun y hy=>A.kind y (hs.subset hy),A.tz,fun y hy=>A.yD y (hs.subset hy)⟩
theorem getD_take {α:Type} (l:List α) {n:Nat} (hn:0<n) (d:α):(l.take n).getD 0 d=l.getD 0 d:=by
 cases l with
 | nil=>simp
 | cons a l=>cases n with
  | zero=>omega
  | succ n=>rfl
theorem getD_erase {α:Type} (l:List α) {i j:Nat} (hij:j<i) (d:α):(l.eraseIdx i).getD j d=l.getD j d:=by
 rw[List.getD_eq_getElem?_getD,List.getD_eq_getElem?_getD,List.getElem?_eraseIdx,if_pos hij]
theorem AI.close (A:AI m u v x) (n:Int):AI (cZ m n) u v x:=by
 have hc:=A.D.close n
 unfold cZ gW at*
 split
 ·rename_i h
  rw[if_pos h] at hc
  exact A.ops hc.ne (List.take_sublist _ _) (by rw[getD_take _ (by omega)];exact A.root)
 ·exact A
theorem AI.drop (A:AI m u v x) (id:Int):AI (gr m id) u v x:=by
 have hc:=A.D.drop id
 unfold gr bt at*
 split
 ·rename_i h
  rw[if_pos h] at hc
  exact A.ops hc.ne (List.eraseIdx_sublist _ _) (by rw[getD_erase _ (by omega)];exact A.root)
 ·exact A
theorem AI.fk (A:AI m u v x) (s:Bs):AI (fk m s) u v x:=A.close _
theorem AI.marks (A:AI m u v x) {l:List aS} (hl:l.length<=v) (hw:rP l) (hm:∀y ∈ l,y.1≠0):AI {m with aE:=l} u v x:=
 ⟨⟨A.D.G,A.D.B,A.D.ne,A.D.ids,A.D.nd,A.D.lo,A.D.ln,hl,hw,A.D.tx⟩,A.root,A.kind,hm,A.yD⟩
theorem AI.bX (A:AI m u v x) (k:Nat):AI (bX m k) u v x:=
 A.marks (Nat.le_trans (List.length_eraseIdx_le _ _) A.D.ml) (fun y hy=>A.D.mw y (List.mem_of_mem_eraseIdx hy)) fun y hy=>A.tz y (List.mem_of_mem_eraseIdx hy)
theorem fy {α:Type} {l:List α} {p:α->Bool} (h:0<=cM l p):∃hi:(cM l p).toNat<l.length,p l[(cM l p).toNat]=true/\∀j (hj:j<l.length),j<(cM l p).toNat->p l[j]=false:=by
 unfold cM at*
 cases hq:l.findIdx? p with
 | none=>rw[hq] at h;exact absurd h (by decide)
 | some i=>
  obtain⟨hi,h1,h2⟩:=List.findIdx?_eq_some_iff_getElem.1 hq
  exact⟨hi,h1,fun j hj O9=>by simpa using h2 j O9⟩
theorem AI.SQ (A:AI m u v x) {i j:Nat} (hi:i<m.op.length) (hj:j<m.op.length) (e:m.op[i].1=m.op[j].1):i=j:=by
 have hn:=A.D.nd
 have h1:(m.op.map (·.1))[i]'(by simpa using hi)=(m.op.map (·.1))[j]'(by simpa using hj):=by simpa using e
 have hp:=List.pairwise_iff_getElem.1 hn
 rcases Nat.lt_trichotomy i j with h | h | h
 ·exact absurd h1 (hp i j (by simpa using hi) (by simpa using hj) h)
 ·exact h
 ·exact absurd h1.symm (hp j i (by simpa using hj) (by simpa using hi) h)
theorem AI.tF (A:AI m u v x) {i:Nat} (hi:i<m.op.length):gh m.op m.op[i].1=(i:Int):=by
 have h0:0<=gh m.op m.op[i].1:=by
  refine mg.2 (List.any_eq_true.2 ⟨_,List.getElem_mem hi,by simp⟩)
 obtain⟨hk,h1,h2⟩:=fy h0
 have:=A.SQ hk hi (by simpa using h1)
 show cM m.op _=_
 have e:(cM m.op fun x=>decide (x.1=m.op[i].1)).toNat=i:=this
 have h0:0<=cM m.op fun x=>decide (x.1=m.op[i].1):=h0
 omega
theorem AI.OO (A:AI m u v x) {i:Nat} (hi:i<m.op.length) (h0:0<i):m.op[i].1≠0:=fun e=>by
 have hr:=A.root
 have hp:=A.D.ne
 rw[aJ hp] at hr
 have:=A.SQ hi hp (e.trans hr.symm)
 omega
theorem AI.vH (A:AI m u v x) {i:Nat} (hi:i<m.op.length) (h0:0<i):bt m.op m.op[i].1=m.op.eraseIdx i:=by
 have e:=A.tF hi
 unfold bt
 have e:(cM m.op fun x=>decide (x.1=m.op[i].1))=(i:Int):=e
 rw[e,if_pos (by omega)];rfl
theorem gj {l:List aS} {id:Int} (h:0<=bp l id):0<=id/\∃hi:(bp l id).toNat<l.length,l[(bp l id).toNat].1=id:=by
 unfold bp at*
 split at h
 ·exact absurd h (by decide)
 ·rename_i hn
  obtain⟨hi,h1,_⟩:=fy h
  simp only[if_neg hn]
  exact⟨by omega,hi,by simpa using h1⟩
theorem pJ {l:List aS} {id:Int} (h0:0<=id):0<=bp l id↔∃y ∈ l,y.1=id:=by
 unfold bp
 rw[if_neg (by omega),mg,List.any_eq_true]
 simp
structure CI (m:WM) (u v x:Nat) (f:Int) (j b q:Nat):Prop where
 A:AI m u v x
 hj:j<q
 h0:0<j
 hq:q<=m.op.length
 hf:(m.op.getD j aI).1=f
 hm:∃y ∈ m.aE,y.1=f
 hb:b<=m.aE.length
variable {f:Int} {j b q:Nat}
theorem CI.lt (C:CI m u v x f j b (q+1)) (bL:(m.op.getD q aI).1≠f):j<q:=by
 have:=C.hj
 rcases Nat.lt_or_ge j q with h | h
 ·exact h
 ·have:q=j:=by omega
  rw[this] at bL;exact absurd C.hf bL
theorem CI.pos (C:CI m u v x f j b (q+1)) (bL:(m.op.getD q aI).1≠f):0<q:=by have:=C.lt bL;omega
theorem xY {α:Type} (l:List α) {i j:Nat} (hij:j≠i) (y d:α):(l.set i y).getD j d=l.getD j d:=by
 rw[List.getD_eq_getElem?_getD,List.getD_eq_getElem?_getD,List.getElem?_set_ne (fun e=>hij e.symm)]
theorem Jt {β:Type} {l:List (Int × β)} (hn:(l.map (·.1)).Nodup) {i:Nat} {y:Int × β} (hy:∀z ∈ l,z.1≠y.1):((l.set i y).map (·.1)).Nodup:=by
 induction l generalizing i with
 | nil=>exact hn
 | cons a l ih=>
  rw[List.map_cons,List.nodup_cons] at hn
  cases i with
  | zero=>
   rw[List.set_cons_zero,List.map_cons,List.nodup_cons]
   refine⟨fun h=>?_,hn.2⟩
   obtain⟨z,hz,e⟩:=List.mem_map.1 h
   exact hy z (by simp[hz]) e
  | succ i=>
   rw[List.set_cons_succ,List.map_cons,List.nodup_cons]
   refine⟨fun h=>?_,ih hn.2 fun z hz=>hy z (by simp[hz])⟩
   obtain⟨z,hz,e⟩:=List.mem_map.1 h
   rcases List.mem_or_eq_of_mem_set hz with h2 | h2
   ·exact hn.1 (List.mem_map.2 ⟨z,h2,e⟩)
   ·subst h2;exact hy a (by simp) e.symm
theorem AI.Q1 (A:AI m u v x) {i:Nat} (hi:i<m.op.length) (h0:0<i):AI {m with ns:=(bg m.ns m.op[i].1).1,op:=m.op.set i ((bg m.ns m.op[i].1).2,m.op[i].2)} (u+1) v x:=by
 obtain⟨A1,e,hl,z,hz,hk⟩:=A.copy (List.getElem_mem hi) (A.OO hi h0)
 have jQ:=A.D.lo
 refine⟨⟨A1.D.G,A1.D.B,by show 0<(m.op.set _ _).length;rw[List.length_set];exact A.D.ne,fun y hy=>?_,?_,by show(m.op.set _ _).length<=_;rw[List.length_set];omega,A1.D.ln,A.D.ml,A.D.mw,A1.D.tx⟩,?_,fun y hy hy0=>?_,A.tz,fun y hy=>?_⟩
 ·rcases List.mem_or_eq_of_mem_set hy with h | h
  ·exact A1.D.ids y h
  ·subst h
   rw[e]
   exact⟨by show(0:Int)<=(m.ns.length:Int);omega,by show(m.ns.length:Int)<((bg m.ns m.op[i].1).1.length:Int);omega⟩
 ·refine Jt A.D.nd fun z hz=>?_
  have:=(A.D.ids z hz).2
  rw[e]
  exact fun h=>by have h:z.1=(m.ns.length:Int):=h;omega
 ·rw[xY _ (by omega)];exact A.root
 ·rcases List.mem_or_eq_of_mem_set hy with h | h
  ·exact A1.kind y h hy0
  ·subst h
   rw[e]
   exact⟨z,by show(bg m.ns m.op[i].1).1[(m.ns.length:Int).toNat]? =_;rw[Int.toNat_natCast];exact hz,hk⟩
 ·rcases List.mem_or_eq_of_mem_set hy with h | h
  ·exact A.yD y h
  ·subst h;exact A.yD m.op[i] (List.getElem_mem hi)
theorem CI.copy (C:CI m u v x f j b (q+1)) (bL:(m.op.getD q aI).1≠f) (hk:0<=bp m.aE (m.op.getD q aI).1) (last:Int) {b':Nat} (IN:b'=(bp m.aE (m.op.getD q aI).1).toNat+1∨b'=b):
  CI {m with ns:=(cV (bg m.ns (m.op.getD q aI).1).1 (bg m.ns (m.op.getD q aI).1).2 (-1) last).1,op:=m.op.set q ((bg m.ns (m.op.getD q aI).1).2,(m.op.getD q aI).2),aE:=m.aE.set (bp m.aE (m.op.getD q aI).1).toNat ((bg m.ns (m.op.getD q aI).1).2,(m.aE.getD (bp m.aE (m.op.getD q aI).1).toNat noMark).2)} (u+1) v x f j b' q:=by
 have hq:q<m.op.length:=by have:=C.hq;omega
 have hjq:=C.lt bL
 have hp:=C.pos bL
 have eg:m.op.getD q aI=m.op[q]:=aJ hq
 rw[eg] at bL hk IN ⊢
 obtain⟨_,dJ,Xs⟩:=gj hk
 obtain⟨A1,e,hl,_⟩:=C.A.copy (List.getElem_mem hq) (C.A.OO hq hp)
 have A2:=C.A.Q1 hq hp
 have tG:m.aE.getD (bp m.aE m.op[q].1).toNat noMark=m.aE[(bp m.aE m.op[q].1).toNat]:=aJ dJ
 rw[tG]
 have A3:AI {m with ns:=(bg m.ns m.op[q].1).1,op:=m.op.set q ((bg m.ns m.op[q].1).2,m.op[q].2),aE:=m.aE.set (bp m.aE m.op[q].1).toNat ((bg m.ns m.op[q].1).2,m.aE[(bp m.aE m.op[q].1).toNat].2)} (u+1) v x:=by
  refine A2.marks (l:=m.aE.set (bp m.aE m.op[q].1).toNat ((bg m.ns m.op[q].1).2,m.aE[(bp m.aE m.op[q].1).toNat].2)) (by rw[List.length_set];exact C.A.D.ml) (C.A.D.mw.set dJ _) fun y hy=>?_
  rcases List.mem_or_eq_of_mem_set hy with h | h
  ·exact C.A.tz y h
  ·subst h
   have:=C.A.pos
   rw[e]
   exact fun h=>by have h:(m.ns.length:Int)=0:=h;omega
 refine⟨A3.put (bg m.ns m.op[q].1).2 (-1) last,hjq,C.h0,by show q<=(m.op.set _ _).length;rw[List.length_set];omega,by show((m.op.set _ _).getD j aI).1=f;rw[xY _ (by omega)];exact C.hf,?_,by
  show b'<=(m.aE.set _ _).length
  rw[List.length_set]
  have:=C.hb
  omega⟩
 obtain⟨y,hy,ey⟩:=C.hm
 obtain⟨i,hi,rfl⟩:=List.mem_iff_getElem.1 hy
 have FV:(bp m.aE m.op[q].1).toNat≠i:=fun h=>by
  subst h
  rw[Xs] at ey;exact bL ey
 exact⟨m.aE[i],by
  show m.aE[i] ∈ m.aE.set _ _
  rw[List.mem_iff_getElem]
  exact⟨i,by rw[List.length_set];exact hi,by rw[List.getElem_set_ne FV]⟩,ey⟩
theorem CI.uz (C:CI m u v x f j b (q+1)) (bL:(m.op.getD q aI).1≠f):CI (gr m (m.op.getD q aI).1) u v x f j b q:=by
 have hq:q<m.op.length:=by have:=C.hq;omega
 have hjq:=C.lt bL
 have hp:=C.pos bL
 have eg:m.op.getD q aI=m.op[q]:=aJ hq
 have hd:(gr m (m.op.getD q aI).1).op=m.op.eraseIdx q:=by rw[eg];exact C.A.vH hq hp
 refine⟨C.A.drop _,hjq,C.h0,?_,?_,C.hm,C.hb⟩
 ·rw[hd,List.length_eraseIdx,if_pos hq];omega
 ·rw[hd,getD_erase _ hjq];exact C.hf
theorem CI.bX (C:CI m u v x f j b (q+1)) (bL:(m.op.getD q aI).1≠f) (hk:0<=bp m.aE (m.op.getD q aI).1):CI (bX m (bp m.aE (m.op.getD q aI).1).toNat) u v x f j (ed b (bp m.aE (m.op.getD q aI).1).toNat) (q+1):=by
 obtain⟨_,dJ,Xs⟩:=gj hk
 have hb:=C.hb
 refine⟨C.A.bX _,C.hj,C.h0,C.hq,C.hf,?_,?_⟩
 ·obtain⟨y,hy,ey⟩:=C.hm
  refine⟨y,?_,ey⟩
  refine List.mem_eraseIdx_iff_getElem.2 ?_
  obtain⟨i,hi,rfl⟩:=List.mem_iff_getElem.1 hy
  exact⟨i,hi,fun h=>by subst h;rw[Xs] at ey;exact bL ey,rfl⟩
 ·show ed b _<=(m.aE.eraseIdx _).length
  rw[List.length_eraseIdx,if_pos dJ]
  unfold ed
  split <;> omega
theorem iL (blk:Int):∀(q n:Nat) {m:WM} {u v x:Nat} {b:Nat} (last:Int),CI m u v x f j b q->CI (dN blk f q n m last b).1 (u+(3 - n)) v x f j (dN blk f q n m last b).2.2 (j+1)
 | 0,n,m,u,v,x,b,last,C=>absurd C.hj (by omega)
 | q+1,n,m,u,v,x,b,last,C=>by
  unfold dN
  simp only[]
  by_cases hf:(m.op.getD q aI).1=f
  ·rw[if_pos hf]
   exact⟨C.A.mono (by omega) (Nat.le_refl _) (Nat.le_refl _),by omega,C.h0,by have:=C.hj;have:=C.hq;show j+1<=m.op.length;omega,C.hf,C.hm,C.hb⟩
  ·rw[if_neg hf]
   by_cases h1:0<=bp m.aE (m.op.getD q aI).1/\n<3
   ·rw[if_pos h1]
    have C2:=C.copy hf h1.1 last (b':=if last=blk then(bp m.aE (m.op.getD q aI).1).toNat+1 else b) (by split;exact .inl rfl;exact .inr rfl)
    have:=iL blk q (n+1) (bg m.ns (m.op.getD q aI).1).2 C2
    rw[show u+(3 - n)=u+1+(3 - (n+1)) by omega]
    exact this
   ·rw[if_neg h1]
    by_cases h2:0<=bp m.aE (m.op.getD q aI).1
    ·rw[if_pos h2]
     have C2:=(C.bX hf h2).uz hf
     have:=iL blk q (n+1) last C2
     exact⟨this.A.mono (by omega) (Nat.le_refl _) (Nat.le_refl _),this.hj,this.h0,this.hq,this.hf,this.hm,this.hb⟩
    ·rw[if_neg h2]
     have:=iL blk q (n+1) last (C.uz hf)
     exact⟨this.A.mono (by omega) (Nat.le_refl _) (Nat.le_refl _),this.hj,this.h0,this.hq,this.hf,this.hm,this.hb⟩
end
section
variable {m:WM} {u v x j b q:Nat} {f blk:Int}
def BI (m:WM) (blk:Int) (q:Nat):Prop:=∃i,q<=i/\i<m.op.length/\(m.op.getD i aI).1=blk
theorem CI.H0 (C:CI m u v x f j b (q+1)) (bL:(m.op.getD q aI).1≠f):(gr m (m.op.getD q aI).1).op=m.op.eraseIdx q:=by
 have hq:q<m.op.length:=by have:=C.hq;omega
 rw[aJ hq]
 exact C.A.vH hq (C.pos bL)
theorem BI.drop (B:BI m blk (q+1)) {m':WM} (hq:q<m.op.length) (ho:m'.op=m.op.eraseIdx q):BI m' blk q:=by
 obtain⟨i,h1,h2,h3⟩:=B
 refine⟨i - 1,by omega,by rw[ho,List.length_eraseIdx,if_pos hq];omega,?_⟩
 rw[ho,List.getD_eq_getElem?_getD,List.getElem?_eraseIdx,if_neg (by omega),show i - 1+1=i by omega,<-List.getD_eq_getElem?_getD]
 exact h3
theorem mh:∀(q n:Nat) {m:WM} {u v x b:Nat} (last:Int),CI m u v x f j b q->BI m blk q->BI (dN blk f q n m last b).1 blk (j+1)
 | 0,n,m,u,v,x,b,last,C,B=>absurd C.hj (by omega)
 | q+1,n,m,u,v,x,b,last,C,B=>by
  have hq:q<m.op.length:=by have:=C.hq;omega
  unfold dN
  simp only[]
  by_cases hf:(m.op.getD q aI).1=f
  ·rw[if_pos hf]
   obtain⟨i,h1,h2,h3⟩:=B
   exact⟨i,by have:=C.hj;omega,h2,h3⟩
  ·rw[if_neg hf]
   by_cases h1:0<=bp m.aE (m.op.getD q aI).1/\n<3
   ·rw[if_pos h1]
    have C2:=C.copy hf h1.1 last (b':=if last=blk then(bp m.aE (m.op.getD q aI).1).toNat+1 else b) (by split;exact .inl rfl;exact .inr rfl)
    refine mh q (n+1) _ C2 ?_
    obtain⟨i,h1,h2,h3⟩:=B
    exact⟨i,by omega,by show i<(m.op.set _ _).length;rw[List.length_set];exact h2,by show((m.op.set _ _).getD i aI).1=blk;rw[xY _ (by omega)];exact h3⟩
   ·rw[if_neg h1]
    by_cases h2:0<=bp m.aE (m.op.getD q aI).1
    ·rw[if_pos h2]
     have C1:=C.bX hf h2
     exact mh q (n+1) last (C1.uz hf) (B.drop (m':=gr (bX m _) _) hq (C1.H0 hf))
    ·rw[if_neg h2]
     exact mh q (n+1) last (C.uz hf) (B.drop hq (C.H0 hf))
theorem NP {α:Type} (l:List α) {i:Nat} (hi:0<i) (hl:0<l.length) (y d:α):(cP l i y).getD 0 d=l.getD 0 d:=by
 unfold cP
 cases l with
 | nil=>simp at hl
 | cons a l=>cases i with
  | zero=>omega
  | succ i=>rfl
theorem sE {α:Type} {l:List α} {i:Nat} {y z:α} (h:z ∈ cP l i y):z ∈ l∨z=y:=by
 unfold cP at h
 rcases List.mem_append.1 h with h | h
 ·exact .inl (List.mem_of_mem_take h)
 ·rcases List.mem_cons.1 h with h | h
  ·exact .inr h
  ·exact .inl (List.mem_of_mem_drop h)
theorem vQ {α:Type} (l:List α) (i:Nat) (y:α):(cP l i y).length=l.length+1:=by
 unfold cP
 rw[List.length_append,List.length_cons,List.length_take,List.length_drop]
 omega
theorem GD {β:Type} {l:List (Int × β)} (hn:(l.map (·.1)).Nodup) {i:Nat} {y:Int × β} (hy:∀z ∈ l,z.1≠y.1):((cP l i y).map (·.1)).Nodup:=by
 unfold cP
 rw[List.map_append,List.map_cons]
 have hp:(l.map (·.1))=(l.take i).map (·.1)++(l.drop i).map (·.1):=by rw[<-List.map_append,List.take_append_drop]
 rw[hp] at hn
 obtain⟨h1,h2,h3⟩:=List.nodup_append.1 hn
 refine List.nodup_append.2 ⟨h1,List.nodup_cons.2 ⟨fun h=>?_,h2⟩,fun p hp q hq=>?_⟩
 ·obtain⟨z,hz,e⟩:=List.mem_map.1 h
  exact hy z (List.mem_of_mem_drop hz) e
 ·rcases List.mem_cons.1 hq with e | e
  ·subst e
   intro e2
   obtain⟨z,hz,e3⟩:=List.mem_map.1 hp
   exact hy z (List.mem_of_mem_take hz) (e3.trans e2)
  ·exact h3 p hp q e
theorem CI.renew (C:CI m u v x f j b q) (B:BI m blk (j+1)):AI (mW m f blk b) (u+1) v x:=by
 have fU:j<m.op.length:=Nat.lt_of_lt_of_le C.hj C.hq
 have eg:m.op.getD j aI=m.op[j]:=aJ fU
 have tu:m.op[j].1=f:=by have:=C.hf;rwa[eg] at this
 have Yh:0<=f:=by rw[<-tu];exact(C.A.D.ids _ (List.getElem_mem fU)).1
 have wk:gh m.op f=(j:Int):=by rw[<-tu];exact C.A.tF fU
 obtain⟨A1,ec,hcl,z,hz,hzk⟩:=C.A.copy (List.getElem_mem fU) (C.A.OO fU C.h0)
 rw[tu] at A1 ec hcl hz
 have A2:=(A1.move blk (bg m.ns f).2).put blk (-1) (bg m.ns f).2
 have wu:bt m.op f=m.op.eraseIdx j:=by rw[<-tu];exact C.A.vH fU C.h0
 have Td:0<=bp m.aE f:=(pJ Yh).2 C.hm
 obtain⟨_,dJ,_⟩:=gj Td
 have tG:m.aE.getD (bp m.aE f).toNat noMark=m.aE[(bp m.aE f).toNat]:=aJ dJ
 have qF:=C.A.D.ln
 have jQ:=C.A.D.lo
 have jR:=C.A.D.ml
 obtain⟨i,Ay,yl,hi3⟩:=B
 have Xt:(m.op.eraseIdx j).length=m.op.length - 1:=by rw[List.length_eraseIdx,if_pos fU]
 have Ad:=C.A.drop f
 have vL:0<((gh (bt m.op f) blk)+1).toNat:=by
  have iZ:∃y ∈ bt m.op f,y.1=blk:=by
   rw[wu]
   refine⟨m.op[i],List.mem_eraseIdx_iff_getElem.2 ⟨i,yl,by omega,rfl⟩,?_⟩
   rwa[aJ yl] at hi3
  have:0<=cM (bt m.op f) (fun x=>decide (x.1=blk)):=by
   rw[mg,List.any_eq_true]
   obtain⟨y,hy,e⟩:=iZ
   exact⟨y,hy,by simpa using e⟩
  have:0<=gh (bt m.op f) blk:=this
  omega
 have hid:∀y ∈ bt m.op f,y.1≠(m.ns.length:Int):=fun y hy e=>by
  have:=(Ad.D.ids y hy).2
  have h2:y.1<(m.ns.length:Int):=this
  omega
 have hlen:(cV (dn (bg m.ns f).1 blk (bg m.ns f).2).1 blk (-1) (bg m.ns f).2).1.length=m.ns.length+1:=by
  rw[fv (A1.move blk (bg m.ns f).2).D.G,sF,hcl]
 have kk:fR (bg m.ns f).1 (cV (dn (bg m.ns f).1 blk (bg m.ns f).2).1 blk (-1) (bg m.ns f).2).1:=
  (fR.mD (zG _ _) (sF _ _)).trans (.mD (fC (A1.move blk (bg m.ns f).2).D.G _ _ _) (fv (A1.move blk (bg m.ns f).2).D.G _ _ _))
 unfold mW
 simp only[wk,Int.toNat_natCast,eg,tG,ec] at A2 hlen kk ⊢
 have hyy:∀y ∈ cP (bt m.op f) ((gh (bt m.op f) blk)+1).toNat ((m.ns.length:Int),m.op[j].2),y ∈ m.op∨y=((m.ns.length:Int),m.op[j].2):=fun y hy=>by
  rcases sE hy with h | h
  ·refine .inl ?_
   rw[wu] at h
   exact List.mem_of_mem_eraseIdx h
  ·exact .inr h
 refine⟨⟨A2.D.G,A2.D.B,?_,fun y hy=>?_,?_,?_,A2.D.ln,?_,fun y hy=>?_,A2.D.tx⟩,?_,fun y hy hy0=>?_,fun y hy=>?_,fun y hy=>?_⟩
 ·show 0<(cP _ _ _).length
  rw[vQ];omega
 ·rcases hyy y hy with h | h
  ·exact A2.D.ids y h
  ·subst h
   refine⟨by show(0:Int)<=(m.ns.length:Int);omega,?_⟩
   show(m.ns.length:Int)<(((cV (dn (bg m.ns f).1 blk (m.ns.length:Int)).1 blk (-1) (m.ns.length:Int)).1.length:Nat):Int)
   rw[hlen];omega
 ·exact GD Ad.D.nd hid
 ·show(cP _ _ _).length<=u+1
  rw[vQ,wu,Xt];omega
 ·show(cP _ _ _).length<=v
  rw[vQ,List.length_eraseIdx,if_pos dJ];omega
 ·rcases sE hy with h | h
  ·exact C.A.D.mw y (List.mem_of_mem_eraseIdx h)
  ·subst h
   exact C.A.D.mw m.aE[(bp m.aE f).toNat] (List.getElem_mem dJ)
 ·show((cP _ _ _).getD 0 aI).1=0
  rw[NP _ vL (by rw[wu,Xt];omega),wu,getD_erase _ C.h0]
  exact C.A.root
 ·rcases hyy y hy with h | h
  ·exact A2.kind y h hy0
  ·subst h
   obtain⟨z',il,e'⟩:=kk _ z hz
   exact⟨z',by show _[((m.ns.length:Int)).toNat]? =_;rw[Int.toNat_natCast];exact il,e'.trans hzk⟩
 ·rcases sE hy with h | h
  ·exact C.A.tz y (List.mem_of_mem_eraseIdx h)
  ·subst h
   have:=C.A.pos
   exact fun e=>by have e:(m.ns.length:Int)=0:=e;omega
 ·rcases hyy y hy with h | h
  ·exact C.A.yD y h
  ·subst h
   exact C.A.yD m.op[j] (List.getElem_mem fU)
theorem CI.put (C:CI m u v x f j b q) (p c i:Int):CI {m with ns:=(cV m.ns p c i).1} u v x f j b q:=⟨C.A.put p c i,C.hj,C.h0,C.hq,C.hf,C.hm,C.hb⟩
theorem AI.begin (A:AI m u v x) {k:Nat} (hk:k<m.aE.length) (h0:0<=(m.aE.getD k noMark).1) (wk:0<=gh m.op (m.aE.getD k noMark).1) {n:Nat} (hn:(gh m.op (m.aE.getD k noMark).1).toNat<n) (vJ:n<=m.op.length):
  CI m u v x (m.aE.getD k noMark).1 (gh m.op (m.aE.getD k noMark).1).toNat k n:=by
 obtain⟨hi,h1,_⟩:=fy (l:=m.op) (p:=fun x=>decide (x.1=(m.aE.getD k noMark).1)) wk
 have tG:m.aE.getD k noMark=m.aE[k]:=aJ hk
 have hi:(gh m.op (m.aE.getD k noMark).1).toNat<m.op.length:=hi
 have e:(m.op.getD (gh m.op (m.aE.getD k noMark).1).toNat aI).1=(m.aE.getD k noMark).1:=by rw[aJ hi];simpa using h1
 refine⟨A,hn,?_,vJ,e,⟨m.aE[k],List.getElem_mem hk,by rw[tG]⟩,by omega⟩
 rcases Nat.eq_zero_or_pos (gh m.op (m.aE.getD k noMark).1).toNat with h | h
 ·exfalso
  rw[h,A.root] at e
  have bL:=A.tz m.aE[k] (List.getElem_mem hk)
  rw[tG] at e
  exact bL e.symm
 ·exact h
theorem AI.over (A:AI m u v x) {k:Nat} (hk:k<m.aE.length) (h0:0<=(m.aE.getD k noMark).1) (wk:0<=gh m.op (m.aE.getD k noMark).1) {n:Nat} (hn:(gh m.op (m.aE.getD k noMark).1).toNat<n) (vJ:n<m.op.length):
  AI (ur m (m.aE.getD k noMark).1 k (gh m.op (m.aE.getD k noMark).1).toNat n) (u+4) v x:=by
 have C:=A.begin hk h0 wk hn (Nat.le_of_lt vJ)
 have C2:=iL (m.op.getD n aI).1 n 0 (m.op.getD n aI).1 C
 have B2:=mh (blk:=(m.op.getD n aI).1) n 0 (m.op.getD n aI).1 C ⟨n,Nat.le_refl _,vJ,rfl⟩
 obtain⟨R,hR⟩:∃R,dN (m.op.getD n aI).1 (m.aE.getD k noMark).1 n 0 m (m.op.getD n aI).1 k=R:=⟨_,rfl⟩
 rw[hR] at C2 B2
 unfold ur
 simp only[hR]
 exact(C2.put _ _ _).renew B2
theorem AI.round (A:AI m u v x) {k:Nat} (hk:k<m.aE.length) (h0:0<=(m.aE.getD k noMark).1):AI (jl m k).1 (u+4) v x:=by
 unfold jl
 simp only[]
 split
 ·exact(A.bX k).mono (by omega) (Nat.le_refl _) (Nat.le_refl _)
 ·rename_i wk
  split
  ·exact A.mono (by omega) (Nat.le_refl _) (Nat.le_refl _)
  ·split
   ·exact((A.close _).bX k).mono (by omega) (Nat.le_refl _) (Nat.le_refl _)
   ·rename_i hs
    obtain⟨hi,_,_⟩:=fy (l:=m.op.drop ((gh m.op (m.aE.getD k noMark).1).toNat+1)) (p:=fi) (by omega)
    rw[List.length_drop] at hi
    exact A.over hk h0 (by omega) (by omega) (by omega)
theorem Am (l:List aS) (s:Bs):∀i,i<=l.length->0<=nR l s i->∃k:Nat,nR l s i=(k:Int)/\k<i/\0<=(l.getD k noMark).1
 | 0,_,h=>absurd (show(0:Int)<= -1 from h) (by decide)
 | i+1,hi,h=>by
  unfold nR at h ⊢
  by_cases h1:(l.getD i noMark).1<0
  ·rw[if_pos h1] at h;exact absurd h (by decide)
  ·rw[if_neg h1] at h ⊢
   by_cases h2:(l.getD i noMark).2.1=s
   ·rw[if_pos h2];exact⟨i,rfl,by omega,by omega⟩
   ·rw[if_neg h2] at h ⊢
    obtain⟨k,e,hk,h3⟩:=Am l s i (by omega) h
    exact⟨k,e,by omega,h3⟩
theorem mq {l:List aS} {s:Bs} (h:0<=fA l s):∃k:Nat,fA l s=(k:Int)/\k<l.length/\0<=(l.getD k noMark).1:=Am l s l.length (Nat.le_refl _) h
theorem AI.rounds (s:Bs):∀(r:Nat) {m:WM} {u:Nat},AI m u v x->AI (eS s r m).1 (u+4*r) v x
 | 0,m,u,A=>A
 | r+1,m,u,A=>by
  unfold eS
  split
  ·exact A.mono (by omega) (Nat.le_refl _) (Nat.le_refl _)
  ·rename_i hl
   obtain⟨k,e,hk,h0⟩:=mq (by omega:0<=fA m.aE s)
   have yg:(fA m.aE s).toNat=k:=by rw[e];rfl
   rw[yg]
   have A2:=A.round hk h0
   split
   ·have:=AI.rounds s r A2
    rw[show u+4*(r+1)=u+4+4*r by omega]
    exact this
   ·exact A2.mono (by omega) (Nat.le_refl _) (Nat.le_refl _)
theorem AI.run (A:AI m u v x) (s:Bs):AI (runM m s).1 (u+32) v x:=by
 unfold runM
 split
 ·exact(A.close _).mono (by omega) (Nat.le_refl _) (Nat.le_refl _)
 ·exact AI.rounds s 8 A
end
theorem fR.refl (ns:List ay):fR ns ns:=fun j z hz=>⟨z,hz,rfl⟩
theorem fR.app (ns:List ay) (l:List ay):fR ns (ns++l):=fun j z hz=>⟨z,by rw[List.getElem?_append_left (dv hz)];exact hz,rfl⟩
theorem fR.bE (ns:List ay) (x:Option ay):fR ns (bE ns x).1:=by
 cases x with
 | none=>exact .refl _
 | some x=>exact .app _ _
theorem fR.cD {ns:List ay} (G:aV ns) (p b:Int) (tx:Bs):fR ns (cD ns p b tx).1:=by
 rcases pg (ns:=ns) p b tx with h | ⟨j,z,hz,_,h⟩ | ⟨i,h⟩
 ·rw[h];exact .refl _
 ·rw[h]
  intro k y hy
  by_cases e:k=j
  ·subst e
   rw[hz] at hy;cases hy
   exact⟨{z with text:=z.text++tx},by rw[List.getElem?_set_self (dv hz)],rfl⟩
  ·exact⟨y,by rw[List.getElem?_set_ne (by omega)];exact hy,rfl⟩
 ·rw[h]
  exact(fR.bE _ _).trans (.mD (fC (G.bE _ _ _ _ _) _ _ _) (fv (G.bE _ _ _ _ _) _ _ _))
section
variable {m:WM} {u v x:Nat}
theorem AI.zero:AI EP 1 0 0:=⟨DI.zero,rfl,fun y hy h0=>by
 have:y=(0,0,sx,0):=by simpa [EP] using hy
 subst this
 exact absurd rfl h0,(fun y hy=>nomatch hy),fun y hy=>by
 have:y=(0,0,sx,0):=by simpa [EP] using hy
 subst this
 decide⟩
theorem NQ {α:Type} (l l2:List α) (h:0<l.length) (d:α):(l++l2).getD 0 d=l.getD 0 d:=by
 rw[List.getD_eq_getElem?_getD,List.getElem?_append_left h,<-List.getD_eq_getElem?_getD]
theorem AI.insert (A:AI m u v x) (sp:Int) {nm:Bs} (hn:nm.length<=4000) (gE:List bw):AI (bs m sp nm gE) (u+1) v x:=by
 have k1:fR m.ns (bs m sp nm gE).ns:=(fR.bE _ _).trans (.mD (fC (A.D.G.bE _ _ _ _ _) _ _ _) (fv (A.D.G.bE _ _ _ _ _) _ _ _))
 have k2:fR (bE m.ns (bF 1 sp nm gE [])).1 (bs m sp nm gE).ns:=.mD (fC (A.D.G.bE _ _ _ _ _) _ _ _) (fv (A.D.G.bE _ _ _ _ _) _ _ _)
 have eD:(bs m sp nm gE).op=m.op++ [((m.ns.length:Int),sp,nm,dr sp nm gE)]:=rfl
 refine⟨A.D.insert _ _ _,by rw[eD,NQ _ _ A.D.ne];exact A.root,fun y hy h0=>?_,A.tz,fun y hy=>?_⟩
 ·rw[eD] at hy
  rcases List.mem_append.1 hy with h | h
  ·obtain⟨z,hz,e⟩:=A.kind y h h0
   obtain⟨z',il,e'⟩:=k1 _ z hz
   exact⟨z',il,e'.trans e⟩
  ·rw[List.mem_singleton.1 h]
   obtain⟨z',il,e'⟩:=k2 m.ns.length ⟨1,sp,nm,gE,[], -1,[]⟩ (by
    show(m.ns++ [_])[m.ns.length]? =_
    rw[List.getElem?_append_right (Nat.le_refl _),Nat.sub_self];rfl)
   exact⟨z',il,e'⟩
 ·rw[eD] at hy
  rcases List.mem_append.1 hy with h | h
  ·exact A.yD y h
  ·rw[List.mem_singleton.1 h];exact hn
theorem AI.write (A:AI m u v x) {tx:Bs} (ht:tx.length<=4000):AI (fW m tx) (u+1) v (x+4000):=
 ⟨A.D.write ht,A.root,fun y hy h0=>by
  obtain⟨z,hz,e⟩:=A.kind y hy h0
  obtain⟨z',il,e'⟩:=fR.cD A.D.G (cS m).1 (cS m).2 tx _ z hz
  exact⟨z',il,e'.trans e⟩,A.tz,A.yD⟩
theorem AI.push (A:AI m u v x) {y:aS} (hy:y.2.1.length<=4000/\y.2.2.length<=500/\∀a ∈ y.2.2,a.2.length<=4000) (h0:y.1≠0):AI {m with aE:=fj m.aE y} u (v+1) x:=
 ⟨A.D.push hy,A.root,A.kind,fun z hz=>by
  rcases Ek hz with h | h
  ·exact A.tz z h
  ·rw[h];exact h0,A.yD⟩
theorem AI.ux {v:Nat}:∀(k:Nat) {m:WM} {u x:Nat} (i:Nat),AI m u v x->i+k<=m.aE.length->AI (wR k m i) (u+k) v x
 | 0,m,u,x,i,A,_=>A
 | k+1,m,u,x,i,A,YS=>by
  have hi:i<m.aE.length:=by omega
  have hg:m.aE.getD i noMark=m.aE[i]:=aJ hi
  have hw:=A.D.mw m.aE[i] (List.getElem_mem hi)
  have h1:=A.insert 0 (nm:=(m.aE.getD i noMark).2.1) (by rw[hg];exact hw.1) (m.aE.getD i noMark).2.2
  have h2:AI {bs m 0 (m.aE.getD i noMark).2.1 (m.aE.getD i noMark).2.2 with aE:=m.aE.set i ((m.ns.length:Int),(m.aE.getD i noMark).2)} (u+1) v x:=
   ⟨⟨h1.D.G,h1.D.B,h1.D.ne,h1.D.ids,h1.D.nd,h1.D.lo,h1.D.ln,by show(m.aE.set _ _).length<=v;rw[List.length_set];exact A.D.ml,by rw[hg];exact A.D.mw.set hi _,h1.D.tx⟩,h1.root,h1.kind,fun z hz=>by
    rcases List.mem_or_eq_of_mem_set hz with h | h
    ·exact A.tz z h
    ·rw[h]
     have:=A.pos
     exact fun e=>by have e:(m.ns.length:Int)=0:=e;omega,h1.yD⟩
  have:=AI.ux k (i+1) h2 (by show i+1+k<=(m.aE.set _ _).length;rw[List.length_set];omega)
  rw[show u+(k+1)=u+1+k by omega]
  exact this
theorem AI.vR (A:AI m u v x):AI (aU m) (u+v) v x:=by
 have hr:=iP m.aE m.op m.aE.length
 have h1:(gu m.aE m.op).toNat<=m.aE.length:=by have:=hr.2;show(js m.aE m.op m.aE.length).toNat<=_;omega
 have:=AI.ux (m.aE.length - (gu m.aE m.op).toNat) (gu m.aE m.op).toNat A (by omega)
 exact this.mono (by have:=A.D.ml;omega) (Nat.le_refl _) (Nat.le_refl _)
end
theorem aaO (f:Nat->aP->Option Bool) (a x:aP):scan f false [a,x]=match f 1 x with | some r=>r | none=>match f 0 a with | some r=>r | none=>false:=by
 unfold scan
 simp only[List.length_cons,List.length_nil,eV]
 rw[show([a,x].getD 1 (0,0,[],0))=x from rfl,show([a,x].getD 0 (0,0,[],0))=a from rfl]
 cases f 1 x with
 | none=>cases f 0 a <;> rfl
 | some r=>rfl
theorem AE {a x:aP} {ns:List Bs} (ha:ju a ns=true) (hb:ju x ns=true->eA x 0=false):kQ [a,x] 0 ns=!eA x 0:=by
 unfold kQ
 rw[aaO]
 unfold IJ
 by_cases h:ju x ns=true
 ·rw[if_pos h,hb h];rfl
 ·rw[if_neg h]
  by_cases h2:eA x 0=true
  ·rw[if_pos h2,h2];rfl
  ·rw[if_neg h2,ha]
   have h3:eA x 0=false:=by simpa using h2
   rw[h3];rfl
theorem nc {x:aP} {w:Bs} (hw:bn wW w=false) (h:ju x [w]=true):eA x 0=false:=by
 unfold ju at h
 rw[Bool.and_eq_true] at h
 have h1:x.2.1=0:=of_decide_eq_true h.1
 have h2:x.2.2.1=w:=by have:=of_decide_eq_true h.2;simpa using this
 rw[fx (by decide) h1,h2,hw]
 rfl
def wP:List Bs:=[[112]]
theorem Cy (x:aP):oW x=!eA x 0:=AE (by decide) (nc (by decide))
theorem NR (x:aP):kQ [(0,0,[112],0),x] 0 wP=!eA x 0:=AE (by decide) (nc (by decide))
section
variable {A:Nat->Prop} {h h':H} {K:KV} {col col':bY} {w:Addr} {m:WM} {nm:Bs} {f bk:Int} {u v x:Nat} {b:OA} {n c:Nat}
theorem fY (p:RW h col w m) (hl:m.op.length<=1000000) {id:Int} (hk:K (.int .i64 (gh m.op id)) h):zC 208 [.pointer (some w),.int .i64 id] h K:=by
 obtain⟨t,T,W⟩:=p.ex
 obtain⟨ob,oc,mb,mn,mc,v,o,om⟩:=W.ex
 refine Wd.ok _ _ _ _ ⟨m.op.length+1,?_⟩
 have key:∀N i,i+N=m.op.length->(∀j (h1:j<m.op.length),j<i->decide (m.op[j].1=id)=false)->
   Wd.cQ (fun h=>K (.int .i64 (-1)) h) (fun h=>K (.int .i64 (-1)) h) (fun y4 h=>K (.int .i64 y4) h) (N+1) (some w) id (i:Int) h:=by
  intro N
  induction N with
  | zero=>
   intro i hi bm
   unfold Wd.cQ LP Wd.bU
   refine aa ⟨_,_,_,v.cell 1 rfl,cg (by omega) ?_⟩
   have e:gh m.op id= -1:=mP fun j hj=>bm j hj (by omega)
   rwa[e] at hk
  | succ N ih=>
   intro i hi bm
   have bQ:i<m.op.length:=by omega
   unfold Wd.cQ LP Wd.bU
   refine aa ⟨_,_,_,v.cell 1 rfl,bK (by omega) (aa ⟨_,_,_,v.cell 1 rfl,o.row.bj bQ rfl fun q hA=>⟨_,hA.fst.int.1,bf (fun e=>?_) fun e=>⟨aF (by omega) (by omega),ih (i+1) (by omega) fun j h1 hj=>?_⟩⟩⟩)⟩
   ·have e2:gh m.op id=(i:Int):=mO bQ (decide_eq_true e) bm
    rwa[e2] at hk
   ·by_cases e2:j<i
    ·exact bm j h1 e2
    ·have:j=i:=by omega
     subst this
     exact decide_eq_false e
 exact key m.op.length 0 (by omega) fun j _ hj=>absurd hj (Nat.not_lt_zero _)
theorem me (p:RW h col w m) (eD:m.op.length<=1000000) (hk:∀h' col',RW h' col' w (fk m nm)->al RS h col h' col'->K (.tuple ⟨[]⟩) h'):
  zC 124 [.pointer (some w),S nm] h K:=by
 obtain⟨t,T,W⟩:=p.ex
 obtain⟨ob,oc,mb,mn,mc,v,o,om⟩:=W.ex
 refine JP.ok _ _ _ _ (aa ⟨_,_,_,v.cell 1 rfl,aF (by omega) (by omega),m.op.length+1,?_⟩)
 obtain⟨res,ke⟩:∃r,En m.op nm m.op.length=r:=⟨_,rfl⟩
 have Ju:res=0->∀h',KB h h'->K (.tuple ⟨[]⟩) h':=fun e h' k'=>by
  have e2:fk m nm=m:=by unfold fk cZ gW;rw[ke,e,if_neg (by omega)]
  exact hk h' col (by rw[e2];exact p.kb k') (.kb k')
 have key:∀i h2,i<=m.op.length->KB h h2->En m.op nm i=res->
   JP.tX (fun h=>K (.tuple ⟨[]⟩) h) (fun h=>K (.tuple ⟨[]⟩) h) (fun h=>K (.tuple ⟨[]⟩) h) (i+1) (some w) nm ((i:Int) - 1) h2:=by
  intro i
  induction i with
  | zero=>
   intro h2 hi k2 e
   unfold JP.tX LP JP.rK
   exact cg (by omega) (Ju e.symm h2 k2)
  | succ i ih=>
   intro h2 hi k2 e
   unfold JP.tX LP JP.rK
   have e0:(((i+1:Nat):Int) - 1)=(i:Int):=by omega
   rw[e0]
   have bQ:i<m.op.length:=by omega
   unfold En at e
   refine bf (fun h0=>?_) fun h0=>?_
   rotate_left
   ·rw[if_pos (by omega)] at e
    exact Ju e.symm h2 k2
   rw[if_neg (by omega),aJ bQ] at e
   refine aa ⟨_,_,_,(v.kb k2).cell 1 rfl,(o.kb k2).row.bj bQ rfl fun q hA=>cT hA fun ow=>af fun a5 h3 v3 k3 e3 s3=>aQ v3 (by show 4<=4;omega) fun h4 v4 k4 s4=>?_⟩
   have uu:KB h2 h4:=KB.step k3 k4 (by omega)
   have jH:=k2.trans uu
   have v4:Var h4 a5 77 (aW m.op[i]):=v4
   have spec:uv m.op[i] nm=false->JP.rZ (some w) nm (i:Int) a5 (fun z0 z1 z4 h=>JP.n6 z0 z1 z4 (JP.tX (fun h=>K (.tuple ⟨[]⟩) h) (fun h=>K (.tuple ⟨[]⟩) h) (fun h=>K (.tuple ⟨[]⟩) h) (i+1)) (fun h=>K (.tuple ⟨[]⟩) h) (fun h=>K (.tuple ⟨[]⟩) h) h) (fun z0 z1 z4 h=>JP.n6 z0 z1 z4 (JP.tX (fun h=>K (.tuple ⟨[]⟩) h) (fun h=>K (.tuple ⟨[]⟩) h) (fun h=>K (.tuple ⟨[]⟩) h) (i+1)) (fun h=>K (.tuple ⟨[]⟩) h) (fun h=>K (.tuple ⟨[]⟩) h) h) (fun h=>K (.tuple ⟨[]⟩) h) (fun h=>K (.tuple ⟨[]⟩) h) h4:=fun dk=>by
    rw[if_neg (by rw[dk];decide)] at e
    refine⟨_,v4.cell 1 rfl,_,v4.cell 2 rfl,gk fun h5 k5=>ag (aR (fun eb=>?_) fun eb=>⟨aF (by omega) (by omega),?_⟩)⟩
    ·have eb:fi m.op[i]=true:=eb
     rw[if_pos eb] at e
     exact Ju e.symm h5 (jH.trans k5)
    ·have eb:fi m.op[i]=false:=eb
     rw[if_neg (by rw[eb];decide)] at e
     exact ih h5 (by omega) (jH.trans k5) e
   have hmy:∀b:Bool,uv m.op[i] nm=b->(decide (m.op[i].2.1=0)&&decide (m.op[i].2.2.1=nm))=b:=fun b h=>h
   refine⟨_,v4.cell 1 rfl,bf (fun ez=>⟨_,v4.cell 2 rfl,bf (fun en=>aD ?_) fun en=>aC (spec ?_)⟩) fun ez=>aC (spec ?_)⟩
   ·have vi:uv m.op[i] nm=true:=by unfold uv;rw[decide_eq_true ez,decide_eq_true en];rfl
    rw[if_pos vi] at e
    have o4:=o.kb jH
    refine aa ⟨_,_,_,(v.kb jH).cell 1 rfl,mr o4.row fun h5 k5=>aO ⟨aF (by omega) (by omega),?_⟩⟩
    refine fZ (p.kb (jH.trans k5)) fun h6 c6 p6 E6=>fZ p6 fun h7 c7 p7 E7=>?_
    refine hk h7 c7 ?_ ((al.kb (jH.trans k5)).trans (E6.trans E7))
    have e2:cZ (cZ m (if((i:Int)+(1:Int))>iv m.op nm then((i:Int)+(1:Int)) else iv m.op nm)) (i:Int)=fk m nm:=by
     unfold fk cZ
     rw[ke,<-e]
     obtain⟨j,hj⟩:∃j,(if((i:Int)+(1:Int))>iv m.op nm then((i:Int)+(1:Int)) else iv m.op nm)=j:=⟨_,rfl⟩
     have O9:(i:Int)+1<=j:=by rw[<-hj];split <;> omega
     rw[hj]
     have:gW (gW m.op j) (i:Int)=gW m.op (i:Int):=by
      unfold gW
      by_cases hc:1<=j/\j<(m.op.length:Int)
      ·rw[if_pos hc]
       have hl:(m.op.take j.toNat).length=j.toNat:=by rw[List.length_take];omega
       rw[hl,if_pos (by omega),if_pos (by omega),List.take_take,Int.toNat_natCast,Nat.min_eq_left (by omega)]
      ·rw[if_neg hc]
     rw[this]
    rw[e2] at p7
    exact p7
   ·unfold uv;rw[decide_eq_false en,Bool.and_false]
   ·unfold uv;rw[decide_eq_false ez,Bool.false_and]
 have e1:((m.op.length:Int) - (1:Int))=(m.op.length:Int) - 1:=rfl
 exact key m.op.length h (Nat.le_refl _) (KB.refl h) ke
theorem u7 (p:RW h col w m) (eD:m.op.length<=1000000) (M9:∀x ∈ m.op,x.2.2.1.length<=1000000000) {i0:Nat} (yG:i0<m.op.length) (hk:∀h',KB h h'->K (.bool (eT (m.op.drop (i0+1)))) h'):
  zC 210 [.pointer (some w),.int .i64 (i0:Int)] h K:=by
 obtain⟨t,T,W⟩:=p.ex
 obtain⟨ob,oc,mb,mn,mc,v,o,om⟩:=W.ex
 have hcap:=o.cap
 refine We.ok _ _ _ _ (aa ⟨_,_,_,v.cell 1 rfl,aF (by omega) (by omega),m.op.length - 1 - i0+1,?_⟩)
 have key:∀j h2,i0+j<m.op.length->KB h h2->(m.op.drop (i0+j+1)).all oW=true->
   We.cQ (fun h=>K (.bool true) h) (fun h=>K (.bool true) h) (fun y4 h=>K (.bool y4) h) (j+1) (some w) (i0:Int) ((i0+j:Nat):Int) h2:=by
  intro j
  induction j with
  | zero=>
   intro h2 hj k2 bm
   unfold We.cQ LP We.bU
   refine cg (by omega) ?_
   have:=hk h2 k2
   unfold eT at this
   rw[Nat.add_zero] at bm
   rwa[bm] at this
  | succ j ih=>
   intro h2 hj k2 bm
   unfold We.cQ LP We.bU
   obtain⟨i,hi⟩:∃i,i0+(j+1)=i:=⟨_,rfl⟩
   rw[hi] at hj bm ⊢
   have e0:((i:Int) - (1:Int))=((i0+j:Nat):Int):=by omega
   have o2:=o.kb k2
   have Sy:=o2.cap
   have ry:=Sy.2
   simp only[maxLen] at ry
   have hx:m.op[i] ∈ m.op:=List.getElem_mem hj
   have hdr:m.op.drop i=m.op[i]::m.op.drop (i+1):=List.drop_eq_getElem_cons hj
   refine bK (by omega) (aa ⟨_,_,_,(v.kb k2).cell 1 rfl,o2.row.bj hj rfl fun q hA=>cT hA fun ow=>af fun a6 h3 v3 k3 e3 s3=>aQ v3 (by show 4<=4;omega) fun h4 v4 k4 s4=>?_⟩)
   have uu:KB h2 h4:=KB.step k3 k4 (by omega)
   have jH:=k2.trans uu
   have v4:Var h4 a6 77 (aW m.op[i]):=v4
   refine aa ⟨_,_,_,(v.kb jH).cell 1 rfl,aF (by omega) (by omega),⟨by omega,by omega,by omega⟩,?_⟩
   have o4:=o.kb jH
   have r0:Row bo (rS h4.size) h4 (if oc=i then ob else Option.map (fun q=>q.add (i*4)) ob) (i+1 - i) (oc - i) ((m.op.take (i+1)).drop i):=o4.row.sub (lo:=i) (hi:=i+1) (by omega) (by omega) rfl
   have e1:(m.op.take (i+1)).drop i=[m.op[i]]:=by
    rw[List.take_succ_eq_append_getElem hj,List.drop_append_of_le_length (by rw[List.length_take];omega),List.drop_of_length_le (by rw[List.length_take];omega),List.nil_append]
   have e2:i+1 - i=1:=by omega
   rw[e1,e2] at r0
   have e3:Int.toNat ((i:Int)+1) - Int.toNat (i:Int)=1:=by omega
   have e4:Int.toNat (i:Int)=i:=rfl
   rw[e3,e4]
   refine r0.bj (i:=0) (Nat.succ_pos 0) rfl fun q hA=>cT hA fun ow=>af fun a8 h8 v8 k8 e8 s8=>af (cs:=wP.map S) fun jB df v10 wK Sv oY=>?_
   have Tu:gG (0,0,[112],0):=⟨⟨by decide,by decide⟩,⟨by decide,by decide⟩,by decide,⟨by decide,by decide⟩⟩
   have r2:Row bo (rS df.size) df (some a8) 2 2 [(0,0,[112],0),m.op[i]]:=
    Row.of (xs:=aW (0,0,[112],0)++aW m.op[i]) ⟨aW (0,0,[112],0),_,rfl,Tu.r,aW m.op[i],[],by simp,ow.r,rfl⟩ (fun jj x hx=>⟨a8,rfl,(v8.kb wK).cell jj hx⟩) rfl (Nat.le_refl _) (by decide) fun x e=>by cases e;exact(v8.kb wK).lt
   refine mY (sc:=0) r2 (fun x Ey=>?_) (iM (ws:=wP) v10 (by decide) (by decide)) fun eL tK=>ag ?_
   ·rcases List.mem_cons.1 Ey with e | e
    ·rw[e];decide
    ·rw[List.mem_singleton.1 e];have:=M9 _ hx;omega
   have k0c:KB h eL:=jH.trans ((k8.trans wK).trans tK)
   have v12:=v4.kb ((k8.trans wK).trans tK)
   rw[NR]
   have hfr:=Cy m.op[i]
   refine aR (fun eb=>aC ⟨aF (by omega) (by omega),?_⟩) fun eb=>aD ?_
   ·rw[e0]
    refine ih eL (by omega) k0c ?_
    rw[show i0+j+1=i by omega,hdr,List.all_cons,hfr,eb,bm]
    rfl
   ·have hbd:eA m.op[i] 0=true:=by simpa using eb
    have dk:eT (m.op.drop (i0+1))=false:=by
     unfold eT
     have vL:m.op[i] ∈ m.op.drop (i0+1):=List.mem_drop_iff_getElem.2 ⟨i - (i0+1),by omega,by congr 1;omega⟩
     refine Bool.eq_false_iff.2 fun h=>?_
     have:=List.all_eq_true.1 h _ vL
     rw[hfr,hbd] at this
     cases this
    have no:K (.bool false) eL:=by have:=hk eL k0c;rwa[dk] at this
    refine⟨_,v12.cell 1 rfl,bf (fun ez=>⟨_,v12.cell 2 rfl,bf (fun en=>?_) fun en=>no⟩) fun ez=>no⟩
    exfalso
    have:eA m.op[i] 0=false:=nc (w:=[112]) (by decide) (by unfold ju bn;rw[decide_eq_true ez,decide_eq_true (by rw[en];exact List.mem_singleton.2 rfl)];rfl)
    rw[this] at hbd
    cases hbd
 have ek:((m.op.length:Int) - (1:Int))=((i0+(m.op.length - 1 - i0):Nat):Int):=by omega
 rw[ek]
 exact key _ h (by omega) (KB.refl h) (by rw[List.drop_of_length_le (by omega)];rfl)
end
section
variable {h h':H} {K:KV} {col col':bY} {s i p:Nat} {t a:Addr} {ns:List ay} {x y:ay} {lb:OA} {lc:Nat} {rs:List jJ} {r:jJ}
def nZ (ns:List ay) (id:Int):List ay × Int:=if id=0 then(ns, -1) else bg ns id
theorem TW (T:dD h col s t ns) {id:Int} (lI:ns.length<1000000) (hk:∀h' col',dD h' col' s t (nZ ns id).1->Ext s h col h' col'->K (.int .i64 (nZ ns id).2) h'):
  zC 229 [.pointer (some t),.int .i64 id] h K:=by
 refine Xdr.ok _ _ _ _ (lv T (ag (aR (fun e=>bf (fun e0=>?_) fun e0=>?_) fun e=>?_)))
 ·have:nZ ns id=(ns, -1):=by unfold nZ;rw[if_pos e0]
  rw[this] at hk
  exact hk h col T (Ext.refl _ _ _)
 ·have e:=of_decide_eq_true e
  obtain⟨i,rfl⟩:=Int.eq_ofNat_of_zero_le e.1
  have hk:∀h' col',dD h' col' s t (nZ ns (i:Int)).1->Ext s h col h' col'->K (.int .i64 (nZ ns (i:Int)).2) h':=hk
  have hx:ns[i]? =some (ns[i]'(by omega)):=List.getElem?_eq_getElem (by omega)
  generalize ns[i]'(by omega)=x at hx
  have ec:nZ ns (i:Int)=bE ns (bF x.kind x.space x.name x.attrs x.text):=by
   unfold nZ bg
   rw[if_neg e0,if_pos e,Int.toNat_natCast,hx];rfl
  rw[ec] at hk
  have T':=T
  obtain⟨lb,lc,rs,C,em⟩:=T
  obtain⟨r,hr,rfl⟩:=fu em hx
  have N:=C.nodes i r hr
  have hra:=N.ra.len
  have hfa:=N.fa
  exact ir C hr fun a hc=>⟨_,Ae hc 0 rfl,_,Ae hc 1 rfl,_,Ae hc 2 rfl,_,_,_,Ae hc 3 rfl,_,Ae hc 4 rfl,_,_,_,Ae hc 5 rfl,wx T' N.ra (by omega) N.rk N.rs N.fn N.ft lI fun h' col' T' e'=>aO (hk h' col' T' e')⟩
 ·have e:=of_decide_eq_false e
  have:nZ ns id=(ns, -1):=by unfold nZ bg;rw[if_neg e];split <;> rfl
  rw[this] at hk
  exact hk h col T (Ext.refl _ _ _)
end
end Go.Proofs
