import Derived.Test.YtijoifkjeamonaaGreatHc
import Derived.Test.YtijoifkjeamonaaGreatPdB
import Derived.Test.YtijoifkjeamonaaGreatMoB
import Derived.Test.YtijoifkjeamonaaGreatTxM
import Derived.Test.YtijoifkjeamonaaGreatTxN
import Derived.Test.YtijoifkjeamonaaGreatHmI
import Derived.Lib.Overlaps
import Derived.Test.YtijoifkjeamonaaGreatTxG
import Derived.Test.YtijoifkjeamonaaGreatDrB
import Derived.Test.YtijoifkjeamonaaGreatTxH
namespace Go.Proofs
open Go Go.Sh
set_option linter.unusedVariables false
set_option maxRecDepth 100000
theorem WB {α:Type} {E:El α} {t ty e by':Nat} {P:Program} (ap:oH P E t e by') {A:Nat->Prop} {h:H} {sb rb:OA} {n c m k:Nat} {l l2:List α} {xs news:List Value} (hA:∀k,A k->k<h.size) (he:eH E A h l xs) (hc:Cells h sb xs) (hl:l.length=n) (hnc:n<=c) (zK:c<n+m) (hm:0<m)
  (uo:l2.length=m) (Dh:eH E A h l2 news) (IP:Cells h rb news) (hsb:sb=none->c=0) (jZ:n+m<=maxLen) (hb:(n+m)*by'<=140737488355328) {K:KV}
  (hK:∀c' h',bO E A h' h.size e (some (Ad h.size)) (n+m) c' (l++l2)->KB h h'->K (.slice (some (Ad h.size)) (n+m) c') h'):
  aZ P (Builtin.append_ #[t,t] ty ⟨[.slice sb n c,.slice rb m k]⟩) h K:=by
 obtain⟨i,z,ht,hi,hz,vN,ib,zl⟩:=ap.is
 refine xc (xs:=xs) (news:=news) ht hi hz vN (by rw[he.len,hl,ib]) hc hnc (.inr zK) (by rw[Dh.len,uo,ib]) IP (by rw[ib];exact E.pos) jZ (by rw[zl];exact hb)
  (fun e=>⟨by have:=hsb e;omega,hsb e⟩) (fun e=>by omega) fun c' h' hm ho hk=>?_
 have cR:h.size<h'.size:=by
  rcases ho.is with ⟨h0,_⟩ | ⟨g,cur,e,_,hg,_⟩
  ·omega
  ·cases e;exact(Array.getElem?_eq_some_iff.1 hg).1
 exact hK c' h' ⟨⟨by rw[List.length_append,hl,uo],xs++news,by rw[<-ib];exact ho,(he.append Dh).keep ((KB.w hk).less fun k hk=>hk.2) fun _ h _=>h⟩,fun a e=>by cases e;exact Nat.le_refl _,fun a e=>by cases e;exact cR,fun e=>by cases e⟩ hk
theorem yd:∀(l cs:List Value) (i:Nat),i+l.length<=cs.length->jq cs i l=cs.take i++l++cs.drop (i+l.length)
 | [],cs,i,h=>by rw[jq,List.append_nil,List.length_nil,Nat.add_zero,List.take_append_drop]
 | v::l,cs,i,h=>by
  have hi:i<cs.length:=by simp at h;omega
  rw[jq,yd l _ _ (by simp at h ⊢;omega)]
  have e1:(cs.set i v).take (i+1)=cs.take i++ [v]:=by
   rw[List.take_set,List.take_add_one,List.getElem?_eq_getElem hi,List.set_append_right _ _ (by rw[List.length_take];omega),List.length_take,Nat.min_eq_left (by omega),Nat.sub_self];rfl
  have e2:(cs.set i v).drop (i+1+l.length)=cs.drop (i+(v::l).length):=by
   rw[List.drop_set_of_lt (by omega),List.length_cons];congr 1;omega
  rw[e1,e2,List.append_assoc,List.append_assoc,List.append_assoc];rfl
section
variable {α:Type} {E:El α} {A:Nat->Prop} {h:H} {base e n c:Nat} {b:OA} {l:List α}
theorem bO.aiU (o:bO E A h base e b n c l) (hA:∀k,A k->k<base) {i:Nat} (hi:i<n) {x:α} {cs:List Value} (hR:E.R A h x cs) {Q:H->Prop}
  (hk:∀h' g,b=some (Ad g)->base<=g->bO E A h' base e b n c (l.set i x)->KX g h h'->h'.size=h.size->Q h'):ae b fun a=>bc (a.add (i*E.sz)) cs 0 h Q:=by
 obtain⟨xs,ow,en⟩:=o.own.own
 have hl:=o.len
 have hcl:=E.len _ _ _ _ hR
 rcases ow.is with ⟨h0,_⟩ | ⟨g,cur,rfl,ym,hg,hcs,pP⟩
 ·omega
 have v:Var h (Ad g) e cur.toList:=⟨rfl,by show h[g]? =_;rw[hg]⟩
 have Ay:(i+1)*E.sz=i*E.sz+E.sz:=Nat.succ_mul _ _
 have yl:(i+1)*E.sz<=n*E.sz:=Nat.mul_le_mul_right _ hi
 have hcap:=Nat.mul_le_mul_right E.sz ow.cap
 have wO:=ow.len
 have ib:cur.toList.length=c*E.sz:=by rw[Array.length_toList];exact hcs
 refine aa (cv (m:=i*E.sz) (i:=0) v (by rw[hcl,ib];omega) fun h' v' k' s'=>?_)
 rw[Nat.add_zero,yd cs cur.toList (i*E.sz) (by rw[hcl,ib];omega),hcl] at v'
 have hxe:xs.take (i*E.sz)++cs++xs.drop (i*E.sz+E.sz)=(cur.toList.take (i*E.sz)++cs++cur.toList.drop (i*E.sz+E.sz)).take (n*E.sz):=by
  rw[<-pP,List.take_take,Nat.min_eq_left (by omega),List.drop_take]
  have h1:(cur.toList.take (i*E.sz)++cs).length=i*E.sz+E.sz:=by rw[List.length_append,List.length_take,hcl,ib];omega
  have h2:=List.take_length_add_append (l₁:=cur.toList.take (i*E.sz)++cs) (l₂:=cur.toList.drop (i*E.sz+E.sz)) (i:=n*E.sz - (i*E.sz+E.sz))
  rw[h1,show i*E.sz+E.sz+(n*E.sz - (i*E.sz+E.sz))=n*E.sz by omega] at h2
  exact h2.symm
 have JJ:g<h.size:=(Array.getElem?_eq_some_iff.1 hg).1
 refine hk h' g rfl ym ⟨⟨by rw[List.length_set];exact hl,xs.take (i*E.sz)++cs++xs.drop (i*E.sz+E.sz),⟨?_,ow.cap,ow.max,.inr ⟨g,_,rfl,ym,v'.cells,?_,hxe.symm⟩⟩,?_⟩,o.lo,fun a ea=>by cases ea;rw[s'];exact JJ,o.nil⟩ k' s'
 ·rw[List.length_append,List.length_append,List.length_take,List.length_drop,hcl,wO];omega
 ·show(cur.toList.take (i*E.sz)++cs++cur.toList.drop (i*E.sz+E.sz)).toArray.size=_
  rw[List.size_toArray,List.length_append,List.length_append,List.length_take,List.length_drop,hcl,ib];omega
 ·have e1:l.set i x=l.take i++([x]++l.drop (i+1)):=by rw[List.set_eq_take_append_cons_drop,if_pos (by omega)];rfl
  rw[e1,List.append_assoc,<-Ay]
  have eo:eH E A h [x] cs:=⟨cs,[],by simp,hR,rfl⟩
  exact((en.take i).append (eo.append (en.drop (i+1)))).keep (k'.w.less fun k hk=>fun e2=>by have:=hA k hk.1;have e2:k=g:=e2;omega) fun _ h _=>h
theorem bO.aiV {P:Program} {t by':Nat} (ap:oH P E t e by') (Py:Hp P e=true) (o:bO E A h base e b n c l) (hA:∀k,A k->k<base) (hn:0<n) {Un:TypeId} {Q:H->Prop}
  (hk:∀h',bO E A h' base e b (n - 1) c (l.take (n - 1))->dW h h' b->Q h'):
  aZ P (Builtin.clear_ #[t] Un ⟨[.slice (if c=n - 1 then b else Option.map (fun q=>q.add ((n - 1)*E.sz)) b) (n - (n - 1)) (c - (n - 1))]⟩) h fun _ h2=>Q h2:=by
 obtain⟨ii,z,ht,vl,hz,vN,ib,zl⟩:=ap.is
 have Ok:∀v ∈ z.cells.toList,v.oneCell'=true:=by
  unfold Hp at Py
  rw[vl] at Py
  simp only[hz] at Py
  exact List.all_eq_true.1 Py
 obtain⟨xs,ow,en⟩:=o.own.own
 have hl:=o.len
 have hcap:=ow.cap
 rcases ow.is with ⟨h0,_⟩ | ⟨g,cur,rfl,ym,hg,hcs,pP⟩
 ·omega
 intro w hw
 subst hw
 have qv:=E.pos
 have wO:xs.length=n*E.sz:=ow.len
 have ZA:n*E.sz<=cur.size:=by rw[hcs];exact Nat.mul_le_mul_right _ hcap
 have hn1:n*E.sz=(n - 1)*E.sz+E.sz:=by rw[<-Nat.succ_mul];congr 1;omega
 have hzl:(Builtin.zeroCells z.cells 1).toList=z.cells.toList:=by
  simp[Builtin.zeroCells]
  apply List.ext_getElem
  ·simp
  ·intro k h1 h2
   simp at h1 h2 ⊢
   have h3:k % z.cells.size=k:=Nat.mod_eq_of_lt h2
   rw[h3,getElem!_pos z.cells k h2]
 have Ly:z.cells.toList.length=E.sz:=by rw[Array.length_toList,vN,ib]
 have jF:=run_storeCells_at P g ((n - 1)*E.sz) e z.cells.toList 0 cur w hg (by rw[Ly];omega) Ok
 have pN:∀w:World,(zeroValue e).run P w=.ok z w:=fun w=>by
  unfold zeroValue
  simp[typeInfo,vl,hz]
 have ea:((⟨g,0,Option.none⟩:Addr).add ((n - 1)*E.sz))=⟨g,(n - 1)*E.sz,Option.none⟩:=by unfold Addr.add;split <;> simp_all
 have Uo:n - (n - 1)=1:=by omega
 rw[if_neg (by omega)]
 have ku:(Builtin.clear_ #[t] Un ⟨[.slice (Option.map (fun q=>q.add ((n - 1)*E.sz)) (some (⟨g,0,Option.none⟩:Addr))) (n - (n - 1)) (c - (n - 1))]⟩).run P w=.ok (.tuple #[]) (w.setRow g (cur.toList.take ((n - 1)*E.sz+0)++z.cells.toList++cur.toList.drop ((n - 1)*E.sz+0+z.cells.toList.length)).toArray):=by
  rw[Uo]
  show(Builtin.clear_ #[t] Un #[.slice (some ((⟨g,0,Option.none⟩:Addr).add ((n - 1)*E.sz))) 1 (c - (n - 1))]).run P w=_
  rw[ea]
  simp[Builtin.clear_,run_underlying ht,pN,hzl,jF]
 refine⟨_,_,ku,⟨rfl,rfl,rfl⟩,?_⟩
 have JJ:g<w.heap.size:=(Array.getElem?_eq_some_iff.1 hg).1
 have IL:=setRow_heap w g cur (cur.toList.take ((n - 1)*E.sz+0)++z.cells.toList++cur.toList.drop ((n - 1)*E.sz+0+z.cells.toList.length)).toArray e _ hg
 have ZB:bZ (fun k=>k≠g) w.heap (w.setRow g (cur.toList.take ((n - 1)*E.sz+0)++z.cells.toList++cur.toList.drop ((n - 1)*E.sz+0+z.cells.toList.length)).toArray).heap:=
  ⟨by rw[setRow_size];exact Nat.le_refl _,fun k AN o ho _=>by rw[setRow_other _ _ _ _ AN];exact ho⟩
 refine hk _ ⟨⟨by rw[List.length_take];omega,xs.take ((n - 1)*E.sz),⟨by rw[List.length_take,wO];omega,by omega,ow.max,.inr ⟨g,_,rfl,ym,IL,?_,?_⟩⟩,?_⟩,o.lo,fun a ea=>by cases ea;rw[setRow_size];exact JJ,o.nil⟩ ⟨by rw[setRow_size];exact Nat.le_refl _,fun k hk bL=>setRow_other _ _ _ _ fun e=>bL _ rfl e.symm⟩
 ·simp only[List.size_toArray,List.length_append,List.length_take,List.length_drop,Array.length_toList]
  rw[vN,ib,<-hcs]
  omega
 ·rw[List.toList_toArray,Nat.add_zero,List.append_assoc,List.take_append_of_le_length (by rw[List.length_take,Array.length_toList];omega),List.take_take,Nat.min_self,<-pP,List.take_take,Nat.min_eq_left (by omega)]
 ·exact(en.take (n - 1)).keep (ZB.less fun k hk=>fun e2=>by have:=hA k hk.1;have e2:k=g:=e2;omega) fun _ h _=>h
end
theorem Rg:oH Tryz.prog (jz .i64) 82 3 8:=kr (sz:=1) (by kernel_rfl) rfl
theorem Jz (l:List aS) (m:aS) {i:Nat} (hi:i<l.length):(l++ [m]).take i++(l++ [m]).drop (i+1)=l.eraseIdx i++ [m]:=by
 rw[List.eraseIdx_eq_take_drop_succ,List.take_append_of_le_length (by omega),List.drop_append_of_le_length (by omega),List.append_assoc]
section
variable {A B:Nat->Prop} {h:H} {b b2:OA} {n c n2 c2:Nat} {l:List aS} {m:aS} {xs:List Value}
theorem SV (hx:eH aX A h l xs) {h':H} (k:KB h h'):eH aX A h' l xs:=hx.keep ((KB.w k).less fun k hk=>hk.2) fun _ h _=>h
theorem H3 (hc:Cells h b xs) {h':H} (k:KB h h'):Cells h' b xs:=fun j u hu=>by
 obtain⟨q,e,ec⟩:=hc j u hu
 exact⟨q,e,(KB.w k).cell (fP ec) ec⟩
theorem Ff (r:Row aX B h b n c l) (hx:eH aX A h l xs) (Ev:Cells h b xs) (hA:∀k,A k->k<h.size) (hz:b=none->c=0) (hR:cI A h m b2 n2 c2) (hn:n<=1000000) {K:KV}
  (hk:∀b' n' c' h',bO aX A h' h.size 79 b' n' c' (fj l m)->KB h h'->K (.slice b' n' c') h'):
  zC 156 [.slice b n c,.agg ⟨[.int .i64 m.1,S m.2.1,.slice b2 n2 c2]⟩] h K:=by
 refine Q5.ok _ _ _ _ _ _ _ _ _ _ (af fun x3 h1 v1 k1 e1 _=>?_)
 have hl:=r.len
 have hcm:=r.cap
 refine⟨⟨by omega,by omega,by omega,by omega⟩,_,v1.cell 0 rfl,_,v1.cell 1 rfl,_,_,_,v1.cell 2 rfl,af fun a2 h2 v2 k2 e2 _=>?_⟩
 have gy:=k1.trans k2
 have YC:cI A h2 m b2 n2 c2:=hR.kb gy
 obtain⟨Dh,IP⟩:=Var.one v2 YC
 have hit:Int.toNat (n:Int)=n:=Int.toNat_natCast n
 have yG:Int.toNat (0:Int)=0:=rfl
 rw[hit,qK,yG]
 have xK:=gy.1
 refine WB (m:=1) db (fun k hk=>by have:=hA k hk;omega) (SV hx gy) (H3 Ev gy) hl (Nat.le_refl _) (by omega) (by omega) rfl Dh IP (fun e=>by have:=hz e;omega) (by simp only[maxLen];omega) (by omega) fun c3 h3 o3 k3=>?_
 have v3:=(v1.kb k2).kb k3
 have rq:=gy.trans k3
 have plain:∀h4,KB h3 h4->(cO l m).length<3->K (.slice (some (Ad h2.size)) (n+1) c3) h4:=fun h4 k4 hlen=>by
  refine hk _ _ c3 h4 ?_ ((rq).trans k4)
  unfold fj;rw[if_pos hlen];exact(o3.lower xK).kb k4
 refine⟨_,v3.cell 0 rfl,bf (fun eI=>plain h3 (KB.refl _) (by unfold cO;rw[if_pos eI];decide)) fun eI=>?_⟩
 have hS:cO l m=iI l m (behind l) (l.length - behind l):=by unfold cO;rw[if_neg eI]
 refine uZ (A:=rS h3.size) (fun _ h=>h) ((r.kb rq).JC) fun h4 k4=>?_
 have agR:=qe l
 refine⟨(n - behind l)+1,?_⟩
 have o4:=o3.kb k4
 have k34:=k4.1
 have k03s:=rq.1
 have key:∀k i h5 b6 c6,behind l+i+k=n->KB h4 h5->bH (jz .i64) h5 h4.size 3 b6 (iI l m (behind l) i).length c6 ((iI l m (behind l) i).map fun(j:Nat)=>(j:Int))->
   Q5.F7 (fun z5b z5n z5c Gg Gh Gi h=>Q5.n6 z5b z5n z5c Gg Gh Gi (fun fE fF fG h=>K (.slice fE fF fG) h) (fun fE fF fG h=>K (.slice fE fF fG) h) h)
    (fun z5b z5n z5c Gg Gh Gi h=>Q5.n6 z5b z5n z5c Gg Gh Gi (fun fE fF fG h=>K (.slice fE fF fG) h) (fun fE fF fG h=>K (.slice fE fF fG) h) h)
    (fun fE fF fG h=>K (.slice fE fF fG) h) (k+1) b n c x3 (some (Ad h2.size)) (n+1) c3 b6 (iI l m (behind l) i).length c6 ((behind l+i:Nat):Int) h5:=by
  intro k
  induction k with
  | zero=>
   intro i h5 b6 c6 hi k5 o6
   unfold Q5.F7 LP Q5.F6
   refine cg (by omega) ?_
   have hS5:iI l m (behind l) i=cO l m:=by rw[hS];congr 1;omega
   rw[hS5] at o6 ⊢
   refine bf (fun Zi=>plain h5 (k4.trans k5) (by omega)) fun Zi=>?_
   have hlen:¬(cO l m).length<3:=by omega
   obtain⟨s0,rest,hs0⟩:∃s0 rest,cO l m=s0::rest:=by
    cases hp:cO l m with
    | nil=>rw[hp] at hlen;simp at hlen
    | cons a t=>exact⟨a,t,rfl⟩
   have abE:s0<l.length:=by
    have:=Nn s0 (by rw[<-hS,hs0];simp)
    omega
   have r6:=o6.row
   have KZ:0<((cO l m).map fun(j:Nat)=>(j:Int)).length:=by simp;omega
   have QH:((cO l m).map fun(j:Nat)=>(j:Int))[0]=(s0:Int):=by simp[hs0]
   have o5:=o4.kb k5
   have JG:=o5.own.cap
   obtain⟨xs5,ow5,en5⟩:=o5.own.own
   have k5s:=k5.1
   refine r6.bj (i:=0) KZ rfl fun a QL=>?_
   rw[QH] at QL
   refine CU QL fun hr=>⟨⟨by omega,by omega,by omega⟩,r6.bj (i:=0) KZ rfl fun a QL=>?_⟩
   rw[QH] at QL
   refine CU QL fun hr=>⟨aF (by omega) (by omega),⟨by omega,by omega,by omega⟩,?_⟩
   have t1:Int.toNat (s0:Int)=s0:=Int.toNat_natCast _
   have t2:Int.toNat ((s0:Int)+1)=s0+1:=by omega
   have t3:Int.toNat ((n+1:Nat):Int)=n+1:=Int.toNat_natCast _
   rw[qK,t1,t2,t3,yG]
   have Ua:∀k,A k->k<h5.size:=fun k hk=>by have:=hA k hk;omega
   have abF:Cells h5 (some (Ad h2.size)) xs5:=ow5.cells
   refine fq (A:=A) Ua (en5.take s0) (abF.take _) (by rw[List.length_take,List.length_append,List.length_singleton];omega) (by omega) (fun e=>by cases e) (by omega) fun b7 c7 h7 o7 k7=>⟨k7.ext,?_⟩
   have e9:s0 - 0=s0:=rfl
   rw[e9] at o7 ⊢
   refine oS db o7 (fun k hk=>Ua k hk) k7 (Nat.le_refl _) k7.1 en5 Ua abF (lo:=s0+1) (n:=n+1) (by rw[List.length_append,List.length_singleton];omega) (by omega) (by omega) (by omega) (by omega) fun b8 c8 h8 o8 k8=>?_
   have abG:fj l m=(l++ [m]).take s0++(l++ [m]).drop (s0+1):=by
    unfold fj
    rw[if_neg hlen,hs0,List.headD_cons,Jz l m abE]
   refine hk b8 _ c8 h8 ?_ ((rq.trans (k4.trans k5)).trans k8)
   rw[abG];exact o8.lower (by omega)
  | succ k ih=>
   intro i h5 b6 c6 hi k5 o6
   unfold Q5.F7 LP Q5.F6
   have bQ:behind l+i<l.length:=by omega
   have EZ:=k4.trans k5
   have v5:=v3.kb EZ
   have VC:KB h h5:=(rq).trans EZ
   have XG:(iI l m (behind l) i).length<=i:=by
    unfold iI
    exact Nat.le_trans (List.length_filter_le _ _) (by rw[List.length_range'];exact Nat.le_refl _)
   refine bK (by omega) ⟨_,v5.cell 0 rfl,_,v5.cell 1 rfl,_,_,_,v5.cell 2 rfl,(r.kb VC).bj bQ rfl fun a QL=>Gs QL fun b' n' c' SI=>BX (hR.kb VC) SI fun h6 k6=>?_⟩
   have ub:=xL l m (behind l) i
   rw[aJ bQ] at ub
   refine aR (fun ha=>af fun a7 h7 v7 k7 e7 _=>?_) fun ha=>?_
   ·rw[if_pos ha] at ub
    have o7:=(o6.kb k6).kb k7
    have HW:=k6.trans k7
    have k57s:=HW.1
    have k5s:=k5.1
    refine bH.append Rg o7 (v7.wJ ⟨rfl,aF (by omega) (by omega)⟩ ⟨v7.lt,fun x hx=>by have:=o6.hi x hx;have:=k6.1;omega⟩) (by simp only[maxLen];omega) (by omega) (by omega) fun b8 c8 h8 o8 g8=>⟨aF (by omega) (by omega),?_⟩
    have:=ih (i+1) h8 b8 c8 (by omega) (dW.yj (k5.trans HW) g8 o6.lo) (by rw[ub];simpa using o8)
    rw[ub,List.length_append,List.length_singleton] at this
    exact this
   ·rw[if_neg (by rw[ha];simp)] at ub
    refine⟨aF (by omega) (by omega),?_⟩
    have:=ih (i+1) h6 b6 c6 (by omega) (k5.trans k6) (by rw[ub];exact o6.kb k6)
    rw[ub] at this
    exact this
 exact key (n - behind l) 0 h4 none 0 (by omega) (KB.refl _) (bH.none _ _ _)
theorem CC (hA:∀k,A k->k<h.size) (r:Row aX B h b n c l) (hB:∀k,B k->k<h.size) (hx:eH aX A h l xs) (Ev:Cells h b xs) (hz:b=none->c=0) (hn:n<=1000000) {K:KV}
  (hk:∀b' n' c' h',bO aX A h' h.size 79 b' n' c' (lH l)->KB h h'->K (.slice b' n' c') h'):zC 159 [.slice b n c] h K:=by
 refine Xa6.ok _ _ _ _ _ (uZ hB r fun h1 k1=>?_)
 have hcm:=r.cap
 have hl:=r.len
 have hle:=qe l
 refine bf (fun hp=>⟨aF (by omega) (by omega),⟨by omega,by omega,by omega⟩,?_⟩) fun hp=>?_
 ·have e1:Int.toNat ((behind l:Int) - 1) - Int.toNat (0:Int)=behind l - 1:=by omega
  rw[qK,e1]
  exact fq (A:=A) (fun k hk=>by have:=hA k hk;have:=k1.1;omega) ((SV hx k1).take (behind l - 1)) ((H3 Ev k1).take _) (by rw[List.length_take];omega) (by omega) (fun e=>by have:=hz e;omega) (by omega) fun b' c' h' o k2=>hk b' _ c' h' (o.lower k1.1) (k1.trans k2)
 ·have e:lH l=[]:=by unfold lH;rw[show behind l - 1=0 by omega];rfl
  exact hk none 0 0 h1 (by rw[e];exact bO.none _ _ _ _) k1
theorem wb (hA:∀k,A k->k<h.size) (r:Row aX B h b n c l) (hx:eH aX A h l xs) (Ev:Cells h b xs) (hn:n<=1000000) {K:KV}
  (hk:∀b' n' c' h',bO aX A h' h.size 79 b' n' c' (lH l)->KB h h'->K (.slice b' n' c') h'):zC 123 [.slice b n c] h K:=by
 refine Xed.ok _ _ _ _ _ (iA r ?_)
 have hcm:=r.cap
 have hl:=r.len
 have hle:=qe l
 refine bf (fun hp=>?_) fun hp=>⟨aF (by omega) (by omega),⟨by omega,by omega,by omega⟩,?_⟩
 ·have e:lH l=[]:=by unfold lH;rw[show behind l - 1=0 by omega];rfl
  exact hk none 0 0 h (by rw[e];exact bO.none _ _ _ _) (KB.refl h)
 ·have e1:Int.toNat ((behind l:Int) - 1) - Int.toNat (0:Int)=behind l - 1:=by omega
  rw[qK,e1]
  exact oR db hx hA Ev hl (hi:=behind l - 1) (by omega) (by omega) (by omega) fun b1 c1 h1 o1 k1=>hk b1 _ c1 h1 o1 k1
def shl (l:List aS) (k j:Nat):List aS:=l.take k++(l.drop (k+1)).take (j - (k+1))++l.drop (j - 1)
theorem N4 {k:Nat} (hk:k<l.length):shl l k (k+1)=l:=by unfold shl;simp
theorem Rh {k j:Nat} (hk:k<j) (hj:j<=l.length):(shl l k j).length=l.length:=by
 unfold shl;simp only[List.length_append,List.length_take,List.length_drop];omega
theorem Ri {k j i:Nat} (hk:k<j) (hj:j<=l.length) (hi:j - 1<=i):(shl l k j)[i]? =l[i]? :=by
 unfold shl
 have h1:(l.take k++(l.drop (k+1)).take (j - (k+1))).length=j - 1:=by simp only[List.length_append,List.length_take,List.length_drop];omega
 rw[List.getElem?_append_right (by omega),h1,List.getElem?_drop];congr 1;omega
theorem N5 {k j:Nat} (hk:k<j) (hj:j<l.length):shl l k (j+1)=(shl l k j).set (j - 1) l[j]:=by
 unfold shl
 have h1:(l.take k++(l.drop (k+1)).take (j - (k+1))).length=j - 1:=by simp only[List.length_append,List.length_take,List.length_drop];omega
 rw[List.set_append_right _ _ (by omega),h1,Nat.sub_self]
 have e1:l.drop (j - 1)=l[j - 1]::l.drop j:=by
  have:=List.drop_eq_getElem_cons (l:=l) (i:=j - 1) (by omega)
  rwa[show j - 1+1=j by omega] at this
 have e2:l.drop j=l[j]::l.drop (j+1):=List.drop_eq_getElem_cons hj
 have e3:(l.drop (k+1)).take (j+1 - (k+1))=(l.drop (k+1)).take (j - (k+1))++ [l[j]]:=by
  rw[show j+1 - (k+1)=j - (k+1)+1 by omega,List.take_add_one,List.getElem?_drop,show k+1+(j - (k+1))=j by omega,List.getElem?_eq_getElem hj];rfl
 rw[e1,e3,Nat.add_sub_cancel]
 simp
theorem Rj {k:Nat} (hk:k<l.length):(shl l k l.length).take (l.length - 1)=l.eraseIdx k:=by
 unfold shl
 have h1:(l.take k++(l.drop (k+1)).take (l.length - (k+1))).length=l.length - 1:=by simp only[List.length_append,List.length_take,List.length_drop];omega
 rw[List.take_left' h1,List.eraseIdx_eq_take_drop_succ]
 congr 1
 exact List.take_of_length_le (by rw[List.length_drop];omega)
theorem my {base:Nat} {f:Value} {p:aS->Bool} (o:bO aX A h base 79 b n c l) (hA:∀k,A k->k<base) (hbh:base<=h.size) (hn:n<=1000000) (h1p:∀i j (hi:i<l.length) (hj:j<l.length),p l[i]=true->p l[j]=true->i=j)
  (hf:∀x h1 b' n' c' (next:KV),x ∈ l->SK (fun k=>k<base) h h1->(∀h2,KB h1 h2->next (.bool (p x)) h2)->fQ Tryz.prog 4 f ⟨[.agg ⟨[.int .i64 x.1,S x.2.1,.slice b' n' c']⟩]⟩ h1 next)
  {K:KV} (hk:∀b' n' c' h',bO aX A h' base 79 b' n' c' (if 0<=cM l p then l.eraseIdx (cM l p).toNat else l)->SK (fun k=>k<base) h h'->K (.slice b' n' c') h'):
  zC 153 [.slice b n c,f] h K:=by
 have hlen:=o.len
 have hcap:=o.own.cap
 have yj:∀{h1},KB h h1->SK (fun k=>k<base) h h1:=fun k=>k.less fun q hq=>Nat.lt_of_lt_of_le hq hbh
 refine NT.ok _ _ _ _ _ _ (jD (p:=p) (o.row fun k hk=>Nat.lt_of_lt_of_le (hA k hk) hbh) (fun x h1 b' n' c' next hx k1 hR hnx=>hf x h1 b' n' c' next hx (yj k1) hnx) fun h1 k1=>aO ?_)
 have o1:=o.kb k1
 refine bf (fun e=>?_) fun e=>?_
 ·have dk:¬0<=cM l p:=by omega
  have:=hk b n c h1
  rw[if_neg dk] at this
  exact this o1 (yj k1)
 ·have hq:=ll (l:=l) (p:=p)
  have h0:0<=cM l p:=by omega
  obtain⟨dJ,hpk,_⟩:=fy h0
  obtain⟨k,ek⟩:=Int.eq_ofNat_of_zero_le h0
  have wv:(cM l p).toNat=k:=by rw[ek];rfl
  rw[if_pos h0,wv] at hk
  simp only[wv] at dJ hpk
  rw[ek]
  refine⟨aF (by omega) (by omega),n - (k+1)+1,?_⟩
  obtain⟨KR,RG⟩:∃KR:NT.T0,KR=fun fE fF fG h=>K (.slice fE fF fG) h:=⟨_,rfl⟩
  have fin:∀h2,SK (fun k=>k<base) h h2->bO aX A h2 base 79 b n c (shl l k n)->NT.n5 b n c ((n - 1:Nat):Int) KR KR h2:=fun h2 k2 o2=>by
   have e1:Int.toNat ((n - 1:Nat):Int)=n - 1:=Int.toNat_natCast _
   have e2:Int.toNat (n:Int)=n:=Int.toNat_natCast _
   have e3:Int.toNat (0:Int)=0:=rfl
   refine⟨⟨by omega,by omega,by omega⟩,?_⟩
   rw[qK,e1,e2]
   refine bO.aiV db (by kernel_rfl) o2 hA (by omega) fun h3 o3 g3=>⟨⟨by omega,by omega,by omega⟩,?_⟩
   rw[<-hlen,Rj dJ,hlen] at o3
   rw[RG]
   exact hk b _ c h3 o3 (SK.trans k2 ⟨g3.size,fun q hq=>g3.vM q (by have:=k2.1;have hq:q<base:=hq;omega) fun a ea e2=>by have:=o2.lo a ea;have hq:q<base:=hq;omega⟩)
  have key:∀N j h2,j+N=n->k<j->SK (fun k=>k<base) h h2->bO aX A h2 base 79 b n c (shl l k j)->
    NT.gz (fun ao aj aq x5 h=>NT.n5 ao aj aq x5 KR KR h) (fun ao aj aq x5 h=>NT.n5 ao aj aq x5 KR KR h) KR (N+1) b n c f ((j - 1:Nat):Int) (j:Int) h2:=by
   intro N
   induction N with
   | zero=>
    intro j h2 hj JK k2 o2
    unfold NT.gz LP NT.iq
    have e:j=n:=by omega
    subst e
    exact cg (by omega) (fin h2 k2 o2)
   | succ N ih=>
    intro j h2 hj JK k2 o2
    unfold NT.gz LP NT.iq
    have fU:j<l.length:=by omega
    have XG:=Rh (l:=l) JK (by omega)
    obtain⟨xs2,ow2,en2⟩:=o2.own.own
    obtain⟨a,b',n',c',eb,m0,m1,m2,SI⟩:=j5 en2 ow2.cells (i:=j) (by omega)
    have eg:(shl l k j)[j]'(by omega)=l[j]:=by
     have:=Ri (l:=l) JK (by omega) (i:=j) (by omega)
     rw[List.getElem?_eq_getElem (by omega),List.getElem?_eq_getElem fU] at this
     exact Option.some.inj this
    rw[eg] at m0 m1 SI
    subst eb
    have e1:Int.toNat ((j - 1:Nat):Int)=j - 1:=Int.toNat_natCast _
    refine bK (by omega) ⟨⟨by omega,by omega⟩,aa ⟨_,m0,_,m1,_,_,_,m2,af fun a7 h3 v3 k3 e3 s3=>aQ v3 (by show 3<=3;omega) fun h4 v4 k4 s4=>?_⟩⟩
    have uu:KB h2 h4:=KB.step k3 k4 (by omega)
    have v4:Var h4 a7 79 [.int .i64 l[j].1,S l[j].2.1,.slice b' n' c']:=v4
    have z2:=k2.1
    have z4:=uu.1
    have jH:SK (fun k=>k<base) h h4:=SK.trans k2 (uu.less fun q hq=>by have hq:q<base:=hq;show q<h2.size;omega)
    refine⟨_,v4.cell 0 rfl,_,v4.cell 1 rfl,_,_,_,v4.cell 2 rfl,hf l[j] h4 _ _ _ _ (List.getElem_mem fU) jH fun h5 k5=>ag (aR (fun ht=>?_) fun hff=>?_)⟩
    ·have:=h1p k j dJ fU hpk ht
     omega
    ·have v5:=v4.kb k5
     have o5:=(o2.kb uu).kb k5
     refine⟨_,v5.cell 0 rfl,_,v5.cell 1 rfl,_,_,_,v5.cell 2 rfl,⟨by omega,by omega⟩,?_⟩
     rw[e1]
     refine bO.aiU o5 hA (i:=j - 1) (by omega) ((SI.kb uu).kb k5) fun h6 g Xz ym o6 k6 s6=>⟨aF (by omega) (by omega),aF (by omega) (by omega),?_⟩
     have VC:SK (fun k=>k<base) h h5:=SK.trans jH (k5.less fun q hq=>by have hq:q<base:=hq;show q<h4.size;omega)
     have:=ih (j+1) h6 (by omega) (by omega) (SK.trans VC (k6.less fun q hq=>by have hq:q<base:=hq;show q≠g;omega)) (by rw[N5 JK fU];exact o6)
     have e5:((j+1 - 1:Nat):Int)=((j - 1:Nat):Int)+1:=by omega
     rw[e5] at this
     exact this
  have:=key (n - (k+1)) (k+1) h1 (by omega) (by omega) (yj k1) (by rw[N4 dJ];exact o1)
  rw[RG] at this
  exact this
end
section
variable {A B:Nat->Prop} {h:H} {b b2:OA} {n c n2 c2:Nat} {l:List aP} {ns:List Bs} {s:Bs}
theorem yJ (r:Row bo A h b n c l) (rn:Row cN B h b2 n2 c2 ns) {K:KV} (hk:∀h',KB h h'->K (.int .i64 (qN l ns)) h'):
  zC 167 [.slice b n c,.slice b2 n2 c2] h K:=by
 refine SW.ok _ _ _ _ _ _ _ _ ?_
 have qF:=r.len
 have hm:n<=maxLen:=Nat.le_trans r.cap r.max
 simp only[maxLen] at hm
 refine⟨aF (by omega) (by omega),n+1,?_⟩
 have key:∀i h5,i<=n->KB h h5->eV (ja ns) (-1) l i=qN l ns->
   SW.cQ (fun h=>K (.int .i64 (-1)) h) (fun h=>K (.int .i64 (-1)) h) (fun y6 h=>K (.int .i64 y6) h) (i+1) b n c b2 n2 c2 ((i:Int) - 1) h5:=by
  intro i
  induction i with
  | zero=>
   intro h5 _ k5 e
   unfold SW.cQ LP SW.bU
   refine cg (by omega) ?_
   have:=hk h5 k5
   rw[<-e] at this;exact this
  | succ i ih=>
   intro h5 hi k5 e
   unfold SW.cQ LP SW.bU
   have bQ:i<l.length:=by omega
   have hx:((i+1:Nat):Int) - 1=(i:Int):=by omega
   rw[hx]
   unfold eV at e
   rw[aJ bQ] at e
   have r5:=r.kb k5
   have go:∀h8,KB h5 h8->ja ns i l[i]=none->bd .i64 ((i:Int) - 1)/\SW.cQ (fun h=>K (.int .i64 (-1)) h) (fun h=>K (.int .i64 (-1)) h) (fun y6 h=>K (.int .i64 y6) h) (i+1) b n c b2 n2 c2 ((i:Int) - 1) h8:=fun h8 k8 hn=>by
    rw[hn] at e
    exact⟨aF (by omega) (by omega),ih h8 (by omega) (k5.trans k8) e⟩
   refine bK (by omega) (r5.bj bQ rfl fun a hA=>cT hA fun _=>jN (rn.kb k5) fun h6 k6=>ag (aR (fun ht=>?_) fun hf=>(r5.kb k6).bj bQ rfl fun a hA=>⟨_,hA.snd.fst.int.1,(r5.kb k6).bj bQ rfl fun a hA=>⟨_,(hA.snd.dt (k:=2) rfl).fst.str.1,gk fun h7 k7=>ag (aR (fun hs=>((r5.kb k6).kb k7).bj bQ rfl fun a hA=>cT hA fun _=>af (cs:=Dc.map S) fun a8 h8 v8 k8 _ _=>⟨k8.ext,jx Dc rfl (by decide+kernel) (by decide+kernel) v8 fun h9 k9=>ag (aR (fun ht=>?_) fun XP=>?_)⟩) fun hs=>?_)⟩⟩))
   ·rw[show ja ns i l[i]=some (i:Int) by unfold ja;rw[if_pos ht]] at e
    have:=hk h6 (k5.trans k6)
    rw[<-e] at this;exact this
   ·exact go h9 (((k6.trans k7).trans k8).trans k9) (by unfold ja;rw[if_neg (by rw[hf];simp),if_neg (by rw[ht];simp)])
   ·rw[show ja ns i l[i]=some (-1) by unfold ja;rw[if_neg (by rw[hf];simp),if_pos (by rw[hs,XP];rfl)]] at e
    have:=hk h9 ((((k5.trans k6).trans k7).trans k8).trans k9)
    rw[<-e] at this;exact this
   ·exact go h7 (k6.trans k7) (by unfold ja;rw[if_neg (by rw[hf];simp),if_neg (by rw[hs];simp)])
 exact key n h (Nat.le_refl _) (KB.refl h) (by rw[<-qF];rfl)
theorem jy {K:KV} (hk:∀h',KB h h'->K (.bool (dS s)) h'):zC 121 [S s] h K:=
 Xd4.ok _ _ _ (af (cs:=Cm.map S) fun a h1 v1 k1 _ _=>iB Cm rfl (by decide+kernel) (by decide+kernel) v1 (ag (dm (K:=fun b=>K (.bool b) h1) (hk h1 k1))))
end
end Go.Proofs
namespace Go.Sh
open Go
set_option linter.unusedVariables false
variable {P:Program} {α:Type} {E:El α}
theorem rj (w:World) (dT sT ty elem:TypeId) (g o WC aj0:Nat) (a:Addr) (WD aj1:Nat) (cur:Array Value) (t:TypeId) (i:TypeInfo) (cs:List Value)
  (hu:P.underlying dT=some (.slice elem)) (hi:P.info? elem=some i) (hg:w.heap[g]? =some (.cells cur t (0,0))) (hn:cs.length=Nat.min WD WC*i.size)
  (N6:∀j v,cs[j]? =some v->w.cell? (a.add j)=some v) (Ul:o+cs.length<=cur.size) (h1:∀v ∈ cs,v.oneCell'=true):
  (Builtin.copy_ #[dT,sT] ty #[.slice (some ⟨g,o,none⟩) WC aj0,.slice (some a) WD aj1]).run P w=
   .ok (goInt (Nat.min WD WC)) (w.setRow g (cur.toList.take o++cs++cur.toList.drop (o+cs.length)).toArray):=by
 have hl:=run_loadCells_list (P:=P) w a cs N6
 have jF:=run_storeCells_at P g o t cs 0 cur w hg (by simpa using Ul) h1
 simp[Builtin.copy_,run_underlying hu,Builtin.lenOf,Builtin.firstCells,sizeOf,typeInfo,hi,<-hn,hl,jF]
theorem Es (g o:Nat):((⟨g,0,none⟩:Addr).add o)=⟨g,o,none⟩:=by unfold Addr.add;split <;> simp_all
structure abH (E:El α) (h h1:H) (g e n c i:Nat) (xs:List Value):Prop where
 ex:∃cur:Array Value,h1[g]? =some (.cells cur e (0,0))/\cur.size=c*E.sz/\cur.toList.take (i*E.sz)=xs.take (i*E.sz)/\(cur.toList.drop ((i+1)*E.sz)).take ((n - i)*E.sz)=xs.drop (i*E.sz)
 vM:∀k,k≠g->h1[k]? =h[k]?
 size:h1.size=h.size
theorem setRow_size (w:World) (g:Nat) (row:Array Value):(w.setRow g row).heap.size=w.heap.size:=by simp[World.setRow]
section
variable {t e by' base n c i g:Nat} {h h1:H} {l:List α} {A:Nat->Prop} {xs:List Value}
theorem N7 (ap:oH P E t e by') (en:eH E A h l xs) (wO:xs.length=n*E.sz) {cur:Array Value} (hg:h[g]? =some (.cells cur e (0,0))) (hcs:cur.size=c*E.sz) (pP:cur.toList.take (n*E.sz)=xs) (hi:i<n) (hc:n+1<=c) {ty:TypeId} {K:KV}
  (hk:∀h1,abH E h h1 g e n c i xs->K (.int .i64 ((n - i:Nat):Int)) h1):
  aZ P (Builtin.copy_ #[t,t] ty ⟨[.slice (some ((⟨g,0,none⟩:Addr).add ((i+1)*E.sz))) (n+1 - (i+1)) (c - (i+1)),.slice (some ((⟨g,0,none⟩:Addr).add (i*E.sz))) (n+1 - i) (c - i)]⟩) h K:=by
 obtain⟨ii,z,ht,vl,hz,vN,ib,zl⟩:=ap.is
 intro w hw
 subst hw
 have qv:=E.pos
 have Ay:(i+1)*E.sz=i*E.sz+E.sz:=Nat.succ_mul _ _
 have yl:(i+1)*E.sz<=n*E.sz:=Nat.mul_le_mul_right _ hi
 have hn1:(n+1)*E.sz<=c*E.sz:=Nat.mul_le_mul_right _ hc
 have vJ:(n+1)*E.sz=n*E.sz+E.sz:=Nat.succ_mul _ _
 have N8:Nat.min (n+1 - i) (n+1 - (i+1))=n - i:=by simp only[Nat.min_def];split <;> omega
 have Xq:(xs.drop (i*E.sz)).length=(n - i)*E.sz:=by rw[List.length_drop,wO,<-Nat.sub_mul]
 have aj2:(n - i)*E.sz=n*E.sz - i*E.sz:=Nat.sub_mul _ _ _
 have N6:∀j v,(xs.drop (i*E.sz))[j]? =some v->w.cell? (((⟨g,0,none⟩:Addr).add (i*E.sz)).add j)=some v:=fun j v hv=>by
  rw[List.getElem?_drop,<-pP,List.getElem?_take] at hv
  split at hv
  ·show cell w.heap _=_
   rw[add_add,je hg,<-Array.getElem?_toList];exact hv
  ·cases hv
 have hr:=rj (P:=P) w t t ty e g ((i+1)*E.sz) (n+1 - (i+1)) (c - (i+1)) ((⟨g,0,none⟩:Addr).add (i*E.sz)) (n+1 - i) (c - i) cur e ii (xs.drop (i*E.sz)) ht vl hg (by rw[N8,Xq,ib]) N6 (by rw[Xq,hcs];omega) fun v hv=>en.one v (List.mem_of_mem_drop hv)
 rw[N8] at hr
 rw[Es g ((i+1)*E.sz)]
 refine⟨_,_,hr,⟨rfl,rfl,rfl⟩,hk _ ⟨⟨_,setRow_heap w g cur _ e _ hg,?_,?_,?_⟩,fun k AN=>setRow_other _ _ _ _ AN,setRow_size _ _ _⟩⟩
 ·simp only[List.size_toArray,List.length_append,List.length_take,List.length_drop,Array.length_toList,Xq]
  omega
 ·rw[List.toList_toArray,List.append_assoc,List.take_append_of_le_length (by rw[List.length_take,Array.length_toList];omega),List.take_take,Nat.min_eq_left (by omega),<-pP,List.take_take,Nat.min_eq_left (by omega)]
 ·rw[List.toList_toArray,List.append_assoc,List.drop_left' (by rw[List.length_take,Array.length_toList];omega),List.take_left' Xq]
theorem N9 (ap:oH P E t e by') (o:dX E A h base e (some ⟨g,0,none⟩) n c l) (en:eH E A h l xs) (wO:xs.length=n*E.sz) (hA:∀k,A k->k≠g) (ym:base<=g) (hi:i<n) (hc:n+1<=c) (M:abH E h h1 g e n c i xs) {a:Addr} {x:α} {cs:List Value} (hR:E.R A h x cs)
  (hv:∀j u,cs[j]? =some u->cell h (a.add j)=some u) (ha:a.block≠g) {ty:TypeId} {ac:Nat} {K:KV}
  (hk:∀h',dX E A h' base e (some ⟨g,0,none⟩) (n+1) c (l.take i++x::l.drop i)->dW h h' (some ⟨g,0,none⟩)->h'.size=h.size->K (.int .i64 ((1:Nat):Int)) h'):
  aZ P (Builtin.copy_ #[t,t] ty ⟨[.slice (some ((⟨g,0,none⟩:Addr).add (i*E.sz))) (n+1 - i) (c - i),.slice (some a) 1 ac]⟩) h1 K:=by
 obtain⟨ii,z,ht,vl,hz,vN,ib,zl⟩:=ap.is
 obtain⟨cur,hg,hcs,h2,h3⟩:=M.ex
 intro w hw
 subst hw
 have qv:=E.pos
 have hcl:=E.len _ _ _ _ hR
 have Ay:(i+1)*E.sz=i*E.sz+E.sz:=Nat.succ_mul _ _
 have yl:(i+1)*E.sz<=n*E.sz:=Nat.mul_le_mul_right _ hi
 have hn1:(n+1)*E.sz<=c*E.sz:=Nat.mul_le_mul_right _ hc
 have vJ:(n+1)*E.sz=n*E.sz+E.sz:=Nat.succ_mul _ _
 have aj2:(n - i)*E.sz=n*E.sz - i*E.sz:=Nat.sub_mul _ _ _
 have N8:Nat.min 1 (n+1 - i)=1:=by simp only[Nat.min_def];split <;> omega
 have N6:∀j v,cs[j]? =some v->w.cell? (a.add j)=some v:=fun j v hj=>by
  have:=hv j v hj
  show cell w.heap _=_
  unfold cell at this ⊢
  rw[M.vM _ (by rw[br];exact ha)];exact this
 have hr:=rj (P:=P) w t t ty e g (i*E.sz) (n+1 - i) (c - i) a 1 ac cur e ii cs ht vl hg (by rw[N8,hcl,ib,Nat.one_mul]) N6 (by rw[hcl,hcs];omega) fun v hv=>E.one _ _ _ _ hR v hv
 rw[N8] at hr
 have hs:(w.setRow g (cur.toList.take (i*E.sz)++cs++cur.toList.drop (i*E.sz+cs.length)).toArray).heap.size=h.size:=by rw[setRow_size,M.size]
 have hold:∀k,k≠g->(w.setRow g (cur.toList.take (i*E.sz)++cs++cur.toList.drop (i*E.sz+cs.length)).toArray).heap[k]? =h[k]? :=fun k AN=>by rw[setRow_other _ _ _ _ AN,M.vM k AN]
 rw[Es g (i*E.sz)]
 refine⟨_,_,hr,⟨rfl,rfl,rfl⟩,hk _ ⟨?_,xs.take (i*E.sz)++(cs++xs.drop (i*E.sz)),⟨?_,hc,o.cap.2,.inr ⟨g,_,rfl,ym,setRow_heap w g cur _ e _ hg,?_,?_⟩⟩,?_⟩ ⟨Nat.le_of_eq hs.symm,fun k hk bL=>hold k fun e2=>bL _ rfl e2.symm⟩ hs⟩
 ·rw[List.length_append,List.length_take,List.length_cons,List.length_drop,o.len];omega
 ·rw[List.length_append,List.length_append,List.length_take,List.length_drop,wO,hcl];omega
 ·simp only[List.size_toArray,List.length_append,List.length_take,List.length_drop,Array.length_toList,hcl]
  omega
 ·rw[List.toList_toArray,List.append_assoc,h2,List.take_append,List.length_take,wO,Nat.min_eq_left (by omega)]
  have e1:(xs.take (i*E.sz)).take ((n+1)*E.sz)=xs.take (i*E.sz):=by rw[List.take_take,Nat.min_eq_right (by omega)]
  rw[e1]
  congr 1
  rw[List.take_append,List.take_of_length_le (l:=cs) (by omega)]
  congr 1
  rw[hcl,<-Ay,<-h3]
  congr 1
  omega
 ·have h4:eH E A h (l.take i++x::l.drop i) (xs.take (i*E.sz)++(cs++xs.drop (i*E.sz))):=(en.take i).append ⟨cs,_,rfl,hR,en.drop i⟩
  exact h4.keep ⟨Nat.le_of_eq hs.symm,fun k AN o2 PF _=>by rw[hold k (hA k AN.1)];exact PF⟩ fun _ h _=>h
end
variable {P:Program} {α:Type} {E:El α}
theorem SX {t e:TypeId} (ht:P.underlying t=some (.slice e)) {ty:TypeId} {b:OA} {n c:Nat} {h:H} {K:KV} (hk:K (.int .i64 (c:Int)) h):aZ P (Builtin.cap_ #[t] ty ⟨[.slice b n c]⟩) h K:=fun w hw=>
 ⟨_,w,by show(Builtin.cap_ #[t] ty #[.slice b n c]).run P w=_;simp[Builtin.cap_,run_underlying ht];rfl,bu.refl w,by rw[hw];exact hk⟩
theorem ye {t e by' tR:TypeId} (ap:oH P E t e by') {g j:Nat} {cur:Array Value} {fz:Nat × Nat} {h:H} {a:Addr} {tv:Nat} {cs:List Value} (hg:h[g]? =some (.cells cur e fz)) (hs:cur.size≠0) (va:Var h a tv cs) (ha:a.block≠g) {la ca lb cb:Nat} {K:KV} (hk:K (.bool false) h):
  aZ P (Extern.SlicesOverlaps.overlaps #[t,t] #[tR] ⟨[.slice (some a) la ca,.slice (some ((⟨g,0,none⟩:Addr).add j)) lb cb]⟩) h K:=by
 obtain⟨ii,z,ht,vl,hz,vN,ib,zl⟩:=ap.is
 intro w hw
 subst hw
 have hsa:w.shape? a.block=some (tv,cs.length):=by unfold World.shape?;rw[va.cells];rfl
 have hsb:w.shape? ((⟨g,0,none⟩:Addr).add j).block=some (e,cur.size):=by rw[br];unfold World.shape?;rw[hg]
 have hf:∀o,w.frozen? {block:=a.block,off:=o}=false:=fun o=>by unfold World.frozen?;simp only[va.cells];simp
 have hfa:w.frozen? a=false:=by rw[va.is];exact hf 0
 exact⟨_,w,Lib.run_overlaps_apart w t tR e ht ii.size (fun w=>by simp[sizeOf,typeInfo,vl]) a _ la ca lb cb (by rw[br];exact ha) tv e cs.length cur.size hsa hsb hs hfa (hf _),bu.refl w,hk⟩
end Go.Sh
namespace Go.Proofs
open Go Go.Sh
set_option linter.unusedVariables false
set_option maxRecDepth 100000
theorem WE (z:Nat) (b:OA) (c:Nat):(if c=Int.toNat (0:Int) then b else Option.map (fun q=>q.add (Int.toNat (0:Int)*z)) b)=b:=by
 split
 ·rfl
 ·cases b with
  | none=>rfl
  | some q=>show some (q.add (0*z))=some q;rw[Nat.zero_mul];rfl
theorem Ap {α:Type} (l:List α) (x:α) {n:Nat} (hn:l.length=n):l.take n++x::l.drop n=l++ [x]:=by
 rw[List.take_of_length_le (by omega),List.drop_of_length_le (by omega)]
section
variable {h:H} {col:bY} {K:KV} {v:Nat × Nat} {b:OA} {n c i:Nat} {a:Addr} {tv:Nat} {cs:List Value}
theorem du.ne {α:Type} {E:El α} {e:Nat} {l:List α} (o:du E h col v e b n c l):∀k,bT col h k->∀q,b=some q->k≠q.block:=fun k hk q hq e=>by have:=o.col q hq;rw[<-e,hk.1] at this;cases this
theorem yK {l:List aS} (o:du aX h col v 79 b n c l) (hf:bh h col) (hi:i<=n) (hc:n+1<=c) {x:aS} (hR:aX.R (bT col h) h x cs) (va:Var h a tv cs) (ca:col a.block=none) (hn:n<=1000000)
  (hk:∀b' c' h' col',du aX h' col' v 79 b' (n+1) c' (l.take i++x::l.drop i)->dW h h' b->(∀k,k<h.size->col' k=col k)->bh h' col'->K (.slice b' (n+1) c') h'):
  zC 240 [.slice b n c,.int .i64 (i:Int),.slice (some a) 1 1] h K:=by
 have hlen:=o.len
 have ry:=o.cap.2
 simp only[maxLen] at ry
 refine Xgc.ok _ _ _ _ _ _ _ _ _ ⟨⟨by omega,by omega,by omega⟩,cg (by omega) (bf (fun e=>?_) fun e=>?_)⟩
 ·have ei:i=n:=by omega
  subst ei
  refine o.append db (va.wJ hR ⟨ca,va.lt⟩) (by simp only[maxLen];omega) (by omega) hf fun b' c' h' o' g' nb f'=>?_
  refine hk b' c' h' _ ?_ g' (fun k hk=>eJ hk) f'
  rw[Ap l x hlen];exact o'
 ·have vL:i<n:=by omega
  refine⟨aF (by omega) (by omega),SX (e:=79) (by kernel_rfl) (aO (cg (by omega) (aC ⟨aF (by omega) (by omega),⟨by omega,by omega,by omega⟩,?_⟩)))⟩
  dsimp only[aA]
  rw[WE]
  have e1:Int.toNat ((n:Int)+((1:Nat):Int)) - Int.toNat (0:Int)=n+1:=by show Int.toNat ((n+1:Nat):Int) - 0=_;rw[Int.toNat_natCast];omega
  have e2:c - Int.toNat (0:Int)=c:=rfl
  have e3:((i:Int)+((1:Nat):Int))=((i+1:Nat):Int):=rfl
  rw[e1,e2,e3]
  obtain⟨xs,ow,en⟩:=o.own.own
  rcases ow.is with ⟨h0,_⟩ | ⟨g,cur,rfl,ym,hg,hcs,pP⟩
  ·omega
  have LS:a.block≠g:=fun e=>by have:=o.col _ rfl;rw[e] at ca;rw[ca] at this;cases this
  have hcz:cur.size=c*3:=hcs
  have e4:Int.toNat ((i+1:Nat):Int)=i+1:=rfl
  have e5:Int.toNat (i:Int)=i:=rfl
  have e6:Int.toNat ((n+1:Nat):Int)=n+1:=rfl
  rw[e4,e5,e6,if_neg (by omega),if_neg (by omega)]
  refine⟨aF (by omega) (by omega),⟨by omega,by omega,by omega⟩,ye db hg (by omega) va LS (ag (aC (aD ⟨aF (by omega) (by omega),⟨by omega,by omega,by omega⟩,⟨by omega,by omega,by omega⟩,?_⟩)))⟩
  refine N7 db en ow.len hg hcs pP vL hc fun h1 M=>aO ⟨⟨by omega,by omega,by omega⟩,?_⟩
  refine N9 db o.own en ow.len (fun k hk e=>o.ne k hk _ rfl e) ym vL hc M hR (fun j u hu=>va.cell j hu) LS fun h2 o2 g2 s2=>aO ?_
  exact hk _ c h2 col ⟨o2.keep (bZ.refl (fun _=>True) _) (fun _ _ _=>trivial) (fun k hk _=>⟨hk.1,by rw[s2];exact hk.2⟩) fun _ _ _ _=>trivial,o.col,fun q hq=>by rw[s2];exact o.hi q hq,fun e=>by cases e⟩ g2 (fun _ _=>rfl) fun k hk=>hf k (by rw[<-s2];exact hk)
theorem yL {l:List aP} (o:du bo h col v 77 b n c l) (hf:bh h col) (hi:i<=n) (hc:n+1<=c) {x:aP} (hR:bo.R (bT col h) h x cs) (va:Var h a tv cs) (ca:col a.block=none) (hn:n<=1000000)
  (hk:∀b' c' h' col',du bo h' col' v 77 b' (n+1) c' (l.take i++x::l.drop i)->dW h h' b->(∀k,k<h.size->col' k=col k)->bh h' col'->K (.slice b' (n+1) c') h'):
  zC 241 [.slice b n c,.int .i64 (i:Int),.slice (some a) 1 1] h K:=by
 have hlen:=o.len
 have ry:=o.cap.2
 simp only[maxLen] at ry
 refine Xgd.ok _ _ _ _ _ _ _ _ _ ⟨⟨by omega,by omega,by omega⟩,cg (by omega) (bf (fun e=>?_) fun e=>?_)⟩
 ·have ei:i=n:=by omega
  subst ei
  refine o.append iu (va.wJ hR ⟨ca,va.lt⟩) (by simp only[maxLen];omega) (by omega) hf fun b' c' h' o' g' nb f'=>?_
  refine hk b' c' h' _ ?_ g' (fun k hk=>eJ hk) f'
  rw[Ap l x hlen];exact o'
 ·have vL:i<n:=by omega
  refine⟨aF (by omega) (by omega),SX (e:=77) (by kernel_rfl) (aO (cg (by omega) (aC ⟨aF (by omega) (by omega),⟨by omega,by omega,by omega⟩,?_⟩)))⟩
  dsimp only[aA]
  rw[WE]
  have e1:Int.toNat ((n:Int)+((1:Nat):Int)) - Int.toNat (0:Int)=n+1:=by show Int.toNat ((n+1:Nat):Int) - 0=_;rw[Int.toNat_natCast];omega
  have e2:c - Int.toNat (0:Int)=c:=rfl
  have e3:((i:Int)+((1:Nat):Int))=((i+1:Nat):Int):=rfl
  rw[e1,e2,e3]
  obtain⟨xs,ow,en⟩:=o.own.own
  rcases ow.is with ⟨h0,_⟩ | ⟨g,cur,rfl,ym,hg,hcs,pP⟩
  ·omega
  have LS:a.block≠g:=fun e=>by have:=o.col _ rfl;rw[e] at ca;rw[ca] at this;cases this
  have hcz:cur.size=c*4:=hcs
  have e4:Int.toNat ((i+1:Nat):Int)=i+1:=rfl
  have e5:Int.toNat (i:Int)=i:=rfl
  have e6:Int.toNat ((n+1:Nat):Int)=n+1:=rfl
  rw[e4,e5,e6,if_neg (by omega),if_neg (by omega)]
  refine⟨aF (by omega) (by omega),⟨by omega,by omega,by omega⟩,ye iu hg (by omega) va LS (ag (aC (aD ⟨aF (by omega) (by omega),⟨by omega,by omega,by omega⟩,⟨by omega,by omega,by omega⟩,?_⟩)))⟩
  refine N7 iu en ow.len hg hcs pP vL hc fun h1 M=>aO ⟨⟨by omega,by omega,by omega⟩,?_⟩
  refine N9 iu o.own en ow.len (fun k hk e=>o.ne k hk _ rfl e) ym vL hc M hR (fun j u hu=>va.cell j hu) LS fun h2 o2 g2 s2=>aO ?_
  exact hk _ c h2 col ⟨o2.keep (bZ.refl (fun _=>True) _) (fun _ _ _=>trivial) (fun k hk _=>⟨hk.1,by rw[s2];exact hk.2⟩) fun _ _ _ _=>trivial,o.col,fun q hq=>by rw[s2];exact o.hi q hq,fun e=>by cases e⟩ g2 (fun _ _=>rfl) fun k hk=>hf k (by rw[<-s2];exact hk)
end
theorem rl {A:Nat->Prop} {h:H} {K:KV} {b:OA} {n c base i:Nat} {l:List aS} (o:bO aX A h base 79 b n c l) (hA:∀k,A k->k<base) (hi:i<n) (hk:∀h',bO aX A h' base 79 b (n - 1) c (l.eraseIdx i)->dW h h' b->K (.slice b (n - 1) c) h'):
  zC 237 [.slice b n c,.int .i64 (i:Int),.int .i64 ((i+1:Nat):Int)] h K:=by
 have hcap:=o.own.cap
 refine Xf4.ok _ _ _ _ _ _ _ ⟨⟨by omega,by omega,by omega,by omega⟩,cg (by omega) ⟨⟨by omega,by omega,by omega⟩,⟨by omega,by omega,by omega⟩,?_⟩⟩
 rw[WE]
 exact Dl db (by kernel_rfl) o hA hi (K:=fun sb sn sc h=>K (.slice sb sn sc) h) fun h' o' g' _=>hk h' o' g'
abbrev AU (w:Addr) (nm:Bs) (f:Int) (bl:aP) (bk:Int):List Value:=[.pointer (some w),S nm,.int .i64 f,.int .i64 bl.1,.int .u8 bl.2.1,S bl.2.2.1,.int .u8 bl.2.2.2,.int .i64 bk]
structure qn (h:H) (col:bY) (a w:Addr) (nm:Bs) (f:Int) (bl:aP) (bk:Int):Prop where
 v:Var h a 168 (AU w nm f bl bk)
 c:col a.block=some (4,0)
def PA (s:Nat):Prop:=PS s∨s=4
section
variable {Z:Nat->Prop} {h h':H} {K:KV} {col col':bY} {a w:Addr} {m:WM} {nm:Bs} {f bk:Int} {bl:aP}
theorem qn.ext (g:qn h col a w nm f bl bk) (e:al Z h col h' col') (hz:¬Z 4):qn h' col' a w nm f bl bk:=
 ⟨g.v.keep e.sk.w ⟨g.v.lt,fun s p hs e2=>by rw[g.c] at e2;cases e2;exact hz hs⟩,by rw[e.cl _ g.v.lt];exact g.c⟩
theorem qn.kb (g:qn h col a w nm f bl bk) (k:KB h h'):qn h' col a w nm f bl bk:=g.ext (Z:=fun _=>False) (.kb k) id
theorem qn.ps (g:qn h col a w nm f bl bk) (e:al PS h col h' col'):qn h' col' a w nm f bl bk:=g.ext e (by unfold PS;omega)
theorem al.pa (e:al PS h col h' col'):al PA h col h' col':=e.mono fun s hs=>.inl hs
theorem KQ (g:qn h col a w nm f bl bk) (p:PW h col w m) {i:Nat} {l:List Value} (hi:i+l.length<=8) {Q:H->Prop}
  (hk:∀h',Var h' a 168 (jq (AU w nm f bl bk) i l)->col a.block=some (4,0)->PW h' col w m->al PA h col h' col->KX a.block h h'->Q h'):bc (a.add i) l 0 h Q:=by
 refine cv (m:=i) (i:=0) g.v (by show i+0+l.length<=8;omega) fun h3 v3 k3 s3=>?_
 have E:al (fun s=>s=4) h col h3 col:=al.kx k3 g.c rfl
 exact hk h3 v3 g.c (p.ext E (by decide) (by decide) fun k hk=>p.fresh k (by omega)) (E.mono fun s hs=>.inr hs) k3
theorem gS (g:qn h col a w nm f bl bk) (p:PW h col w m) {id:Int} (hk:∀h',KB h h'->K (.int .i64 (gh m.op id)) h'):
  zC 222 [.pointer (some a),.int .i64 id] h K:=by
 obtain⟨t,cp,T,W⟩:=p.ex
 obtain⟨ob,oc,mb,mn,mc,v,o,om⟩:=W.ex
 refine Xac.ok _ _ _ _ (af fun a1 h1 v1 k1 e1 s1=>aa ⟨_,(g.v.kb k1).cell 0 rfl,aa ⟨_,_,_,(v.kb k1).cell 1 rfl,?_⟩⟩)
 refine dI (p:=fun x=>decide (x.1=id)) (o.kb k1).row (fun x h2 next hx k2 hR hn=>?_) fun h2 k2=>aO (hk h2 (k1.trans k2))
 have e:fQ Tryz.prog 4 (.func (.func 236) ⟨[]⟩ ⟨[.pointer (some a1)]⟩) ⟨[.agg ⟨[.int .i64 x.1,.int .u8 x.2.1,S x.2.2.1,.int .u8 x.2.2.2]⟩]⟩ h2 next=
   zC 236 [.agg ⟨[.int .i64 x.1,.int .u8 x.2.1,S x.2.2.1,.int .u8 x.2.2.2]⟩,.pointer (some a1)] h2 fun v h'=>au v fun b=>cond b (next (.bool true) h') (next (.bool false) h'):=by kernel_rfl
 rw[e]
 refine Xad.ok _ _ _ _ _ _ _ (af fun a8 h8 v8 k8 e8 _=>⟨_,v8.cell 0 rfl,_,((v1.kb k2).kb k8).dA rfl,?_⟩)
 have:=hn h8 k8
 refine bf (fun e=>?_) fun e=>?_
 ·rw[decide_eq_true e] at this;exact this
 ·rw[decide_eq_false e] at this;exact this
theorem H4 {k bk:Nat}:((ed bk k:Nat):Int)=if(k:Int)<(bk:Int) then(bk:Int) - 1 else(bk:Int):=by
 unfold ed
 split
 ·rw[if_pos (by omega)];omega
 ·rw[if_neg (by omega)]
theorem jG (g:qn h col a w nm f bl bk) (p:PW h col w m) {k b:Nat} (hb:bk=(b:Int)) (AO:b<=1000000) (dJ:k<m.aE.length) (jR:m.aE.length<=1000000)
  (hk:∀h' col',PW h' col' w (bX m k)->qn h' col' a w nm f bl (ed b k:Nat)->al PA h col h' col'->(∃b c,cell h' (w.add 2)=some (.slice b (m.aE.length - 1) c)/\m.aE.length<=c)->K (.tuple ⟨[]⟩) h'):
  zC 223 [.pointer (some a),.int .i64 (k:Int)] h K:=by
 subst hb
 obtain⟨t,cp,T,W⟩:=p.ex
 obtain⟨ob,oc,mb,mn,mc,v,o,om⟩:=W.ex
 have hlen:=om.len
 have hcap:=om.cap
 obtain⟨xs,he,hc,_⟩:=om.parts
 have e1:((k:Int)+(1:Int))=((k+1:Nat):Int):=rfl
 have fin:∀h1 b' c',KB h h1->bO aX (bT col h) h1 h.size 79 b' (mn - 1) c' (m.aE.eraseIdx k)->mn<=c'->bc (w.add 2) [.slice b' (mn - 1) c'] 0 h1 fun dx=>ae (some a) fun oF=>∃i16,cell dx (oF.add 7)=some (.int .i64 i16)/\(aM ((k:Int)<i16) (ae (some a) fun nE=>∃i18,cell dx (nE.add 7)=some (.int .i64 i18)/\(bd .i64 (i18 - (1:Int))/\(ae (some a) fun jh=>bc (jh.add 7) [(.int .i64 (i18 - (1:Int)))] 0 dx fun gm=>K (.tuple ⟨[]⟩) gm))) (K (.tuple ⟨[]⟩) dx)):=fun h1 b' c' k1 o1 B7=>by
  refine dY W p.fresh k1 o1 fun h2 W2 E2 f2 c2=>aa ?_
  have E2s:al PS h col h2 (cz col h b' (2,2)):=E2.mono fun s hs=>.inr hs
  have p2:PW h2 (cz col h b' (2,2)) w (bX m k):=⟨t,cp,T.cf (S:=fun k=>k=2) (by decide) E2 f2,W2⟩
  have g2:=g.ps E2s
  refine⟨_,g2.v.cell 7 rfl,bf (fun cR=>aa ⟨_,g2.v.cell 7 rfl,aF (by omega) (by omega),aa ?_⟩) fun Ew=>?_⟩
  ·have bL:a.block≠w.block:=fun e=>by have:=g2.c;rw[e,W2.col] at this;cases this
   refine KQ g2 p2 (i:=7) (by show 7+1<=8;omega) fun h3 v3 c3 p3 E3 k3=>hk h3 _ p3 ⟨?_,c3⟩ (E2s.pa.trans E3) ⟨b',c',?_,by omega⟩
   ·have hbk:=H4 (k:=k) (bk:=b)
    rw[if_pos cR] at hbk
    rw[hbk];exact v3
   ·rw[hlen]
    exact k3.w.cell (by rw[br];exact fun e=>bL e.symm) c2
  ·have hbk:=H4 (k:=k) (bk:=b)
   rw[if_neg Ew] at hbk
   refine hk h2 _ p2 ?_ E2s.pa ⟨b',c',by rw[hlen];exact c2,by omega⟩
   rw[hbk];exact g2
 have g7:∀{h7 df:H} {b':OA},KB h h7->dW h7 df b'->(∀q,b'=some q->h.size<=q.block)->KB h df:=fun k g lo=>g.yj k lo
 refine Xaj.ok _ _ _ _ ⟨?_,?_⟩
 ·refine aa (aa ⟨_,g.v.cell 0 rfl,aa ⟨_,_,_,v.cell 2 rfl,aF (by omega) (by omega),?_⟩⟩)
  refine fq (A:=bT col h) (fun k hk=>hk.2) he hc hlen hcap.1 om.nil (by omega) fun b' c' h7 o7 k7=>aH ⟨k7.ext,?_⟩
  rw[e1]
  refine rl o7 (fun k hk=>hk.2) (by omega) fun df Vs g10=>aH ?_
  have wK:=g7 k7 g10 o7.lo
  exact⟨_,(g.kb wK).v.cell 0 rfl,aa (fin df b' c' wK Vs o7.own.cap.1)⟩
 ·refine aa ⟨_,g.v.cell 0 rfl,aa ⟨_,g.v.cell 0 rfl,aa ⟨_,_,_,v.cell 2 rfl,aF (by omega) (by omega),?_⟩⟩⟩
  refine fq (A:=bT col h) (fun k hk=>hk.2) he hc hlen hcap.1 om.nil (by omega) fun b' c' h7 o7 k7=>aH ⟨k7.ext,?_⟩
  rw[e1]
  refine rl o7 (fun k hk=>hk.2) (by omega) fun df Vs g10=>aH ?_
  exact aa (fin df b' c' (g7 k7 g10 o7.lo) Vs o7.own.cap.1)
theorem AV (L:kS h col) (g:qn h col a w nm f bl bk) (p:PW h col w m) (eD:m.op.length<=1000000) (M9:∀x ∈ m.op,x.2.2.1.length<=1000000000) {i:Nat} (hi:i<m.op.length) (hk:∀h',KB h h'->K (.bool (eT (m.op.drop (i+1)))) h'):
  zC 224 [.pointer (some a),.int .i64 (i:Int)] h K:=by
 obtain⟨t,cp,T,W⟩:=p.ex
 obtain⟨ob,oc,mb,mn,mc,v,o,om⟩:=W.ex
 have hcap:=o.cap
 have ry:=hcap.2
 simp only[maxLen] at ry
 have e1:((i:Int)+(1:Int))=((i+1:Nat):Int):=rfl
 refine Xai.ok _ _ _ _ (aa ⟨_,g.v.cell 0 rfl,aa ⟨_,_,_,v.cell 1 rfl,aF (by omega) (by omega),⟨by omega,by omega,by omega⟩,?_⟩⟩)
 rw[e1]
 have r0:Row bo (rS h.size) h (if oc=i+1 then ob else Option.map (fun q=>q.add ((i+1)*4)) ob) (m.op.length - (i+1)) (oc - (i+1)) ((m.op.take m.op.length).drop (i+1)):=o.row.sub (lo:=i+1) (hi:=m.op.length) (by omega) (Nat.le_refl _) rfl
 rw[List.take_length] at r0
 have e2:Int.toNat (m.op.length:Int) - Int.toNat ((i+1:Nat):Int)=m.op.length - (i+1):=rfl
 have e3:oc - Int.toNat ((i+1:Nat):Int)=oc - (i+1):=rfl
 have e4:Int.toNat ((i+1:Nat):Int)=i+1:=rfl
 rw[e2,e3,e4]
 have vJ:=r0.len
 refine⟨m.op.length - (i+1)+1,?_⟩
 have key:∀N j h2,j+N=m.op.length - (i+1)->KB h h2->((m.op.drop (i+1)).take j).all oW=true->
   Xai.cQ (fun h=>K (.bool true) h) (fun h=>K (.bool true) h) (fun y4 h=>K (.bool y4) h) (N+1) (if oc=i+1 then ob else Option.map (fun q=>q.add ((i+1)*4)) ob) (m.op.length - (i+1)) (oc - (i+1)) ((m.op.length - (i+1):Nat):Int) (j:Int) h2:=by
  intro N
  induction N with
  | zero=>
   intro j h2 hj k2 bm
   refine cg (by omega) ?_
   have:=hk h2 k2
   rw[List.take_of_length_le (by omega)] at bm
   unfold eT at this
   rwa[bm] at this
  | succ N ih=>
   intro j h2 hj k2 bm
   have fU:j<(m.op.drop (i+1)).length:=by omega
   refine bK (by omega) ((r0.kb k2).bj (i:=j) fU rfl fun q hA=>cT hA fun ow=>af fun a6 h7 v6 k6 e6 s6=>aQ v6 (by show 4<=4;omega) fun h8 v8 k8 s8=>gY (m:=(m.op.drop (i+1))[j]) v8 ?_)
   have OZ:KB h2 h8:=KB.step k6 k8 (by omega)
   refine af fun oE dx mu gi Og RV=>af (cs:=CA.map S) fun oF gZ vd GX e15 Ex=>?_
   have hx:(m.op.drop (i+1))[j] ∈ m.op:=List.mem_of_mem_drop (List.getElem_mem fU)
   have Tu:gG (0,0,[42],0):=⟨⟨by decide,by decide⟩,⟨by decide,by decide⟩,by decide,⟨by decide,by decide⟩⟩
   have r2:Row bo (rS gZ.size) gZ (some oE) 2 2 [(0,0,[42],0),(m.op.drop (i+1))[j]]:=
    Row.of (xs:=aW (0,0,[42],0)++aW (m.op.drop (i+1))[j]) ⟨aW (0,0,[42],0),_,rfl,Tu.r,aW (m.op.drop (i+1))[j],[],by simp,ow.r,rfl⟩ (fun jj x hx=>⟨oE,rfl,(mu.kb GX).cell jj hx⟩) rfl (Nat.le_refl _) (by decide) fun x e=>by cases e;exact(mu.kb GX).lt
   have Fh:=(OZ.trans gi).trans GX
   refine nh (sc:=0) (L.ml.kb (k2.trans Fh)) (fun k hk=>hk) r2 (fun x Ey=>?_) (iM (ws:=CA) vd (by decide) (by decide)) fun gI RU=>ag (aR (fun hb=>⟨aF (by omega) (by omega),ih (j+1) gI (by omega) ((k2.trans Fh).trans RU) ?_⟩) fun hb=>?_)
   ·rcases List.mem_cons.1 Ey with e | e
    ·rw[e];decide
    ·rw[List.mem_singleton.1 e];have:=M9 _ hx;omega
   ·rw[List.take_add_one,List.getElem?_eq_getElem fU,List.all_append,bm]
    show(true&& [_].all oW)=true
    rw[List.all_cons,List.all_nil,Bool.and_true]
    exact hb
   ·have:=hk gI ((k2.trans Fh).trans RU)
    have dk:eT (m.op.drop (i+1))=false:=by
     unfold eT
     rw[Bool.eq_false_iff]
     intro hh
     have h2:=List.all_eq_true.1 hh _ (List.getElem_mem fU)
     have hb:oW (m.op.drop (i+1))[j]=false:=hb
     rw[hb] at h2;cases h2
    rwa[dk] at this
 exact key (m.op.length - (i+1)) 0 h (by omega) (KB.refl h) rfl
end
section
variable {h h':H} {K:KV} {col col':bY} {s ty:Nat} {a w t:Addr} {op:List aP} {mk:List aS} {fo:Bool} {hi:Int} {m:WM} {nm:Bs} {ns:List ay} {cp:List Addr}
theorem uA (W:bq h col s ty w t op mk fo hi) (f:bh h col) {a:Addr} {n c:Nat} (hc:cell h (w.add 1)=some (.slice (some a) n c)) {i:Nat} (Ay:i<op.length) {id:Int} (hid:bd .i64 id) {Q:H->Prop}
  (hk:∀h',bq h' col s ty w t (op.set i (id,op[i].2)) mk fo hi->al (fun k=>k=s) h col h' col->bh h' col->(∀k,col k≠some (s,1)->h'[k]? =h[k]?)->Q h'):bc ((a.add (i*4)).add 0) [.int .i64 id] 0 h Q:=by
 obtain⟨ob,oc,mb,mn,mc,v,o,om⟩:=W.ex
 have e1:some (Value.slice (some a) n c)=some (.slice ob op.length oc):=hc.symm.trans (v.cell 1 rfl)
 cases e1
 obtain⟨xs,ow,en⟩:=o.own.own
 rcases ow.is with ⟨h0,_⟩ | ⟨g,cur,ea,ym,hg,hcs,pP⟩
 ·omega
 cases ea
 have JJ:g<h.size:=(Array.getElem?_eq_some_iff.1 hg).1
 have wO:xs.length=op.length*4:=ow.len
 have hcs:cur.size=c*4:=hcs
 have pP:cur.toList.take (op.length*4)=xs:=pP
 have hcap:=ow.cap
 have ha:((((⟨g,0,none⟩:Addr).add (i*4)).add 0).add 0)=⟨g,i*4,none⟩:=by rw[add_zero',add_zero',IK]
 have Lv:i*4<cur.size:=by omega
 unfold bc
 rw[ha]
 refine⟨⟨cur[i*4],by unfold cell;simp only[hg];simp[Lv]⟩,by unfold FJ;simp only[hg];simp,?_⟩
 show Q (eE h ⟨g,i*4,none⟩ (.int .i64 id))
 have jF:eE h ⟨g,i*4,none⟩ (.int .i64 id)=h.setIfInBounds g (.cells (cur.setIfInBounds (i*4) (.int .i64 id)) 77 (0,0)):=by
  unfold eE
  apply Array.ext_getElem?
  intro k
  rw[Array.getElem?_modify,Array.getElem?_setIfInBounds]
  by_cases hk:g=k
  ·subst hk
   rw[if_pos rfl,if_pos rfl,if_pos JJ,hg];rfl
  ·rw[if_neg hk,if_neg hk]
 have Gc:=o.col _ rfl
 have Gc:col g=some (s,1):=Gc
 have hold:∀k,k≠g->(eE h ⟨g,i*4,none⟩ (.int .i64 id))[k]? =h[k]? :=fun k hk=>by rw[jF,Array.getElem?_setIfInBounds,if_neg (fun e=>hk e.symm)]
 have kx:KX g h (eE h ⟨g,i*4,none⟩ (.int .i64 id)):=⟨by rw[jF];simp,hold⟩
 have hs:(eE h ⟨g,i*4,none⟩ (.int .i64 id)).size=h.size:=by rw[jF];simp
 have hwg:w.block≠g:=fun e=>by have:=W.col;rw[e,Gc] at this;cases this
 have v':Var (eE h ⟨g,i*4,none⟩ (.int .i64 id)) w ty [.pointer (some t),.slice (some ⟨g,0,none⟩) op.length c,.slice mb mn mc,.bool fo,.int .i64 hi]:=v.keep kx.w hwg
 have om':=om.keep (h':=eE h ⟨g,i*4,none⟩ (.int .i64 id)) (col':=col) kx.w (fun _ _=>rfl) fun k hk h2 e=>by
  subst e
  rcases h2 with h2 | h2
  ·rw[Gc] at h2;cases h2
  ·rw[Gc] at h2;cases h2
 have hx:op[i]? =some op[i]:=List.getElem?_eq_getElem Ay
 have en2:eH bo (bT col h) h (op.set i (id,op[i].2)) (xs.set (i*4+0) (.int .i64 id)):=eH.set en hx (by decide) fun cs hR=>by
  obtain⟨c1,c2,e,h1,h2⟩:=hR
  rw[h1.1] at e
  subst e
  exact⟨[.int .i64 id],c2,rfl,⟨rfl,hid⟩,h2⟩
 have hl:(op.set i (id,op[i].2)).length=op.length:=List.length_set ..
 refine hk _ ⟨⟨some ⟨g,0,none⟩,c,mb,mn,mc,by rw[hl];exact v',⟨⟨by rw[hl],xs.set (i*4+0) (.int .i64 id),⟨by rw[List.length_set,hl];exact ow.len,by rw[hl];exact ow.cap,ow.max,.inr ⟨g,cur.setIfInBounds (i*4) (.int .i64 id),rfl,ym,?_,?_,?_⟩⟩,eH.flat ko en2⟩,o.col,fun q e=>by rw[hs];exact o.hi q e,o.nil⟩,om'⟩,W.col,W.rh⟩
  (al.kx kx Gc rfl) (fun k hk=>f k (by rw[<-hs];exact hk)) fun k hk=>hold k fun e=>hk (by rw[e];exact Gc)
 ·rw[jF,Array.getElem?_setIfInBounds,if_pos rfl,if_pos JJ]
 ·rw[Array.size_setIfInBounds];exact hcs
 ·show(cur.setIfInBounds (i*4) (.int .i64 id)).toList.take ((op.set i (id,op[i].2)).length*4)=_
  rw[hl,Array.toList_setIfInBounds,xd,pP];rfl
theorem bq.kw (W:bq h col s ty w t op mk fo hi) (k:KW h h'):bq h' col s ty w t op mk fo hi:=by
 obtain⟨ob,oc,mb,mn,mc,v,o,om⟩:=W.ex
 exact⟨⟨ob,oc,mb,mn,mc,v.kw k,o.keep k (fun _ _=>rfl) fun k hk _=>hk,om.keep k (fun _ _=>rfl) fun k hk _=>hk⟩,W.col,W.rh⟩
theorem PW.kw (p:PW h col w m) (k:KW h h') (f:bh h' col):PW h' col w m:=by
 obtain⟨t,cp,T,W⟩:=p.ex
 exact⟨t,cp,T.keep k (fun _ _=>rfl) f fun k hk _=>hk,W.kw k⟩
theorem G3 (T:bz h col 0 t cp ns) (W:bq h col 2 ty w t op mk fo hi) (lI:ns.length<1000000) {id:Int} (hk:∀h' col' pc,bz h' col' 0 t pc (bg ns id).1->bq h' col' 2 ty w t op mk fo hi->al PS h col h' col'->K (.int .i64 (bg ns id).2) h'):
  zC 238 [.pointer (some t),.int .i64 id] h K:=
 Fs T lI fun h' c' pc T' E'=>hk h' c' pc T' (W.ext (S:=fun s=>s=0) (E'.p rfl) (by decide)) (E'.p (.inl rfl))
theorem Fp (T:bz h col 0 t cp ns) (W:bq h col 2 ty w t op mk fo hi) (G:aV ns) {q b i:Int} (hk:∀h' col',bz h' col' 0 t cp (cV ns q b i).1->bq h' col' 2 ty w t op mk fo hi->al PS h col h' col'->K (.bool (cV ns q b i).2) h'):
  zC 65 [.pointer (some t),.int .i64 q,.int .i64 b,.int .i64 i] h K:=
 pM T G fun h' c' T' E'=>hk h' c' T' (W.ext (S:=fun s=>s=0) (E'.p rfl) (by decide)) (E'.p (.inl rfl))
theorem O4 (T:bz h col 0 t cp ns) (W:bq h col 2 ty w t op mk fo hi) (G:aV ns) {f d:Int} (hk:∀h' col',bz h' col' 0 t cp (dn ns f d).1->bq h' col' 2 ty w t op mk fo hi->al PS h col h' col'->K (.bool (dn ns f d).2) h'):
  zC 239 [.pointer (some t),.int .i64 f,.int .i64 d] h K:=
 Fv T G fun h' c' T' E'=>hk h' c' T' (W.ext (S:=fun s=>s=0) (E'.p rfl) (by decide)) (E'.p (.inl rfl))
theorem al.leave {S:Nat->Prop} {D:Nat} (e:al S h col h' col') (hD:h.size<=D):al S h col (h'.setIfInBounds D (.deferred none)) col':=
 ⟨e.sk.trans ⟨by simp,fun k hk=>by have:k<h.size:=hk.1;rw[Array.getElem?_setIfInBounds_ne (by omega)]⟩,e.cl⟩
theorem qP (L:kS h col) (p:PW h col w m) (eD:m.op.length<=1000000) (M9:∀x ∈ m.op,x.2.2.1.length<=1000000000) (hk:∀h' col',PW h' col' w (fk m nm)->al PS h col h' col'->K (.tuple ⟨[]⟩) h'):
  zC 101 [.pointer (some w),S nm] h K:=by
 obtain⟨t,cp,T,W⟩:=p.ex
 obtain⟨ob,oc,mb,mn,mc,v,o,om⟩:=W.ex
 refine Xaa.ok _ _ _ _ (af fun a1 h1 v1 k1 e1 s1=>af fun a2 h2 v2 k2 e2 s2=>⟨_,(v1.kb k2).dA rfl,aa ⟨_,_,_,(v.kb (k1.trans k2)).cell 1 rfl,?_⟩⟩)
 refine Xfv.ok _ _ _ _ _ (af fun a h4 va k4 e4 s4=>?_)
 have jH:=(k1.trans k2).trans k4
 have qO:=(v1.kb k2).kb k4
 have v24:=v2.kb k4
 have o4:=o.kb jH
 have p4:=p.kb jH
 have r4:=o4.agD
 have hD:h.size<=h4.size:=jH.1
 obtain⟨res,ke⟩:∃r,En m.op nm m.op.length=r:=⟨_,rfl⟩
 have fin:∀h' col',PW h' col' w (fk m nm)->al PS h col h' col'->dp h4.size h'->dE [cu h4.size] h' fun h=>K (.tuple ⟨[]⟩) h:=fun h' col' p' E' hd=>by
  refine⟨hd,hk _ _ (p'.kw ((KW.refl h').leave hd) fun k hk=>p'.fresh k (by simpa using hk)) (E'.leave hD)⟩
 have Ju:res=0->∀h',KB h4 h'->dp h4.size h'->dE [cu h4.size] h' fun h=>K (.tuple ⟨[]⟩) h:=fun e h' k' hd=>by
  have e2:fk m nm=m:=by unfold fk cZ gW;rw[ke,e,if_neg (by omega)]
  exact fin h' col (by rw[e2];exact p4.kb k') (.kb (jH.trans k')) hd
 have hRd:∀k,((bT col h4 k∨(col k=some (2,1)/\k<h4.size))/\k≠a.block/\k≠a1.block/\k≠a2.block)->k<h4.size:=fun k hk=>by
  rcases hk.1 with h | h
  ·exact h.2
  ·exact h.2
 refine⟨_,vf,_,uR r4 va,rM m.op,jW (fun xs h'=>KB h4 h'/\∃i,i<=m.op.length/\xs=lT m.op i/\En m.op nm i=res) (fun xs h' lM ⟨k,i,hi,hb,e⟩ n=>⟨k.nz n (Nat.le_succ _),i,hi,hb,e⟩) ?_ ?_ _ h4 ⟨KB.refl _,m.op.length,Nat.le_refl _,rfl,ke⟩⟩
 ·rintro x xs h3 Kc ⟨k3,i,hi,e,hs⟩ Lp
  cases i with
  | zero=>cases e
  | succ i=>
   have bQ:i<m.op.length:=by omega
   unfold lT at e
   rw[aJ bQ] at e
   cases e
   unfold En at hs
   have hgd:m.op.getD i aI=m.op[i]:=aJ bQ
   rw[hgd] at hs
   have cR:∀k,(bT col h4 k∨(col k=some (2,1)/\k<h4.size))∨k=a.block->k<h4.size:=fun k hk=>by
    rcases hk with (h | h) | h
    ·exact h.2
    ·exact h.2
    ·rw[h];exact va.lt
   refine BS (kK k3 cR (Nat.le_refl _) fun ax hb kb vb=>?_)
   have stop:res=0->∀h',KB hb h'->(fun hb h' p=>tC (fun k=>(bT col h4 k∨(col k=some (2,1)/\k<h4.size))∨k=a.block) hb h'/\∀WG,jV vf (h4.size+1) h' WG->dp h4.size WG->p WG) hb h' fun uW=>dE [cu h4.size] uW fun h=>K (.tuple ⟨[]⟩) h:=fun e h' k'=>
    ⟨k'.kp,fun h8 n8 hd=>Ju e h8 ((kb.trans k').nz n8 (Nat.le_succ _)) hd⟩
   refine bf (fun e0=>stop ?_ hb (KB.refl _)) fun e0=>⟨_,vb.cell 1 rfl,?_⟩
   ·have e0:i=0:=by omega
    rw[if_pos e0] at hs;exact hs.symm
   rw[if_neg (by omega)] at hs
   have spec:uv m.op[i] nm=false->∃i43,cell hb (ax.add 1)=some (.int .u8 i43)/\(∃s44,cell hb (ax.add 2)=some (S s44)/\(zC 162 [(.int .u8 i43),(S s44)] hb fun v45 QZ=>au v45 fun b47=>cond b47 ((fun hb h' p=>tC (fun k=>(bT col h4 k∨(col k=some (2,1)/\k<h4.size))∨k=a.block) hb h'/\∀WG,jV vf (h4.size+1) h' WG->dp h4.size WG->p WG) hb QZ fun DT=>dE [cu h4.size] DT fun h=>K (.tuple ⟨[]⟩) h) (Kc hb QZ))):=fun en=>by
    rw[en] at hs
    refine⟨_,vb.cell 1 rfl,_,vb.cell 2 rfl,fJ (L.ml.kb (jH.trans kb)) (by have:=M9 _ (List.getElem_mem bQ);omega) (ag (aR (fun eb=>stop ?_ hb (KB.refl _)) fun eb=>?_))⟩
    ·have eb:fi m.op[i]=true:=eb
     rw[if_neg (by simp),if_pos eb] at hs;exact hs.symm
    ·have eb:fi m.op[i]=false:=eb
     rw[if_neg (by simp),if_neg (by rw[eb];simp)] at hs
     exact Lp hb hb (KB.refl hb).kp ⟨kb,i,by omega,rfl,hs⟩
   have hmy:∀b:Bool,uv m.op[i] nm=b->(decide (m.op[i].2.1=0)&&decide (m.op[i].2.2.1=nm))=b:=fun b h=>h
   refine bf (fun ez=>⟨_,vb.cell 2 rfl,_,(v24.kb kb).dA rfl,bf (fun en=>?_) fun en=>spec ?_⟩) fun ez=>spec ?_
   ·-- found
    have hN:uv m.op[i] nm=true:=by unfold uv;rw[decide_eq_true ez,decide_eq_true en];rfl
    rw[hN,if_pos rfl] at hs
    have hcl:fk m nm=cZ m (i:Int):=by unfold fk;rw[ke,<-hs]
    have pb:=p4.kb kb
    obtain⟨tb,aj4,Tb,Wb⟩:=pb.ex
    obtain⟨X8,X9,Ya,Yb,Yc,vb2,o2,om2⟩:=Wb.ex
    have hcap:=o2.own.cap
    refine⟨_,(qO.kb kb).dA rfl,Xc8.ok _ _ _ _ (bf (fun q1=>aa ⟨_,_,_,vb2.cell 1 rfl,bf (fun q2=>aD (aa ⟨_,_,_,vb2.cell 1 rfl,⟨by omega,by omega,by omega⟩,aa (Gl Wb pb.fresh q1 q2 vb2 fun h5 W5 E5 f5 k5=>?_)⟩)) fun q2=>absurd (by omega) q2⟩) fun q1=>absurd (by omega) q1)⟩
    have hnr:¬((bT col h4 w.block∨(col w.block=some (2,1)/\w.block<h4.size))∨w.block=a.block):=fun hh=>by
     have hwc:=W.col
     rcases hh with (hh | hh) | hh
     ·rw[hh.1] at hwc;cases hwc
     ·rw[hh.1] at hwc;cases hwc
     ·have:=v.lt;have:=k1.1;have:=k2.1;have:a.block=h2.size:=e4;omega
    have kp5:tC (fun k=>(bT col h4 k∨(col k=some (2,1)/\k<h4.size))∨k=a.block) hb h5:=KX.kp vb2 k5 hnr
    refine⟨kp5,fun h8 n8 hd=>?_⟩
    have p5:PW h5 col w (cZ m (i:Int)):=⟨tb,aj4,Tb.cf (S:=fun k=>k=2) (by decide) E5 f5,W5⟩
    have Ko:al PS h col h5 col:=(al.kb (jH.trans kb)).trans (E5.mono fun s hs=>.inr hs)
    refine fin h8 col ?_ ⟨?_,fun _ _=>rfl⟩ hd
    ·rw[hcl];exact p5.kw n8.kw fun k hk=>f5 k (Nat.le_trans n8.1 hk)
    ·refine⟨Nat.le_trans Ko.sk.1 n8.1,fun k hk=>?_⟩
     have EB:k<h.size:=hk.1
     have h5k:=Ko.sk.2 k hk
     cases hq:h5[k]? with
     | none=>have:=Array.getElem?_eq_none_iff.1 hq;have:=Ko.sk.1;omega
     | some Xu=>
      rw[<-h5k,hq]
      exact n8.2 k Xu hq (fun x=>x) fun e=>by omega
   ·unfold uv;rw[decide_eq_true ez,decide_eq_false en];rfl
   ·unfold uv;rw[decide_eq_false ez];rfl
 ·rintro h3 ⟨k3,i,hi,e,hs⟩ hd
  cases i with
  | succ i=>cases e
  | zero=>exact Ju hs.symm h3 k3 hd
end
theorem o0 {h:H} {a:Addr} {t:Nat} {cs:List Value} (v:Var h a t cs) (i j:Nat) {x:Value} (hx:cs[i+j]? =some x):cell h ((a.add i).add j)=some x:=by rw[add_add];exact v.cell (i+j) hx
section
variable {h h':H} {K:KV} {col col':bY} {a w:Addr} {m:WM} {nm:Bs} {f:Int} {bl:aP} {u v x j b:Nat} {last:Int}
theorem qn.free (g:qn h col a w nm f bl b) {k:Nat} (hk:col k=none):k≠a.block:=fun e=>by have:=g.c;rw[<-e,hk] at this;cases this
theorem sy {α:Type} {E:El α} {A:Nat->Prop} {b:OA} {n c:Nat} {l:List α} (r:Row E A h b n c l) {i:Nat} (hi:i<l.length):∃q,b=some q:=by
 obtain⟨q,e,_⟩:=r.gE i _ (List.getElem?_eq_getElem hi)
 exact⟨q,e⟩
theorem rR {KE:GF.T3} {Kr:GF.T0} {R:WM × Int × Nat} {h0:H} {mi:bY} (L:kS h0 mi)
  (hE:∀h' col',PW h' col' w R.1->qn h' col' a w nm f bl (R.2.2:Nat)->al PA h0 mi h' col'->KE R.2.1 h'):∀(q n:Nat) {m:WM} {u v x b:Nat} {last:Int} {h:H} {col:bY},qn h col a w nm f bl (b:Nat)->PW h col w m->CI m u v x f j b q->
   u+(3 - n)<=900000->v<=900000->n+q<=1000000->dN bl.1 f q n m last b=R->al PA h0 mi h col->GF.gz KE KE Kr q (some a) (q:Int) last (n:Int) h
 | 0,n,m,u,v,x,b,last,h,col,g,p,C,hu,hv,hn,hR,E0=>absurd C.hj (by omega)
 | q+1,n,m,u,v,x,b,last,h,col,g,p,C,hu,hv,hn,hR,E0=>by
  obtain⟨t,cp,T,W⟩:=p.ex
  obtain⟨ob,oc,mb,mn,mc,vw,o,om⟩:=W.ex
  have hq:q<m.op.length:=by have:=C.hq;omega
  have jQ:=C.A.D.lo
  have qF:=C.A.D.ln
  have jR:=C.A.D.ml
  have hb:=C.hb
  have Fe:(((q+1:Nat):Int)) - 1=(q:Int):=by omega
  have eg:m.op.getD q aI=m.op[q]:=aJ hq
  unfold dN at hR
  simp only[] at hR
  rw[eg] at hR
  unfold GF.gz LP GF.iq
  refine⟨aF (by omega) (by omega),?_⟩
  show GF.Ar (some a) (((q+1:Nat):Int) - (1:Int)) last (n:Int) _ _ _ _ h
  rw[Fe]
  refine⟨aF (by omega) (by omega),?_⟩
  refine aa ⟨_,g.v.cell 0 rfl,aa ⟨_,_,_,vw.cell 1 rfl,o.row.bj (i:=q) hq rfl fun qa hA=>cT hA fun ow=>af fun ax h1 RZ k1 e1 s1=>aQ RZ (by show 4<=4;omega) fun h2 vx k2 s2=>?_⟩⟩
  have gy:KB h h2:=KB.step k1 k2 (by omega)
  have cax:col ax.block=none:=p.fresh _ (by omega)
  have vx:Var h2 ax 77 (aW m.op[q]):=vx
  have p2:=p.kb gy
  have g2:=g.kb gy
  refine⟨_,vx.cell 0 rfl,aa ⟨_,g2.v.cell 2 rfl,bf (fun ef=>?_) fun ef=>?_⟩⟩
  ·rw[if_pos ef] at hR
   subst hR
   exact hE h2 col p2 g2 (E0.trans (.kb gy))
  rw[if_neg ef] at hR
  have TJ:(m.op.getD q aI).1≠f:=by rw[eg];exact ef
  have v2:=vw.kb gy
  refine aa ⟨_,g2.v.cell 0 rfl,aa ⟨_,_,_,v2.cell 2 rfl,_,vx.cell 0 rfl,rC (om.kb gy).row fun h3 k3=>aO ?_⟩⟩
  have rq:=gy.trans k3
  have p3:=p.kb rq
  have g3:=g.kb rq
  have vx3:=vx.kb k3
  have mT:al PA h0 mi h3 col:=E0.trans (.kb rq)
  have CM:∀(m2:WM) (b2:Nat) h4 fL i,i<0->PW h4 fL w m2->qn h4 fL a w nm f bl (b2:Nat)->al PA h3 col h4 fL->CI m2 u v x f j b2 (q+1)->m2.op=m.op->dN bl.1 f q (n+1) (gr m2 m.op[q].1) last b2=R->
    GF.n16 (some a) (q:Int) last ((n:Int)+1) ax i (GF.gz KE KE Kr q) (GF.gz KE KE Kr q) KE Kr h4:=fun m2 b2 h4 fL i hi p4 g4 E4 C2 ho YC=>by
   have vx4:Var h4 ax 77 (aW m.op[q]):=vx3.keep E4.eR ⟨cax,vx3.lt⟩
   have aek:=C2.A.D.lo
   refine bK hi (aa ⟨_,g4.v.cell 0 rfl,_,vx4.cell 0 rfl,lq p4 (by omega) fun h5 rz p5 E5 _=>?_⟩)
   have Xz:m2.op.getD q aI=m.op[q]:=by rw[ho];exact eg
   have C3:=C2.uz (by rw[Xz];exact ef)
   rw[Xz] at C3
   exact rR L hE q (n+1) (g4.ps E5) p5 C3 (by omega) hv (by omega) YC ((mT.trans E4).trans E5.pa)
  by_cases hk:0<=bp m.aE m.op[q].1
  ·obtain⟨_,dJ,Xs⟩:=gj hk
   obtain⟨k,ek⟩:=Int.eq_ofNat_of_zero_le hk
   have wv:(bp m.aE m.op[q].1).toNat=k:=by rw[ek];rfl
   rw[wv] at dJ hR
   rw[ek]
   have AN:0<=bp m.aE (m.op.getD q aI).1:=by rw[eg];exact hk
   by_cases YD:n<3
   ·-- it is copied
    rw[if_pos ⟨hk,YD⟩] at hR
    refine bK (by omega) (cg (by omega) (cg (by omega) ?_))
    obtain⟨t3,ads3,T3,W3⟩:=p3.ex
    obtain⟨ob3,oc3,mb3,mn3,mc3,OQ,o3,Az⟩:=W3.ex
    refine aa ⟨_,g3.v.cell 0 rfl,aa ⟨_,OQ.cell 0 rfl,_,vx3.cell 0 rfl,G3 T3 W3 (by omega) fun h4 fL su T4 W4 E4=>aO ?_⟩⟩
    obtain⟨A1,ec,hcl,_⟩:=C.A.copy (List.getElem_mem hq) (C.A.OO hq (C.pos TJ))
    obtain⟨c,hc⟩:∃c,(bg m.ns m.op[q].1).2=c:=⟨_,rfl⟩
    rw[hc] at ec hR ⊢
    have YE:bd .i64 c:=by rw[ec];exact aF (by omega) (by omega)
    have g4:=g3.ps E4
    have f4:bh h4 fL:=T4.fresh
    obtain⟨OS,OT,Th,Ks,Kt,yE,o4,Ti⟩:=W4.ex
    obtain⟨qo,rfl⟩:=sy o4.row hq
    obtain⟨qm,rfl⟩:=sy Ti.row dJ
    have ael:=Ti.len
    refine aa ⟨_,g4.v.cell 0 rfl,aa ⟨_,_,_,yE.cell 1 rfl,aa ⟨_,g4.v.cell 0 rfl,aa ⟨_,_,_,yE.cell 2 rfl,⟨by omega,by omega⟩,aa ?_⟩⟩⟩⟩
    refine uA W4 f4 (yE.cell 1 rfl) (i:=q) hq YE fun h5 W5 E5 f5 KK=>⟨⟨by omega,by omega⟩,aa ?_⟩
    have c5:cell h5 (w.add 2)=some (.slice (some qm) Ks Kt):=by
     have hw:h5[w.block]? =h4[w.block]? :=KK _ (by rw[W4.col];intro e;cases e)
     have:=yE.cell 2 (x:=.slice (some qm) Ks Kt) rfl
     unfold cell at this ⊢
     rw[br] at this ⊢
     rw[hw];exact this
    rw[show Int.toNat (k:Int)=k from rfl]
    refine oZ W5 f5 c5 (i:=k) dJ YE fun h6 W6 E6 f6 c6=>?_
    have YF:al PS h4 fL h6 fL:=(E5.mono fun s hs=>.inr hs).trans (E6.mono fun s hs=>.inr hs)
    have T6:=(T4.cf (S:=fun k=>k=2) (by decide) E5 f5).cf (S:=fun k=>k=2) (by decide) E6 f6
    have g6:=g4.ps YF
    have p6:PW h6 fL w {m with ns:=(bg m.ns m.op[q].1).1,op:=m.op.set q (c,m.op[q].2),aE:=m.aE.set k (c,m.aE[k].2)}:=⟨t3,su,T6,W6⟩
    have Ax:al PA h0 mi h6 fL:=(mT.trans E4.pa).trans YF.pa
    have tG:m.aE.getD k noMark=m.aE[k]:=aJ dJ
    have KL:∀(b2:Nat) h7,qn h7 fL a w nm f bl (b2:Nat)->PW h7 fL w {m with ns:=(bg m.ns m.op[q].1).1,op:=m.op.set q (c,m.op[q].2),aE:=m.aE.set k (c,m.aE[k].2)}->al PA h6 fL h7 fL->b2=(if last=bl.1 then k+1 else b)->
      GF.n20 (some a) (q:Int) last ((n:Int)+1) c (GF.gz KE KE Kr q) (GF.gz KE KE Kr q) KE Kr h7:=fun b2 h7 g7 p7 E7 AO=>by
     obtain⟨t7,aj6,T7,W7⟩:=p7.ex
     obtain⟨_,_,_,_,_,vw7,_,_⟩:=W7.ex
     refine aa ⟨_,g7.v.cell 0 rfl,aa ⟨_,vw7.cell 0 rfl,Fp T7 W7 A1.D.G fun h8 YG T8 W8 E8=>ag ?_⟩⟩
     have C2:=C.copy TJ AN last (b':=b2) (by rw[eg,wv,AO];split;exact .inl rfl;exact .inr rfl)
     simp only[eg,wv,hc,tG] at C2
     simp only[tG] at hR
     have:=rR (Kr:=Kr) L hE q (n+1) (g7.ps E8) (m:={m with ns:=(cV (bg m.ns m.op[q].1).1 c (-1) last).1,op:=m.op.set q (c,m.op[q].2),aE:=m.aE.set k (c,m.aE[k].2)}) (last:=c) ⟨t7,aj6,T8,W8⟩ C2 (by omega) hv (by omega) (by rw[AO];exact hR) ((Ax.trans E7).trans E8.pa)
     exact dm (K:=fun _=>GF.gz KE KE Kr q (some a) (q:Int) c ((n+1:Nat):Int) h8) this
    refine aa ⟨_,o0 g6.v 3 0 rfl,bf (fun el=>⟨aF (by omega) (by omega),aa ?_⟩) fun el=>KL b h6 g6 p6 (.refl _ _ _) (by rw[if_neg el])⟩
    refine KQ g6 p6 (i:=7) (by show 7+1<=8;omega) fun h7 v7 c7 p7 E7 _=>KL (k+1) h7 ⟨v7,c7⟩ p7 E7 (by rw[if_pos el])
   ·-- it is no more
    rw[if_neg (fun h=>YD h.2),if_pos hk] at hR
    refine bK (by omega) (bK (by omega) ?_)
    refine jG g3 p3 rfl (by omega) dJ (by omega) fun h4 fL p4 g4 E4 _=>?_
    have C2:=C.bX TJ AN
    rw[eg,wv] at C2
    exact CM (bX m k) (ed b k) h4 fL (-1) (by decide) p4 g4 E4 C2 rfl hR
  ·rw[if_neg (fun h=>hk h.1),if_neg hk] at hR
   exact cg (by omega) (CM m b h3 col _ (by omega) p3 g3 (.refl _ _ _) C rfl hR)
theorem CS (L:kS h col) (g:qn h col a w nm f bl (b:Nat)) (p:PW h col w m) {n:Nat} (C:CI m u v x f j b n) (hu:u+3<=900000) (hv:v<=900000)
  (hk:∀h' col',PW h' col' w (dN bl.1 f n 0 m bl.1 b).1->qn h' col' a w nm f bl ((dN bl.1 f n 0 m bl.1 b).2.2:Nat)->al PA h col h' col'->K (.int .i64 (dN bl.1 f n 0 m bl.1 b).2.1) h'):
  zC 226 [.pointer (some a),.int .i64 (n:Int)] h K:=by
 have hq:=C.hq
 have jQ:=C.A.D.lo
 refine GF.ok _ _ _ _ (aa ⟨_,o0 g.v 3 0 rfl,n,?_⟩)
 exact rR L (fun h' col' p' g' E'=>hk h' col' p' g' E') n 0 g p C hu hv (by omega) rfl (.refl _ _ _)
end
end Go.Proofs
