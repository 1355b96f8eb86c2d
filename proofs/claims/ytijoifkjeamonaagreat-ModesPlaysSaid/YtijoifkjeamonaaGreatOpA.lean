import Derived.Test.YtijoifkjeamonaaGreatHc
import Derived.Test.YtijoifkjeamonaaGreatDoE
import Derived.Test.YtijoifkjeamonaaGreatShD
import Derived.Lib.IndexMore
import Derived.Lib.IndexLaws
namespace Go.Proofs
open Go Go.Sh
set_option linter.unusedVariables false
theorem sL {ns:List ay} {i p:Nat} {x y:ay} (hi:i<ns.length) (hp:p<ns.length) (j:Nat):((ns.set p y).set i x)[j]? =if j=i then some x else if j=p then some y else ns[j]? :=by
 by_cases e:j=i
 ·rw[if_pos e,e,List.getElem?_set_self (by rw[List.length_set];exact hi)]
 ·rw[if_neg e,List.getElem?_set_ne (fun h=>e h.symm)]
  by_cases e2:j=p
  ·rw[if_pos e2,e2,List.getElem?_set_self hp]
  ·rw[if_neg e2,List.getElem?_set_ne (fun h=>e2 h.symm)]
theorem qX {l:List Int} (hn:l.Nodup) {i:Int} (hi:i ∈ l) (k:Int):k ∈ l.eraseIdx (bn i l)↔k ∈ l/\k≠i:=by
 have hg:=wY hi
 have cP:=qg hi
 rw[List.mem_eraseIdx_iff_getElem?]
 constructor
 ·rintro⟨m,hm,hk⟩
  refine⟨List.mem_of_getElem? hk,fun e=>hm ?_⟩
  subst e
  have h1:=(List.getElem?_eq_some_iff.1 hk).1
  have h2:=(List.getElem?_eq_some_iff.1 hg)
  have h3:=(List.getElem?_eq_some_iff.1 hk)
  exact(List.getElem_inj hn).1 (h3.2.trans h2.2.symm)
 ·rintro⟨hk,bI⟩
  obtain⟨m,hm,e⟩:=List.getElem_of_mem hk
  refine⟨m,fun e2=>bI ?_,by rw[List.getElem?_eq_getElem hm,e]⟩
  subst e2
  rw[List.getElem?_eq_getElem hm,e] at hg
  exact Option.some.inj hg
theorem wZ:∀(N:Nat) (l:List Int),l.Nodup->(∀x ∈ l,0<=x/\x<(N:Int))->l.length<=N
 | 0,l,hn,h=>by
  cases l with
  | nil=>exact Nat.le_refl _
  | cons x l=>have:=h x (List.mem_cons_self ..);omega
 | N+1,l,hn,h=>by
  by_cases hm:(N:Int) ∈ l
  ·have h1:=wZ N (l.erase (N:Int)) (hn.erase _) fun x hx=>by
    have h2:=(List.Nodup.mem_erase_iff hn).1 hx
    have:=h x h2.2
    have h3:=h2.1
    omega
   rw[List.length_erase_of_mem hm] at h1
   omega
  ·have h1:=wZ N l hn fun x hx=>by
    have:=h x hx
    have h3:x≠(N:Int):=fun e=>hm (e▸hx)
    omega
   omega
theorem aV.nh {ns:List ay} (G:aV ns) {i:Nat} {x:ay} (hx:ns[i]? =some x):x.kids.length<=ns.length:=
 wZ _ _ (G.nodup i x hx) fun k hk=>by
  obtain⟨j,y,rfl,hy,_⟩:=(G.lq i x k hx).1 hk
  have:=dv hy
  omega
theorem aV.cut {ns:List ay} (G:aV ns) {i p:Nat} {x y:ay} (hx:ns[i]? =some x) (hp:x.parent=(p:Int)) (hy:ns[p]? =some y):aV (cutAt ns i x p y):=by
 have hi:=dv hx
 have qB:=dv hy
 have bI:=G.tW hx hp
 have je:(i:Int) ∈ y.kids:=(G.lq p y _ hy).2 ⟨i,x,rfl,hx,hp⟩
 have gs:=fun j=>sL (ns:=ns) (x:={x with parent:= -1}) (y:={y with kids:=y.kids.eraseIdx (bn (i:Int) y.kids)}) hi qB j
 have hlen:(cutAt ns i x p y).length=ns.length:=by unfold cutAt;simp
 have par':∀(j:Nat) z,(cutAt ns i x p y)[j]? =some z->(j=i/\z.parent= -1)∨(j≠i/\∃w,ns[j]? =some w/\w.parent=z.parent):=by
  intro j z hz
  unfold cutAt at hz
  rw[gs] at hz
  by_cases e:j=i
  ·rw[if_pos e] at hz;cases hz;exact .inl ⟨e,rfl⟩
  ·rw[if_neg e] at hz
   by_cases e2:j=p
   ·rw[if_pos e2] at hz;cases hz;exact .inr ⟨e,y,e2▸hy,rfl⟩
   ·rw[if_neg e2] at hz;exact .inr ⟨e,z,hz,rfl⟩
 have Xf:∀(j:Nat) w,ns[j]? =some w->j≠i->∃z,(cutAt ns i x p y)[j]? =some z/\z.parent=w.parent:=by
  intro j w hw e
  unfold cutAt
  rw[gs,if_neg e]
  by_cases e2:j=p
  ·rw[if_pos e2]
   rw[e2,hy] at hw;cases hw
   exact⟨_,rfl,rfl⟩
  ·rw[if_neg e2];exact⟨w,hw,rfl⟩
 refine⟨fun j z hz=>?_,fun j z k hz=>?_,fun j z hz=>?_,?_,?_⟩
 ·rw[hlen]
  rcases par' j z hz with ⟨_,h⟩ | ⟨_,w,hw,h⟩
  ·exact .inl h
  ·rw[<-h];exact G.par j w hw
 ·have key:∀(K:List Int),(k ∈ K↔(∃(m:Nat) (w:ay),k=(m:Int)/\ns[m]? =some w/\w.parent=(j:Int))/\k≠(i:Int))->(k ∈ K↔∃(m:Nat) (w:ay),k=(m:Int)/\(cutAt ns i x p y)[m]? =some w/\w.parent=(j:Int)):=by
   intro K hK
   rw[hK]
   constructor
   ·rintro⟨⟨m,w,rfl,hw,Iz⟩,hk⟩
    obtain⟨z2,pY,KJ⟩:=Xf m w hw (by omega)
    exact⟨m,z2,rfl,pY,KJ.trans Iz⟩
   ·rintro⟨m,w,rfl,hw,Iz⟩
    rcases par' m w hw with ⟨_,h⟩ | ⟨h1,w2,uK,h⟩
    ·rw[h] at Iz;omega
    ·exact⟨⟨m,w2,rfl,uK,h.trans Iz⟩,by omega⟩
  refine key z.kids ?_
  unfold cutAt at hz
  rw[gs] at hz
  by_cases e:j=i
  ·rw[if_pos e] at hz;cases hz
   rw[e]
   show k ∈ x.kids↔_
   rw[G.lq i x k hx]
   exact⟨fun h=>⟨h,by
    obtain⟨m,w,rfl,hw,Iz⟩:=h
    intro e2
    have:m=i:=by omega
    subst this
    rw[hx] at hw;cases hw
    rw[hp] at Iz;omega⟩,fun h=>h.1⟩
  ·rw[if_neg e] at hz
   by_cases e2:j=p
   ·rw[if_pos e2] at hz;cases hz
    rw[e2]
    show k ∈ y.kids.eraseIdx _↔_
    rw[qX (G.nodup p y hy) je,G.lq p y k hy]
   ·rw[if_neg e2] at hz
    rw[G.lq j z k hz]
    exact⟨fun h=>⟨h,by
     obtain⟨m,w,rfl,hw,Iz⟩:=h
     intro e3
     have:m=i:=by omega
     subst this
     rw[hx] at hw;cases hw
     rw[hp] at Iz;omega⟩,fun h=>h.1⟩
 ·unfold cutAt at hz
  rw[gs] at hz
  by_cases e:j=i
  ·rw[if_pos e] at hz;cases hz;exact G.nodup i x hx
  ·rw[if_neg e] at hz
   by_cases e2:j=p
   ·rw[if_pos e2] at hz;cases hz;exact(G.nodup p y hy).sublist (List.eraseIdx_sublist ..)
   ·rw[if_neg e2] at hz;exact G.nodup j z hz
 ·obtain⟨rk,hr⟩:=G.CY
  refine⟨rk,fun j q z hz hq=>?_⟩
  rcases par' j z hz with ⟨_,h⟩ | ⟨_,w,hw,h⟩
  ·rw[h] at hq;omega
  ·exact hr j q w hw (h.trans hq)
 ·obtain⟨r,hr,O3⟩:=G.root
  by_cases e:0=i
  ·exact⟨{x with parent:= -1},by unfold cutAt;rw[gs,if_pos e],rfl⟩
  ·obtain⟨z,hz,KJ⟩:=Xf 0 r hr e
   exact⟨z,hz,KJ.trans O3⟩
theorem rK {ns:List ay} (G:aV ns) (id:Int):eD ns id=(ns,false)∨∃(i p:Nat) (x y:ay),id=(i:Int)/\ns[i]? =some x/\x.parent=(p:Int)/\ns[p]? =some y/\eD ns id=(cutAt ns i x p y,true):=by
 unfold eD
 by_cases h:0<=id/\id<ns.length
 ·rw[if_pos h]
  obtain⟨i,rfl⟩:=Int.eq_ofNat_of_zero_le h.1
  have hi:i<ns.length:=by omega
  have hx:ns[(i:Int).toNat]? =some ns[i]:=by rw[Int.toNat_natCast];exact List.getElem?_eq_getElem hi
  rw[hx]
  have IA:ns[i]? =some ns[i]:=List.getElem?_eq_getElem hi
  show(if ns[i].parent<0 then(ns,false) else _)=_∨_
  rcases G.par i _ IA with h1 | ⟨h1,h2⟩
  ·left;rw[if_pos (by omega)]
  ·right
   obtain⟨p,hp⟩:=Int.eq_ofNat_of_zero_le h1
   have hp:ns[i].parent=(p:Int):=hp
   have qB:p<ns.length:=by omega
   refine⟨i,p,ns[i],ns[p],rfl,IA,hp,List.getElem?_eq_getElem qB,?_⟩
   dsimp only
   rw[if_neg (by omega),hp,Int.toNat_natCast,List.getElem?_eq_getElem qB]
   dsimp only
   rw[Int.toNat_natCast]
 ·left;rw[if_neg h]
theorem aV.eD {ns:List ay} (G:aV ns) (id:Int):aV (Go.Proofs.eD ns id).1:=by
 rcases rK G id with h | ⟨i,p,x,y,_,hx,hp,hy,h⟩
 ·rw[h];exact G
 ·rw[h];exact G.cut hx hp hy
theorem mM (ns:List ay) (G:aV ns) (id:Int):(eD ns id).1.length=ns.length:=by
 rcases rK G id with h | ⟨i,p,x,y,_,hx,hp,hy,h⟩
 ·rw[h]
 ·rw[h];unfold cutAt;simp
theorem ji {ns:List ay} (G:aV ns) {id:Int} {j:Nat} {z:ay} (hz:ns[j]? =some z):
  ∃z',(eD ns id).1[j]? =some z'/\z'.kind=z.kind/\z'.space=z.space/\z'.name=z.name/\z'.attrs=z.attrs/\z'.text=z.text/\(∀k,k ∈ z'.kids↔k ∈ z.kids/\k≠id)/\((j:Int)=id->z'.parent= -1)/\((j:Int)≠id->z'.parent=z.parent):=by
 have G':=G.eD id
 have zy:∀z',(eD ns id).1[j]? =some z'->(∀k,k ∈ z'.kids↔k ∈ z.kids/\k≠id)/\((j:Int)=id->z'.parent= -1)/\((j:Int)≠id->z'.parent=z.parent)/\z'.kind=z.kind/\z'.space=z.space/\z'.name=z.name/\z'.attrs=z.attrs/\z'.text=z.text:=by
  intro z' iJ
  have G3:∀{x:ay} {i:Nat},ns[i]? =some x->eD ns (i:Int)=(ns,false)->x.parent= -1:=by
   intro x i hx h
   rcases G.par i x hx with h1 | ⟨h1,h2⟩
   ·exact h1
   ·exfalso
    obtain⟨p,hp⟩:=Int.eq_ofNat_of_zero_le h1
    have hp:x.parent=(p:Int):=hp
    unfold Go.Proofs.eD at h
    have hi:=dv hx
    rw[if_pos (by omega),Int.toNat_natCast,hx] at h
    simp only at h
    rw[if_neg (by omega),hp,Int.toNat_natCast,List.getElem?_eq_getElem (show p<ns.length by omega)] at h
    have:=congrArg Prod.snd h
    cases this
  rcases rK G id with h | ⟨i,p,x,y,rfl,hx,hp,hy,h⟩
  ·rw[h] at iJ
   rw[hz] at iJ;cases iJ
   refine⟨fun k=>⟨fun hk=>⟨hk,fun e=>?_⟩,fun hk=>hk.1⟩,fun e=>G3 hz (by rw[e];exact h),fun _=>rfl,rfl,rfl,rfl,rfl,rfl⟩
   subst e
   obtain⟨m,w,rfl,hw,hpw⟩:=(G.lq j z k hz).1 hk
   have:=G3 hw h
   omega
  ·rw[h] at iJ
   have hi:=dv hx
   have qB:=dv hy
   have bI:=G.tW hx hp
   have je:(i:Int) ∈ y.kids:=(G.lq p y _ hy).2 ⟨i,x,rfl,hx,hp⟩
   have other:∀(m:Nat) w,ns[m]? =some w->m≠p->(i:Int) ∉ w.kids:=fun m w hw hmp hk=>by
    obtain⟨m2,w2,e,uK,Iz⟩:=(G.lq m w _ hw).1 hk
    have:m2=i:=by omega
    subst this
    rw[hx] at uK;cases uK
    rw[hp] at Iz;omega
   unfold cutAt at iJ
   rw[sL hi qB] at iJ
   by_cases e:j=i
   ·rw[if_pos e] at iJ;cases iJ
    subst e
    rw[hx] at hz;cases hz
    exact⟨fun k=>⟨fun hk=>⟨hk,fun e=>by subst e;exact other j _ hx bI hk⟩,fun hk=>hk.1⟩,fun _=>rfl,fun e=>absurd rfl e,rfl,rfl,rfl,rfl,rfl⟩
   ·rw[if_neg e] at iJ
    by_cases e2:j=p
    ·rw[if_pos e2] at iJ;cases iJ
     subst e2
     rw[hy] at hz;cases hz
     exact⟨fun k=>qX (G.nodup j _ hy) je k,fun e3=>by omega,fun _=>rfl,rfl,rfl,rfl,rfl,rfl⟩
    ·rw[if_neg e2] at iJ
     rw[hz] at iJ;cases iJ
     exact⟨fun k=>⟨fun hk=>⟨hk,fun e3=>by subst e3;exact other j z hz e2 hk⟩,fun hk=>hk.1⟩,fun e3=>by omega,fun _=>rfl,rfl,rfl,rfl,rfl,rfl⟩
 have cP:j<(eD ns id).1.length:=by rw[mM ns G];exact dv hz
 obtain⟨h1,h2,h3,h4,h5,h6,h7,h8⟩:=zy _ (List.getElem?_eq_getElem cP)
 exact⟨_,List.getElem?_eq_getElem cP,h4,h5,h6,h7,h8,h1,h2,h3⟩
theorem eY {ns:List ay} {j:Nat} {z:ay} (h:ns[j]? =some z):ju ns (j:Int)=z.parent:=by unfold ju;rw[Int.toNat_natCast,h];rfl
theorem dw {ns:List ay} {j:Nat} {of:Int}:ou ns (j:Int) of↔of=(j:Int)∨ou ns (ju ns j) of:=by
 constructor
 ·rintro⟨f,hf⟩
  cases f with
  | zero=>cases hf
  | succ f=>
   unfold dP at hf
   rw[if_pos (by omega)] at hf
   rcases List.mem_cons.1 hf with h | h
   ·exact .inl h
   ·exact .inr ⟨f,h⟩
 ·rintro(h | ⟨f,hf⟩)
  ·exact⟨1,by unfold dP;rw[if_pos (by omega),h];exact List.mem_cons_self ..⟩
  ·exact⟨f+1,by unfold dP;rw[if_pos (by omega)];exact List.mem_cons_of_mem _ hf⟩
theorem G5 {ns:List ay} {i of:Int} (h:i<0):¬ou ns i of:=fun⟨f,hf⟩=>by rw[tY h] at hf;cases hf
theorem KO {ns ns1:List ay} {i:Int} (hp:∀j:Nat,(j:Int)≠i->ju ns1 j=ju ns j) (f:Nat):∀j:Int,i ∈ dP ns1 f j->i ∈ dP ns f j:=by
 induction f with
 | zero=>intro j h;cases h
 | succ f ih=>
  intro j h
  unfold dP at h ⊢
  split at h
  ·rename_i h0
   rw[if_pos h0]
   rcases List.mem_cons.1 h with rfl | h
   ·exact List.mem_cons_self ..
   ·by_cases e:j=i
    ·rw[e];exact List.mem_cons_self ..
    ·obtain⟨k,rfl⟩:=Int.eq_ofNat_of_zero_le h0
     rw[hp k e] at h
     exact List.mem_cons_of_mem _ (ih _ h)
  ·cases h
noncomputable def pC (ns:List ay) (i m:Nat) (rk:Nat->Nat) (j:Nat):Nat:=@ite _ (ou ns (j:Int) (i:Int)) (Classical.propDecidable _) (rk j+m) (rk j)
theorem mN {ns:List ay} {i m j:Nat} {rk:Nat->Nat} (h:ou ns (j:Int) (i:Int)):pC ns i m rk j=rk j+m:=by unfold pC;exact if_pos h
theorem iU {ns:List ay} {i m j:Nat} {rk:Nat->Nat} (h:¬ou ns (j:Int) (i:Int)):pC ns i m rk j=rk j:=by unfold pC;exact if_neg h
theorem aV.put {ns:List ay} (G:aV ns) {i p:Nat} {x y:ay} {K':List Int} (hx:ns[i]? =some x) (hy:ns[p]? =some y) (hpx:x.parent= -1) (bI:i≠p) (h0:i≠0) (dk:¬ou ns (p:Int) (i:Int))
  (jY:K'.Nodup) (hK:∀k,k ∈ K'↔k=(i:Int)∨k ∈ y.kids):aV ((ns.set p {y with kids:=K'}).set i {x with parent:=(p:Int)}):=by
 have hi:=dv hx
 have qB:=dv hy
 have gs:=fun j=>sL (ns:=ns) (x:={x with parent:=(p:Int)}) (y:={y with kids:=K'}) hi qB j
 have par':∀(j:Nat) z,((ns.set p {y with kids:=K'}).set i {x with parent:=(p:Int)})[j]? =some z->(j=i/\z.parent=(p:Int))∨(j≠i/\∃w,ns[j]? =some w/\w.parent=z.parent):=by
  intro j z hz
  rw[gs] at hz
  by_cases e:j=i
  ·rw[if_pos e] at hz;cases hz;exact .inl ⟨e,rfl⟩
  ·rw[if_neg e] at hz
   by_cases e2:j=p
   ·rw[if_pos e2] at hz;cases hz;exact .inr ⟨e,y,e2▸hy,rfl⟩
   ·rw[if_neg e2] at hz;exact .inr ⟨e,z,hz,rfl⟩
 have Xf:∀(j:Nat) w,ns[j]? =some w->j≠i->∃z,((ns.set p {y with kids:=K'}).set i {x with parent:=(p:Int)})[j]? =some z/\z.parent=w.parent:=by
  intro j w hw e
  rw[gs,if_neg e]
  by_cases e2:j=p
  ·rw[if_pos e2]
   rw[e2,hy] at hw;cases hw
   exact⟨_,rfl,rfl⟩
  ·rw[if_neg e2];exact⟨w,hw,rfl⟩
 have exi:∃z,((ns.set p {y with kids:=K'}).set i {x with parent:=(p:Int)})[i]? =some z/\z.parent=(p:Int):=⟨_,by rw[gs,if_pos rfl],rfl⟩
 have noti:∀(j:Nat) w,ns[j]? =some w->(i:Int) ∉ w.kids:=fun j w hw hm=>by
  obtain⟨m,v,e,hv,hq⟩:=(G.lq j w _ hw).1 hm
  have:m=i:=by omega
  subst this
  rw[hx] at hv;cases hv
  omega
 have IB:∀(j:Nat) (k:Int),j≠p->((∃(m:Nat) (w:ay),k=(m:Int)/\ns[m]? =some w/\w.parent=(j:Int))↔∃(m:Nat) (w:ay),k=(m:Int)/\((ns.set p {y with kids:=K'}).set i {x with parent:=(p:Int)})[m]? =some w/\w.parent=(j:Int)):=by
  intro j k hj
  constructor
  ·rintro⟨m,w,rfl,hw,hq⟩
   have hmi:m≠i:=fun e=>by subst e;rw[hx] at hw;cases hw;omega
   obtain⟨z,hz,YI⟩:=Xf m w hw hmi
   exact⟨m,z,rfl,hz,YI.trans hq⟩
  ·rintro⟨m,w,rfl,hw,hq⟩
   rcases par' m w hw with ⟨_,h⟩ | ⟨_,v,hv,h⟩
   ·rw[h] at hq;omega
   ·exact⟨m,v,rfl,hv,h.trans hq⟩
 refine⟨fun j z hz=>?_,fun j z k hz=>?_,fun j z hz=>?_,?_,?_⟩
 ·rw[List.length_set,List.length_set]
  rcases par' j z hz with ⟨_,h⟩ | ⟨_,w,hw,h⟩
  ·right;omega
  ·rw[<-h];exact G.par j w hw
 ·rw[gs] at hz
  by_cases e:j=i
  ·rw[if_pos e] at hz;cases hz
   rw[e]
   show k ∈ x.kids↔_
   rw[G.lq i x k hx]
   exact IB i k bI
  ·rw[if_neg e] at hz
   by_cases e2:j=p
   ·rw[if_pos e2] at hz;cases hz
    rw[e2]
    show k ∈ K'↔_
    rw[hK,G.lq p y k hy]
    constructor
    ·rintro(rfl | ⟨m,w,rfl,hw,hq⟩)
     ·obtain⟨z,hz,YI⟩:=exi
      exact⟨i,z,rfl,hz,YI⟩
     ·have hmi:m≠i:=fun e=>by subst e;rw[hx] at hw;cases hw;omega
      obtain⟨z,hz,YI⟩:=Xf m w hw hmi
      exact⟨m,z,rfl,hz,YI.trans hq⟩
    ·rintro⟨m,w,rfl,hw,hq⟩
     rcases par' m w hw with ⟨h,_⟩ | ⟨_,v,hv,h⟩
     ·exact .inl (by rw[h])
     ·exact .inr ⟨m,v,rfl,hv,h.trans hq⟩
   ·rw[if_neg e2] at hz
    rw[G.lq j z k hz]
    exact IB j k e2
 ·rw[gs] at hz
  by_cases e:j=i
  ·rw[if_pos e] at hz;cases hz;exact G.nodup i x hx
  ·rw[if_neg e] at hz
   by_cases e2:j=p
   ·rw[if_pos e2] at hz;cases hz;exact jY
   ·rw[if_neg e2] at hz;exact G.nodup j z hz
 ·obtain⟨rk,hr⟩:=G.CY
  refine⟨pC ns i (rk p+1) rk,fun j q z hz hq=>?_⟩
  rcases par' j z hz with ⟨h,h2⟩ | ⟨O2,w,hw,h⟩
  ·have e1:q=p:=by omega
   rw[e1,h,iU dk,mN (dw.2 (.inl rfl))]
   omega
  ·have hwq:w.parent=(q:Int):=h.trans hq
   have cP:=hr j q w hw hwq
   have CZ:ou ns (j:Int) (i:Int)↔ou ns (q:Int) (i:Int):=by
    rw[dw (j:=j),eY hw,hwq]
    exact⟨fun h=>h.resolve_left (by omega),.inr⟩
   by_cases hc:ou ns (q:Int) (i:Int)
   ·rw[mN hc,mN (CZ.2 hc)];omega
   ·rw[iU hc,iU (fun h=>hc (CZ.1 h))];exact cP
 ·obtain⟨r,hr,O3⟩:=G.root
  obtain⟨z,hz,KJ⟩:=Xf 0 r hr (Ne.symm h0)
  exact⟨z,hz,KJ.trans O3⟩
theorem O4 {l:List Int} {k:Nat} {i x:Int}:x ∈ l.take k++i::l.drop k↔x=i∨x ∈ l:=by
 have hp:(l.take k++i::l.drop k).Perm (i::l):=by
  refine List.perm_middle.trans ?_
  rw[List.take_append_drop]
 rw[hp.mem_iff,List.mem_cons]
theorem IC {l:List Int} {k:Nat} {i:Int} (hn:l.Nodup) (hi:i ∉ l):(l.take k++i::l.drop k).Nodup:=by
 have hp:(l.take k++i::l.drop k).Perm (i::l):=by
  refine List.perm_middle.trans ?_
  rw[List.take_append_drop]
 exact hp.nodup_iff.2 (List.nodup_cons.2 ⟨hi,hn⟩)
theorem FC {kids zy:List Int} {b id:Int} (hm:∀k,k ∈ zy↔k ∈ kids/\k≠id) (hb:b≠id) (h:0<=fh kids b):0<=fh zy b/\fh zy b<=zy.length:=by
 unfold fh A8 at h ⊢
 by_cases e:b= -1
 ·rw[if_pos e];omega
 ·rw[if_neg e] at h ⊢
  by_cases hk:b ∈ kids
  ·have h2:=(hm b).2 ⟨hk,hb⟩
   rw[if_pos h2]
   have:=qg h2
   omega
  ·rw[if_neg hk] at h;omega
section
variable {h:H} {K:KV} {col:cd} {s i p:Nat} {t a:Addr} {ct:List Addr} {ns:List ay} {x y:ay}
theorem KP (T:bz h col s t ct ns) (G:aV ns) {ai ap av:Addr} (ha:ct[i]? =some ai) (hx:ns[i]? =some x) (B8:ct[p]? =some ap) (hy:ns[p]? =some y) (bI:i≠p) {ab kb:OA} {an ac kn kc:Nat}
  (v:Var h ap 84 (mO y ab an ac kb kn kc)) (ra:Row aW (bT col h) h ab an ac y.attrs) (hz:ab=none->ac=0) (ok:fG h kb kn kc y.kids) (oV:∀q,kb=some q->col q.block=some (s,2*p+3))
  (vv:Var h av 3 [.int .i64 (i:Int)]) (hav:col av.block=none) {k:Nat} (Ig:k<=y.kids.length)
  {Q:H->Prop} (hk:∀h' col',bz h' col' s t ct ((ns.set p {y with kids:=y.kids.take k++(i:Int)::y.kids.drop k}).set i {x with parent:=(p:Int)})->Ext s h col h' col'->Q h'):
  zC 142 [.slice kb kn kc,.int .i64 (k:Int),.slice (some av) 1 1] h fun v72 TX=>aA v72 fun b n c=>ae (some ap) fun a75=>aZ (a75.add 7) [(.slice b n c)] 0 TX fun h76=>ae (some ai) fun a77=>aZ (a77.add 6) [(.int .i64 (p:Int))] 0 h76 fun Jz=>Q Jz:=by
 have dJ:=ok.len
 have lW:=G.nh hy
 have hf:=T.nh
 have bM:=dv hx
 refine FD ok (by omega) vv (fun q e e2=>by have:=oV q e;rw[e2,hav] at this;cases this) (jt (by omega) (by omega)) (by omega) fun b' c' h3 o3 g3 nb=>aC (aa (vU T B8 hy v ra hz oV g3 o3 nb fun h4 fO T4 E4=>aa ?_))
 exact KK T4 ha (by rw[List.getElem?_set_ne (Ne.symm bI)];exact hx) (jt (by have:=dv hy;omega) (by have:=dv hy;omega)) fun h5 T5 E5 _=>hk h5 fO T5 (E4.trans E5)
theorem qf (T:bz h col s t ct ns) (G:aV ns) {parent before id:Int} (hk:∀h' col',bz h' col' s t ct (cV ns parent before id).1->Ext s h col h' col'->K (.bool (cV ns parent before id).2) h'):
  zC 65 [.pointer (some t),.int .i64 parent,.int .i64 before,.int .i64 id] h K:=by
 have hlen:=T.len
 have no:¬(dU ns parent=true/\(0<=id/\id<ns.length)/\id≠0/\before≠id/\0<=fh (((ns[parent.toNat]?).map (·.kids)).getD []) before/\cm ns parent id=false)->∀h',KB h h'->K (.bool false) h':=fun hn h' k=>by
  have:cV ns parent before id=(ns,false):=by unfold cV;rw[if_neg hn]
  rw[this] at hk
  exact hk h' col (T.kb k) (Ext.kb k)
 have O5:∀(p:Nat) y,parent=(p:Int)->ns[p]? =some y->dU ns parent=decide (p=0∨y.kind=1):=fun p y e hy=>by
  have:=dv hy
  unfold dU
  rw[e,Int.toNat_natCast,hy,decide_eq_true (show 0<=(p:Int)/\(p:Int)<ns.length by omega)]
  show decide _=decide _
  congr 1
  exact propext ⟨fun h=>h.imp (fun h=>by omega) (fun h=>h),fun h=>h.imp (fun h=>by omega) (fun h=>h)⟩
 refine Xas.ok _ _ _ _ _ _ (jQ T (fun hn=>cO ?_) fun p ap y ep hy B8 mK=>cO ?_)
 ·have hh:¬dU ns parent=true:=fun hb=>by
   unfold dU at hb
   rw[Bool.and_eq_true] at hb
   have h1:=of_decide_eq_true hb.1
   obtain⟨p,rfl⟩:=Int.eq_ofNat_of_zero_le h1.1
   have hy:ns[p]? =some ns[p]:=List.getElem?_eq_getElem (by omega)
   have h2:=hb.2
   rw[Int.toNat_natCast,hy] at h2
   refine hn ⟨p,ns[p],rfl,hy,?_⟩
   have h2:=of_decide_eq_true h2
   exact h2.imp (fun h=>by omega) (fun h=>h)
  refine jh T (fun vQ=>cO (cN (by kernel_rfl) (ag (aF (no (fun TY=>hh TY.1) h (KB.refl h)))))) fun i a x e hx ha=>cO (cN (by kernel_rfl) (ag (aF (no (fun TY=>hh TY.1) h (KB.refl h)))))
 ·refine jh T (fun vQ=>cO (cN (by kernel_rfl) (ag (aE (cN (by kernel_rfl) (ag (aF (no (fun hh=>vQ hh.2.1) h (KB.refl h))))))))) fun i ai x ei hx Xe=>cO (cN (by kernel_rfl) (ag (aE (cN (by kernel_rfl) (ag (aE ?_))))))
  have qB:=dv hy
  have bM:=dv hx
  have Np:=T.nodes p y ap hy B8
  have pD:(((ns[parent.toNat]?).map (·.kids)).getD [])=y.kids:=by rw[ep,Int.toNat_natCast,hy];rfl
  rw[pD] at no
  refine bh (fun e=>no (fun hh=>hh.2.2.1 e) h (KB.refl h)) fun h0=>bh (fun e=>no (fun hh=>hh.2.2.2.1 e) h (KB.refl h)) fun hb=>ig Np (aN (bh (fun e=>no (fun hh=>by have:=hh.2.2.2.2.1;omega) h (KB.refl h)) fun aee=>sK T G (by omega) fun h1 k1=>ag (aR (fun e=>no (fun hh=>by rw[e] at hh;cases hh.2.2.2.2.2) h1 k1) fun hw=>?_)))
  have T1:=T.kb k1
  have vq:dU ns parent=true/\(0<=id/\id<ns.length)/\id≠0/\before≠id/\0<=fh (((ns[parent.toNat]?).map (·.kids)).getD []) before/\cm ns parent id=false:=
   ⟨by rw[O5 p y ep hy];exact decide_eq_true mK,by omega,h0,hb,by rw[pD];omega,hw⟩
  have epm:cV ns parent before id=(putAt (eD ns id).1 parent.toNat before id.toNat,true):=by unfold cV;rw[if_pos vq]
  rw[epm,ep,ei,Int.toNat_natCast,Int.toNat_natCast,<-ei] at hk
  have G1:=G.eD id
  obtain⟨y1,G6,_,_,_,_,_,je,_,_⟩:=ji G (id:=id) hy
  obtain⟨x1,EM,_,_,_,_,_,_,_,_⟩:=ji G (id:=id) hx
  have Ev:¬ou ns parent id:=fun hh=>by
   unfold cm at hw
   rw[@decide_eq_true (ou ns parent id) (Classical.propDecidable _) hh] at hw;cases hw
  have bI:i≠p:=fun e=>Ev (by rw[ep,ei,<-e];exact dw.2 (.inl rfl))
  obtain⟨YJ,Iz⟩:=FC je hb (by omega)
  obtain⟨k,qY⟩:=Int.eq_ofNat_of_zero_le YJ
  have qY:fh y1.kids before=(k:Int):=qY
  have kF:putAt (eD ns id).1 p before i=(((eD ns id).1.set p {y1 with kids:=y1.kids.take k++(i:Int)::y1.kids.drop k}).set i {x1 with parent:=(p:Int)}):=by
   unfold putAt
   rw[G6]
   dsimp only
   rw[qY,Int.toNat_natCast,List.getElem?_set_ne (Ne.symm bI),EM]
  rw[kF] at hk
  have RP:∀h2 cH,bz h2 cH s t ct (eD ns id).1->Ext s h col h2 cH->Xas.n5 parent before id (some ap) (some ai) (fun y8 h=>K (.bool y8) h) (fun y8 h=>K (.bool y8) h) h2:=by
   intro h2 cH T2 E2
   have N2:=T2.nodes p y1 ap G6 B8
   obtain⟨ab,an,ac,kb,kn,kc,v,ra,hz,ok,oV⟩:=N2.ex
   refine⟨aa ⟨_,_,_,v.cell 7 rfl,ig N2 (aN ⟨bH.refl _,af fun av h3 v3 k3 e3 s3=>⟨k3.ext,?_⟩⟩)⟩,aa ⟨_,_,_,v.cell 7 rfl,af fun av h3 v3 k3 e3 s3=>⟨k3.ext,ig ((T2.kb k3).nodes p y1 ap G6 B8) (aN ⟨bH.refl _,?_⟩)⟩⟩⟩
   all_goals
    rw[qY,ei] at*
    rw[ep]
    have T3:=T2.kb k3
    have fr:cH av.block=none:=T2.fresh _ (by omega)
    exact KP T3 G1 Xe EM B8 G6 bI (v.kb k3) (ra.keep ((KB.w k3).less fun q hq=>hq.2) fun q hq hs=>⟨hq.1,Nat.lt_of_lt_of_le hs k3.1⟩) hz (ok.keep (KB.w k3) fun q e=>ok.hi q e) oV v3 fr (by omega) fun h' col' T' E'=>hk h' col' T' ((E2.trans (Ext.kb k3)).trans E')
  refine ID T1 G fun h2 cH T2 E2=>ag ?_
  have zm:Ext s h col h2 cH:=(Ext.kb k1).trans E2
  exact aR (fun _=>RP h2 cH T2 zm) fun _=>RP h2 cH T2 zm
end
theorem iR {ns:List ay} {p:Int} (h:dU ns p=true):∃(q:Nat) (y:ay),p=(q:Int)/\ns[q]? =some y/\(q=0∨y.kind=1):=by
 unfold dU at h
 rw[Bool.and_eq_true] at h
 have h1:=of_decide_eq_true h.1
 obtain⟨q,rfl⟩:=Int.eq_ofNat_of_zero_le h1.1
 have hy:ns[q]? =some ns[q]:=List.getElem?_eq_getElem (by omega)
 have h2:=h.2
 rw[Int.toNat_natCast,hy] at h2
 have h2:=of_decide_eq_true h2
 exact⟨q,ns[q],rfl,hy,h2.imp (fun h=>by omega) (fun h=>h)⟩
theorem aV.cV {ns:List ay} (G:aV ns) (parent before id:Int):aV (Go.Proofs.cV ns parent before id).1:=by
 unfold Go.Proofs.cV
 by_cases hc:dU ns parent=true/\(0<=id/\id<ns.length)/\id≠0/\before≠id/\0<=fh (((ns[parent.toNat]?).map (·.kids)).getD []) before/\cm ns parent id=false
 ·rw[if_pos hc]
  obtain⟨hh,hid,h0,hb,qB,hw⟩:=hc
  obtain⟨p,y,ep,hy,_⟩:=iR hh
  obtain⟨i,ei⟩:=Int.eq_ofNat_of_zero_le hid.1
  have ei:id=(i:Int):=ei
  have bM:i<ns.length:=by omega
  have hx:ns[i]? =some ns[i]:=List.getElem?_eq_getElem bM
  have pD:(((ns[parent.toNat]?).map (·.kids)).getD [])=y.kids:=by rw[ep,Int.toNat_natCast,hy];rfl
  rw[pD] at qB
  have G1:=G.eD id
  obtain⟨y1,G6,_,_,_,_,_,je,_,_⟩:=ji G (id:=id) hy
  obtain⟨x1,EM,_,_,_,_,_,_,yM,_⟩:=ji G (id:=id) hx
  have Ev:¬ou ns parent id:=fun hh=>by
   unfold cm at hw
   rw[@decide_eq_true (ou ns parent id) (Classical.propDecidable _) hh] at hw;cases hw
  have bI:i≠p:=fun e=>Ev (by rw[ep,ei,<-e];exact dw.2 (.inl rfl))
  obtain⟨YJ,Iz⟩:=FC je hb qB
  obtain⟨k,qY⟩:=Int.eq_ofNat_of_zero_le YJ
  have qY:fh y1.kids before=(k:Int):=qY
  have w7:∀j:Nat,(j:Int)≠id->ju (Go.Proofs.eD ns id).1 j=ju ns j:=fun j hj=>by
   cases hz:ns[j]? with
   | none=>
    have h1:(Go.Proofs.eD ns id).1[j]? =none:=by
     rw[List.getElem?_eq_none_iff,mM ns G]
     exact List.getElem?_eq_none_iff.1 hz
    unfold ju
    rw[Int.toNat_natCast,h1,hz]
   | some z=>
    obtain⟨z1,Oa,_,_,_,_,_,_,_,hp⟩:=ji G (id:=id) hz
    rw[eY Oa,eY hz]
    exact hp hj
  have dk:¬ou (Go.Proofs.eD ns id).1 (p:Int) (i:Int):=fun⟨f,hf⟩=>Ev (by
   rw[<-ei,<-ep] at hf
   exact⟨f,KO w7 f _ hf⟩)
  have hni:(i:Int) ∉ y1.kids:=fun hm=>((je _).1 hm).2 ei.symm
  have kF:putAt (Go.Proofs.eD ns id).1 parent.toNat before id.toNat=(((Go.Proofs.eD ns id).1.set p {y1 with kids:=y1.kids.take k++(i:Int)::y1.kids.drop k}).set i {x1 with parent:=(p:Int)}):=by
   have e1:parent.toNat=p:=by rw[ep];exact Int.toNat_natCast p
   have e2:id.toNat=i:=by rw[ei];exact Int.toNat_natCast i
   rw[e1,e2]
   unfold putAt
   rw[G6]
   dsimp only
   rw[qY,Int.toNat_natCast,List.getElem?_set_ne (Ne.symm bI),EM]
  show aV (putAt (Go.Proofs.eD ns id).1 parent.toNat before id.toNat)
  rw[kF]
  exact G1.put EM G6 (yM ei.symm) bI (by omega) dk (IC (G1.nodup p y1 G6) hni) fun k'=>O4
 ·rw[if_neg hc];exact G
theorem aV.add {ns:List ay} (G:aV ns) {x:ay} (hp:x.parent= -1) (hk:x.kids=[]):aV (ns++ [x]):=by
 have get:∀(j:Nat) z,(ns++ [x])[j]? =some z->(j<ns.length/\ns[j]? =some z)∨(j=ns.length/\z=x):=fun j z hz=>by
  by_cases h:j<ns.length
  ·rw[List.getElem?_append_left h] at hz;exact .inl ⟨h,hz⟩
  ·have hl:=dv hz
   rw[List.length_append,List.length_singleton] at hl
   have e:j=ns.length:=by omega
   rw[e,List.getElem?_append_right (Nat.le_refl _),Nat.sub_self] at hz
   simp at hz
   exact .inr ⟨e,hz.symm⟩
 have IB:∀(j:Nat) (k:Int),(∃(m:Nat) (w:ay),k=(m:Int)/\ns[m]? =some w/\w.parent=(j:Int))↔∃(m:Nat) (w:ay),k=(m:Int)/\(ns++ [x])[m]? =some w/\w.parent=(j:Int):=fun j k=>by
  constructor
  ·rintro⟨m,w,rfl,hw,hq⟩
   exact⟨m,w,rfl,by rw[List.getElem?_append_left (dv hw)];exact hw,hq⟩
  ·rintro⟨m,w,rfl,hw,hq⟩
   rcases get m w hw with ⟨_,h⟩ | ⟨_,rfl⟩
   ·exact⟨m,w,rfl,h,hq⟩
   ·rw[hp] at hq;omega
 refine⟨fun j z hz=>?_,fun j z k hz=>?_,fun j z hz=>?_,?_,?_⟩
 ·rw[List.length_append,List.length_singleton]
  rcases get j z hz with ⟨_,h⟩ | ⟨_,rfl⟩
  ·rcases G.par j z h with h | h
   ·exact .inl h
   ·right;omega
  ·exact .inl hp
 ·rw[<-IB]
  rcases get j z hz with ⟨_,h⟩ | ⟨e,rfl⟩
  ·exact G.lq j z k h
  ·rw[hk]
   refine⟨fun h=>(by cases h),?_⟩
   rintro⟨m,w,rfl,hw,hq⟩
   rcases G.par m w hw with h | h <;> omega
 ·rcases get j z hz with ⟨_,h⟩ | ⟨e,rfl⟩
  ·exact G.nodup j z h
  ·rw[hk];exact List.nodup_nil
 ·obtain⟨rk,hr⟩:=G.CY
  refine⟨rk,fun j q z hz hq=>?_⟩
  rcases get j z hz with ⟨_,h⟩ | ⟨_,rfl⟩
  ·exact hr j q z h hq
  ·rw[hp] at hq;omega
 ·obtain⟨r,hr,O3⟩:=G.root
  exact⟨r,by rw[List.getElem?_append_left (dv hr)];exact hr,O3⟩
theorem aV.bF {ns:List ay} (G:aV ns) (kd sp:Int) (nm:Bs) (gB:List bx) (tx:Bs):aV (Go.Proofs.bF ns (bG kd sp nm gB tx)).1:=by
 unfold bG
 by_cases h1:kd=1
 ·rw[if_pos h1];exact G.add rfl rfl
 ·rw[if_neg h1]
  by_cases h2:kd=2∨kd=3
  ·rw[if_pos h2];exact G.add rfl rfl
  ·rw[if_neg h2];exact G
theorem aV.bg {ns:List ay} (G:aV ns) (id:Int):aV (Go.Proofs.bg ns id).1:=by
 unfold Go.Proofs.bg
 by_cases h:0<=id/\id<ns.length
 ·rw[if_pos h]
  cases hx:ns[id.toNat]? with
  | none=>exact G
  | some x=>exact G.bF _ _ _ _ _
 ·rw[if_neg h];exact G
theorem IE:aV [mP]:=by
 have get:∀(j:Nat) z,[mP][j]? =some z->j=0/\z=mP:=fun j z hz=>by
  cases j with
  | zero=>simp at hz;exact⟨rfl,hz.symm⟩
  | succ j=>simp at hz
 refine⟨fun j z hz=>?_,fun j z k hz=>?_,fun j z hz=>?_,⟨fun _=>0,fun j q z hz hq=>?_⟩,mP,rfl,rfl⟩
 ·rw[(get j z hz).2];exact .inl rfl
 ·rw[(get j z hz).2]
  refine⟨fun h=>(by cases h),?_⟩
  rintro⟨m,w,rfl,hw,hq⟩
  rw[(get m w hw).2] at hq
  have:(-1:Int)=(j:Int):=hq
  omega
 ·rw[(get j z hz).2];exact List.nodup_nil
 ·rw[(get j z hz).2] at hq
  have:(-1:Int)=(q:Int):=hq
  omega
noncomputable def cy (ns:List ay) (parent before:Int) (tx:Bs):List ay × Bool:=
 if¬(dU ns parent=true/\0<=fh (((ns[parent.toNat]?).map (·.kids)).getD []) before) then(ns,false)
 else if tx=[] then(ns,true)
 else
  match ((((ns[parent.toNat]?).map (·.kids)).getD [])[(fh (((ns[parent.toNat]?).map (·.kids)).getD []) before).toNat - 1]?).bind (fun k:Int=>if 0<fh (((ns[parent.toNat]?).map (·.kids)).getD []) before then(ns[k.toNat]?).bind fun z=>if z.kind=2 then some (k.toNat,z) else none else none) with
  | some (j,z)=>(ns.set j {z with text:=z.text++tx},true)
  | none=>cV (bF ns (bG 2 0 [] [] tx)).1 parent before (bF ns (bG 2 0 [] [] tx)).2
theorem aV.O6 {ns:List ay} (G:aV ns) {j:Nat} {z:ay} (hz:ns[j]? =some z) (tx:Bs):aV (ns.set j {z with text:=tx}):=by
 have hj:=dv hz
 have get:∀(m:Nat) w,(ns.set j {z with text:=tx})[m]? =some w->∃v,ns[m]? =some v/\v.parent=w.parent/\v.kids=w.kids:=fun m w hw=>by
  by_cases e:j=m
  ·subst e
   rw[List.getElem?_set_self hj] at hw;cases hw
   exact⟨z,hz,rfl,rfl⟩
  ·rw[List.getElem?_set_ne e] at hw;exact⟨w,hw,rfl,rfl⟩
 have get':∀(m:Nat) w,ns[m]? =some w->∃v,(ns.set j {z with text:=tx})[m]? =some v/\v.parent=w.parent:=fun m w hw=>by
  by_cases e:j=m
  ·subst e
   rw[hz] at hw;cases hw
   exact⟨_,List.getElem?_set_self hj,rfl⟩
  ·exact⟨w,by rw[List.getElem?_set_ne e];exact hw,rfl⟩
 refine⟨fun m w hw=>?_,fun m w k hw=>?_,fun m w hw=>?_,?_,?_⟩
 ·rw[List.length_set]
  obtain⟨v,hv,hp,_⟩:=get m w hw
  rw[<-hp];exact G.par m v hv
 ·obtain⟨v,hv,_,hk⟩:=get m w hw
  rw[<-hk,G.lq m v k hv]
  constructor
  ·rintro⟨q,u,rfl,hu,hq⟩
   obtain⟨u',Ya,hp'⟩:=get' q u hu
   exact⟨q,u',rfl,Ya,hp'.trans hq⟩
  ·rintro⟨q,u,rfl,hu,hq⟩
   obtain⟨u',Ya,hp',_⟩:=get q u hu
   exact⟨q,u',rfl,Ya,hp'.trans hq⟩
 ·obtain⟨v,hv,_,hk⟩:=get m w hw
  rw[<-hk];exact G.nodup m v hv
 ·obtain⟨rk,hr⟩:=G.CY
  refine⟨rk,fun m q w hw hq=>?_⟩
  obtain⟨v,hv,hp,_⟩:=get m w hw
  exact hr m q v hv (hp.trans hq)
 ·obtain⟨r,hr,O3⟩:=G.root
  obtain⟨v,hv,hp⟩:=get' 0 r hr
  exact⟨v,hv,hp.trans O3⟩
theorem aV.cy {ns:List ay} (G:aV ns) (parent before:Int) (tx:Bs):aV (Go.Proofs.cy ns parent before tx).1:=by
 unfold Go.Proofs.cy
 by_cases h1:¬(dU ns parent=true/\0<=fh (((ns[parent.toNat]?).map (·.kids)).getD []) before)
 ·rw[if_pos h1];exact G
 rw[if_neg h1]
 by_cases h2:tx=[]
 ·rw[if_pos h2];exact G
 rw[if_neg h2]
 split
 ·rename_i j z hm
  obtain⟨k,hk,hb⟩:=Option.bind_eq_some_iff.1 hm
  split at hb
  ·obtain⟨z',iJ,AN⟩:=Option.bind_eq_some_iff.1 hb
   split at AN
   ·cases AN;exact G.O6 iJ _
   ·cases AN
  ·cases hb
 ·exact(G.bF _ _ _ _ _).cV _ _ _
section
variable {h:H} {K:KV} {col:cd} {s i p:Nat} {t a:Addr} {ct:List Addr} {ns:List ay} {x y:ay}
theorem Da (T:bz h col s t ct ns) (G:aV ns) {parent before:Int} {tx:Bs} (hlen:∀(i:Nat) x,ns[i]? =some x->x.text.length+tx.length<=9223372036854775807) (Fh:tx.length<=maxLen) (lW:ns.length<1000000)
  (hk:∀h' col' pA,bz h' col' s t pA (cy ns parent before tx).1->Ext s h col h' col'->K (.bool (cy ns parent before tx).2) h'):
  zC 56 [.pointer (some t),.int .i64 parent,.int .i64 before,S tx] h K:=by
 have hl:=T.len
 refine Xau.ok _ _ _ _ _ _ (jQ T (fun hn=>cO (cN (by kernel_rfl) (ag (aF ?_)))) fun p ap y ep hy B8 mK=>cO (cN (by kernel_rfl) (ag (aE ?_))))
 ·have:cy ns parent before tx=(ns,false):=by
   unfold cy
   rw[if_pos (fun hh=>hn (iR hh.1))]
  rw[this] at hk
  exact hk h col ct T (Ext.refl _ _ _)
 ·have Np:=T.nodes p y ap hy B8
  have qB:=dv hy
  have pD:(((ns[parent.toNat]?).map (·.kids)).getD [])=y.kids:=by rw[ep,Int.toNat_natCast,hy];rfl
  have hh:dU ns parent=true:=by
   unfold dU
   rw[ep,Int.toNat_natCast,hy,decide_eq_true (show 0<=(p:Int)/\(p:Int)<ns.length by omega)]
   exact decide_eq_true (mK.imp (fun h=>by omega) (fun h=>h))
  unfold cy at hk
  rw[pD] at hk
  refine ig Np (aN (bh (fun e=>?_) fun e=>?_))
  ·rw[if_pos (fun TY=>by have:=TY.2;omega)] at hk
   exact hk h col ct T (Ext.refl _ _ _)
  ·rw[if_neg (fun hn=>hn ⟨hh,by omega⟩)] at hk
   refine bh (fun e2=>?_) fun e2=>?_
   ·rw[if_pos e2] at hk
    exact hk h col ct T (Ext.refl _ _ _)
   ·rw[if_neg e2] at hk
    obtain⟨k,qY⟩:=Int.eq_ofNat_of_zero_le (show 0<=fh y.kids before by omega)
    have qY:fh y.kids before=(k:Int):=qY
    rw[qY,Int.toNat_natCast] at hk
    have other:((y.kids[k - 1]?).bind (fun q:Int=>if 0<(k:Int) then(ns[q.toNat]?).bind fun z=>if z.kind=2 then some (q.toNat,z) else none else none))=none->Xau.n6 (some t) parent before tx (fun y8 h=>K (.bool y8) h) (fun y8 h=>K (.bool y8) h) h:=fun KQ=>by
     rw[KQ] at hk
     refine kE T (A:=fun _=>True) (attrs:=[]) ⟨rfl,Nat.le_refl _,Nat.zero_le _,fun i x hx=>by simp at hx⟩ (fun _=>rfl) (by omega) ⟨by decide,by decide⟩ ⟨by decide,by decide⟩ (Nat.zero_le _) Fh lW fun h2 cH YK T2 E2=>aN ?_
     exact qf T2 (G.bF _ _ _ _ _) fun h3 col3 T3 E3=>ag (aR (fun eb=>by have:=hk h3 col3 YK T3 (E2.trans E3);rw[eb] at this;exact this) fun eb=>by have:=hk h3 col3 YK T3 (E2.trans E3);rw[eb] at this;exact this)
    refine ig Np (aN ?_)
    rw[qY]
    refine bh (fun e3=>aF ?_) fun e3=>aE (other (by
     have e4:¬0<(k:Int):=e3
     simp only[if_neg e4]
     cases y.kids[k - 1]? <;> rfl))
    obtain⟨ab,an,ac,kb,kn,kc,v,ra,hz,ok,oV⟩:=Np.ex
    obtain⟨lb,lc,vt,o,yl⟩:=T.ex
    have dJ:=ok.len
    have YL:k<=y.kids.length:=by
     have:=qY
     unfold fh A8 at this
     by_cases eb:before= -1
     ·rw[if_pos eb] at this;omega
     ·rw[if_neg eb] at this
      by_cases em:before ∈ y.kids
      ·rw[if_pos em] at this;have:=qg em;omega
      ·rw[if_neg em] at this;omega
    have ek:((k:Int) - 1)=((k - 1:Nat):Int):=by omega
    have XW:=G.nh hy
    have It:=T.nh
    refine aa ⟨_,_,_,vt.cell 0 rfl,aa ⟨_,_,_,v.cell 7 rfl,jt (by omega) (by omega),?_⟩⟩
    rw[ek]
    have bM:k - 1<y.kids.length:=by omega
    refine(ok.row (A:=fun _=>True) fun _ _=>trivial).bn bM rfl fun q hA=>Fx hA fun _=>?_
    obtain⟨j,z,ej,iJ,KJ⟩:=(G.lq p y _ hy).1 (List.getElem_mem bM)
    have fY:=dv iJ
    rw[ej]
    refine o.row.bn (i:=j) (by omega) rfl fun q2 sA=>zx sA (aa ?_)
    have TP:ct[j]? =some (ct[j]'(by omega)):=List.getElem?_eq_getElem (by omega)
    have Nj:=T.nodes j z _ iJ TP
    obtain⟨Rx,J8,Ry,WT,Ru,WU,v2,_⟩:=Nj.ex
    have Db:((y.kids[k - 1]?).bind (fun q:Int=>if 0<(k:Int) then(ns[q.toNat]?).bind fun z=>if z.kind=2 then some (q.toNat,z) else none else none))=if z.kind=2 then some (j,z) else none:=by
     rw[List.getElem?_eq_getElem bM,ej]
     show(if 0<(k:Int) then(ns[((j:Nat):Int).toNat]?).bind _ else none)=_
     rw[if_pos (by omega),Int.toNat_natCast,iJ]
     rfl
    refine⟨_,v2.kG 0 rfl,bh (fun e4=>aa ⟨_,v2.kG 4 rfl,?_,aa ?_⟩) fun e4=>other (by rw[Db,if_neg e4])⟩
    ·have:=hlen j z iJ
     show((z.text.length+tx.length:Nat):Int)<=9223372036854775807
     omega
    ·rw[Db,if_pos e4] at hk
     exact TZ T TP iJ (by have:=hlen j z iJ;rw[List.length_append];simp only[maxLen];omega) fun h2 T2 E2=>hk h2 col ct T2 E2
end
theorem O7 {ns:List ay} {o:Option ay}:(bF ns o).1.length<=ns.length+1:=by
 cases o with
 | none=>exact Nat.le_succ _
 | some x=>show(ns++ [x]).length<=_;simp
theorem fy {ns:List ay} (G:aV ns) (p b i:Int):(cV ns p b i).1.length=ns.length:=by
 unfold cV
 by_cases hc:dU ns p=true/\(0<=i/\i<ns.length)/\i≠0/\b≠i/\0<=fh (((ns[p.toNat]?).map (·.kids)).getD []) b/\cm ns p i=false
 ·rw[if_pos hc]
  show(putAt _ _ _ _).length=_
  unfold putAt
  split
  ·exact mM ns G i
  ·split
   ·exact mM ns G i
   ·rw[List.length_set,List.length_set];exact mM ns G i
 ·rw[if_neg hc]
def eX (ns:List ay) (ks:List Int) (p:Nat):List ay:=ns.mapIdx fun j z=>if(j:Int) ∈ ks then {z with parent:=(p:Int)} else z
def iS (ns:List ay) (i p:Nat) (xk yk:List Int):List ay:=ns.mapIdx fun j z=>{z with parent:=if(j:Int) ∈ xk then(p:Int) else z.parent,kids:=if j=i then [] else if j=p then yk++xk else z.kids}
noncomputable def dn (ns:List ay) (zz dst:Int):List ay × Bool:=
 if(0<=zz/\zz<ns.length)/\dU ns dst=true/\(((ns[zz.toNat]?).map (·.kids)).getD [])≠ []/\cm ns dst zz=false then
  (iS ns zz.toNat dst.toNat (((ns[zz.toNat]?).map (·.kids)).getD []) (((ns[dst.toNat]?).map (·.kids)).getD []),true)
 else(ns,false)
theorem eu {ns:List ay} {ks:List Int} {p j:Nat} {z:ay} (h:ns[j]? =some z):(eX ns ks p)[j]? =some (if(j:Int) ∈ ks then {z with parent:=(p:Int)} else z):=by
 unfold eX;rw[List.getElem?_mapIdx,h];rfl
theorem hX {ns:List ay} {ks:List Int} {p:Nat}:(eX ns ks p).length=ns.length:=by unfold eX;simp
theorem wT {ns:List ay} {p:Nat}:eX ns [] p=ns:=by
 unfold eX
 refine List.ext_getElem? fun j=>?_
 rw[List.getElem?_mapIdx]
 cases ns[j]? <;> simp
theorem uL {ns:List ay} {ks:List Int} {p j:Nat} {z:ay} (h:ns[j]? =some z) (dk:(j:Int) ∉ ks):(eX ns ks p).set j {z with parent:=(p:Int)}=eX ns (ks++ [(j:Int)]) p:=by
 refine List.ext_getElem? fun m=>?_
 have hj:=dv h
 by_cases e:j=m
 ·subst e
  rw[List.getElem?_set_self (by rw[hX];exact hj),eu h,if_pos (by simp)]
 ·rw[List.getElem?_set_ne e]
  cases hm:ns[m]? with
  | none=>
   unfold eX
   rw[List.getElem?_mapIdx,List.getElem?_mapIdx,hm]
   rfl
  | some w=>
   rw[eu hm,eu hm]
   have:((m:Int) ∈ ks++ [(j:Int)])↔(m:Int) ∈ ks:=by
    rw[List.mem_append,List.mem_singleton]
    exact⟨fun h=>h.resolve_right (by omega),.inl⟩
   simp only[this]
theorem dg {ns:List ay} {i p j:Nat} {xk yk:List Int} {z:ay} (h:ns[j]? =some z):(iS ns i p xk yk)[j]? =some {z with parent:=if(j:Int) ∈ xk then(p:Int) else z.parent,kids:=if j=i then [] else if j=p then yk++xk else z.kids}:=by
 unfold iS;rw[List.getElem?_mapIdx,h];rfl
theorem hU {ns:List ay} {i p:Nat} {xk yk:List Int}:(iS ns i p xk yk).length=ns.length:=by unfold iS;simp
theorem gi {ns:List ay} {i p j:Nat} {xk yk:List Int} {w:ay} (h:(iS ns i p xk yk)[j]? =some w):∃z,ns[j]? =some z/\w={z with parent:=if(j:Int) ∈ xk then(p:Int) else z.parent,kids:=if j=i then [] else if j=p then yk++xk else z.kids}:=by
 have hl:=dv h
 rw[hU] at hl
 have hz:ns[j]? =some ns[j]:=List.getElem?_eq_getElem hl
 rw[dg hz] at h
 exact⟨_,hz,(Option.some.inj h).symm⟩
theorem IF {ns:List ay} {i m j:Nat} {rk:Nat->Nat}:pC ns i m rk j<=rk j+m:=by
 unfold pC
 rcases Classical.em (ou ns (j:Int) (i:Int)) with h | h
 ·rw[if_pos h];exact Nat.le_refl _
 ·rw[if_neg h];exact Nat.le_add_right _ _
theorem aV.move {ns:List ay} (G:aV ns) {i p:Nat} {x y:ay} (hx:ns[i]? =some x) (hy:ns[p]? =some y) (dk:¬ou ns (p:Int) (i:Int)):aV (iS ns i p x.kids y.kids):=by
 have hi:=dv hx
 have qB:=dv hy
 have bI:i≠p:=fun e=>dk (by rw[<-e];exact dw.2 (.inl rfl))
 have RQ:∀(m:Nat) w,ns[m]? =some w->((m:Int) ∈ x.kids↔w.parent=(i:Int)):=fun m w hw=>by
  rw[G.lq i x _ hx]
  refine⟨fun⟨q,v,e,hv,hq⟩=>?_,fun h=>⟨m,w,rfl,hw,h⟩⟩
  have:q=m:=by omega
  subst this
  rw[hw] at hv;cases hv
  exact hq
 have IB:∀(j:Nat) (k:Int),j≠i->j≠p->((∃(m:Nat) (w:ay),k=(m:Int)/\ns[m]? =some w/\w.parent=(j:Int))↔∃(m:Nat) (w:ay),k=(m:Int)/\(iS ns i p x.kids y.kids)[m]? =some w/\w.parent=(j:Int)):=fun j k O2 hjp=>by
  constructor
  ·rintro⟨m,w,rfl,hw,hq⟩
   refine⟨m,_,rfl,dg hw,?_⟩
   show(if(m:Int) ∈ x.kids then(p:Int) else w.parent)=_
   rw[if_neg (fun h=>by have:=(RQ m w hw).1 h;omega)];exact hq
  ·rintro⟨m,w,rfl,hw,hq⟩
   obtain⟨z,hz,rfl⟩:=gi hw
   have hq:(if(m:Int) ∈ x.kids then(p:Int) else z.parent)=(j:Int):=hq
   by_cases hm:(m:Int) ∈ x.kids
   ·rw[if_pos hm] at hq;omega
   ·rw[if_neg hm] at hq;exact⟨m,z,rfl,hz,hq⟩
 refine⟨fun j z hz=>?_,fun j z k hz=>?_,fun j z hz=>?_,?_,?_⟩
 ·rw[hU]
  obtain⟨w,hw,rfl⟩:=gi hz
  show(if(j:Int) ∈ x.kids then(p:Int) else w.parent)= -1∨(0<=(if(j:Int) ∈ x.kids then(p:Int) else w.parent)/\(if(j:Int) ∈ x.kids then(p:Int) else w.parent)<_)
  by_cases hm:(j:Int) ∈ x.kids
  ·rw[if_pos hm];right;omega
  ·rw[if_neg hm];exact G.par j w hw
 ·obtain⟨w,hw,rfl⟩:=gi hz
  show k ∈ (if j=i then [] else if j=p then y.kids++x.kids else w.kids)↔_
  by_cases e:j=i
  ·rw[if_pos e]
   refine⟨fun h=>(by cases h),?_⟩
   rintro⟨m,v,rfl,hv,hq⟩
   obtain⟨u,hu,rfl⟩:=gi hv
   have hq:(if(m:Int) ∈ x.kids then(p:Int) else u.parent)=(j:Int):=hq
   by_cases hm:(m:Int) ∈ x.kids
   ·rw[if_pos hm] at hq;omega
   ·rw[if_neg hm] at hq
    exact absurd ((RQ m u hu).2 (by omega)) hm
  ·rw[if_neg e]
   by_cases e2:j=p
   ·rw[if_pos e2]
    subst e2
    rw[hy] at hw;cases hw
    rw[List.mem_append,G.lq j _ k hy,G.lq i _ k hx]
    constructor
    ·rintro(⟨m,v,rfl,hv,hq⟩ | ⟨m,v,rfl,hv,hq⟩)
     ·refine⟨m,_,rfl,dg hv,?_⟩
      show(if(m:Int) ∈ x.kids then(j:Int) else v.parent)=_
      rw[if_neg (fun h=>by have:=(RQ m v hv).1 h;omega)];exact hq
     ·refine⟨m,_,rfl,dg hv,?_⟩
      show(if(m:Int) ∈ x.kids then(j:Int) else v.parent)=_
      rw[if_pos ((RQ m v hv).2 hq)]
    ·rintro⟨m,v,rfl,hv,hq⟩
     obtain⟨u,hu,rfl⟩:=gi hv
     have hq:(if(m:Int) ∈ x.kids then(j:Int) else u.parent)=(j:Int):=hq
     by_cases hm:(m:Int) ∈ x.kids
     ·exact .inr ⟨m,u,rfl,hu,(RQ m u hu).1 hm⟩
     ·rw[if_neg hm] at hq;exact .inl ⟨m,u,rfl,hu,hq⟩
   ·rw[if_neg e2,G.lq j w k hw]
    exact IB j k e e2
 ·obtain⟨w,hw,rfl⟩:=gi hz
  show(if j=i then [] else if j=p then y.kids++x.kids else w.kids).Nodup
  by_cases e:j=i
  ·rw[if_pos e];exact List.nodup_nil
  ·rw[if_neg e]
   by_cases e2:j=p
   ·rw[if_pos e2]
    refine List.nodup_append.2 ⟨G.nodup p y hy,G.nodup i x hx,fun a ha b hb e3=>?_⟩
    subst e3
    obtain⟨m,v,rfl,hv,hq⟩:=(G.lq p y a hy).1 ha
    have:=(RQ m v hv).1 hb
    omega
   ·rw[if_neg e2];exact G.nodup j w hw
 ·obtain⟨rk,hr⟩:=G.CY
  refine⟨pC ns i (rk p+1) rk,fun j q z hz hq=>?_⟩
  obtain⟨w,hw,rfl⟩:=gi hz
  have hq:(if(j:Int) ∈ x.kids then(p:Int) else w.parent)=(q:Int):=hq
  by_cases hm:(j:Int) ∈ x.kids
  ·rw[if_pos hm] at hq
   have e1:q=p:=by omega
   have O2:ou ns (j:Int) (i:Int):=dw.2 (.inr (by rw[eY hw,(RQ j w hw).1 hm];exact dw.2 (.inl rfl)))
   rw[e1,iU dk,mN O2];omega
  ·rw[if_neg hm] at hq
   have cP:=hr j q w hw hq
   by_cases hj:ou ns (j:Int) (i:Int)
   ·rw[mN hj]
    have:=IF (ns:=ns) (i:=i) (m:=rk p+1) (j:=q) (rk:=rk)
    omega
   ·have Yp:¬ou ns (q:Int) (i:Int):=fun h=>hj (dw.2 (.inr (by rw[eY hw,hq];exact h)))
    rw[iU hj,iU Yp];exact cP
 ·obtain⟨r,hr,O3⟩:=G.root
  refine⟨_,dg hr,?_⟩
  show(if((0:Nat):Int) ∈ x.kids then(p:Int) else r.parent)= -1
  rw[if_neg (fun h=>by have:=(RQ 0 r hr).1 h;omega)];exact O3
theorem aV.dn {ns:List ay} (G:aV ns) (f dst:Int):aV (Go.Proofs.dn ns f dst).1:=by
 unfold Go.Proofs.dn
 by_cases hc:(0<=f/\f<ns.length)/\dU ns dst=true/\(((ns[f.toNat]?).map (·.kids)).getD [])≠ []/\cm ns dst f=false
 ·rw[if_pos hc]
  obtain⟨hf,hh,hk,hw⟩:=hc
  obtain⟨p,y,ep,hy,_⟩:=iR hh
  obtain⟨i,ei⟩:=Int.eq_ofNat_of_zero_le hf.1
  have ei:f=(i:Int):=ei
  have bM:i<ns.length:=by omega
  have hx:ns[i]? =some ns[i]:=List.getElem?_eq_getElem bM
  have Ev:¬ou ns dst f:=fun hh=>by
   unfold cm at hw
   rw[@decide_eq_true (ou ns dst f) (Classical.propDecidable _) hh] at hw;cases hw
  have e1:f.toNat=i:=by rw[ei];exact Int.toNat_natCast i
  have e2:dst.toNat=p:=by rw[ep];exact Int.toNat_natCast p
  show aV (iS ns f.toNat dst.toNat (((ns[f.toNat]?).map (·.kids)).getD []) (((ns[dst.toNat]?).map (·.kids)).getD []))
  rw[e1,e2,hx,hy]
  exact G.move hx hy (by rw[<-ei,<-ep];exact Ev)
 ·rw[if_neg hc];exact G
def G7 (z:ay):Prop:=(z.kind=1/\z.text=[])∨(z.kind≠1/\z.space=0/\z.name=[]/\z.attrs=[])
structure gT (ns:List ay):Prop where
 all:∀(i:Nat) z,ns[i]? =some z->G7 z
 root:∀z,ns[0]? =some z->z.kind=0
def gF (ns ns':List ay):Prop:=∀(j:Nat) z',ns'[j]? =some z'->∃z,ns[j]? =some z/\z'.kind=z.kind/\z'.space=z.space/\z'.name=z.name/\z'.attrs=z.attrs/\z'.text=z.text
def gj (ns:List ay) (m:Nat):Prop:=∀(j:Nat) z,ns[j]? =some z->z.text.length<=m
section
variable {ns ns' ns2:List ay} {m c:Nat}
theorem gF.refl (ns:List ay):gF ns ns:=fun j z h=>⟨z,h,rfl,rfl,rfl,rfl,rfl⟩
theorem gF.trans (a:gF ns ns') (b:gF ns' ns2):gF ns ns2:=fun j z h=>by
 obtain⟨y,hy,e1,e2,e3,e4,e5⟩:=b j z h
 obtain⟨x,hx,f1,f2,f3,f4,f5⟩:=a j y hy
 exact⟨x,hx,e1.trans f1,e2.trans f2,e3.trans f3,e4.trans f4,e5.trans f5⟩
theorem gF.set {j:Nat} {z z':ay} (hz:ns[j]? =some z) (h:z'.kind=z.kind/\z'.space=z.space/\z'.name=z.name/\z'.attrs=z.attrs/\z'.text=z.text):gF ns (ns.set j z'):=fun k w hw=>by
 by_cases e:j=k
 ·subst e
  rw[List.getElem?_set_self (dv hz)] at hw
  cases hw
  exact⟨z,hz,h⟩
 ·rw[List.getElem?_set_ne e] at hw
  exact⟨w,hw,rfl,rfl,rfl,rfl,rfl⟩
theorem gT.mL (B:gT ns) (L:gF ns ns'):gT ns':=by
 refine⟨fun j z' h=>?_,fun z' h=>?_⟩
 ·obtain⟨z,hz,e1,e2,e3,e4,e5⟩:=L j z' h
  have:=B.all j z hz
  unfold G7 at this ⊢
  rw[e1,e2,e3,e4,e5]
  exact this
 ·obtain⟨z,hz,e1,_⟩:=L 0 z' h
  rw[e1];exact B.root z hz
theorem gj.mL (B:gj ns m) (L:gF ns ns'):gj ns' m:=fun j z' h=>by
 obtain⟨z,hz,_,_,_,_,e5⟩:=L j z' h
 rw[e5];exact B j z hz
theorem gj.mono (B:gj ns m) (h:m<=c):gj ns c:=fun j z hz=>Nat.le_trans (B j z hz) h
theorem KS (G:aV ns) (id:Int):gF ns (eD ns id).1:=fun j z' h=>by
 have hl:=dv h
 rw[mM ns G] at hl
 have hz:ns[j]? =some ns[j]:=List.getElem?_eq_getElem hl
 obtain⟨z1,Oa,e1,e2,e3,e4,e5,_⟩:=ji G (id:=id) hz
 rw[h] at Oa;cases Oa
 exact⟨_,hz,e1,e2,e3,e4,e5⟩
theorem fH (G:aV ns) (p b i:Int):gF ns (cV ns p b i).1:=by
 unfold cV
 by_cases hc:dU ns p=true/\(0<=i/\i<ns.length)/\i≠0/\b≠i/\0<=fh (((ns[p.toNat]?).map (·.kids)).getD []) b/\cm ns p i=false
 ·rw[if_pos hc]
  refine(KS G i).trans ?_
  show gF _ (putAt _ _ _ _)
  unfold putAt
  split
  ·exact gF.refl _
  ·rename_i y hy
   split
   ·exact gF.refl _
   ·rename_i x hx
    refine gF.trans ?_ (gF.set hx ?_)
    ·exact gF.set hy ⟨rfl,rfl,rfl,rfl,rfl⟩
    ·exact⟨rfl,rfl,rfl,rfl,rfl⟩
 ·rw[if_neg hc];exact gF.refl _
theorem zA (f d:Int):gF ns (dn ns f d).1:=by
 unfold dn
 by_cases hc:(0<=f/\f<ns.length)/\dU ns d=true/\(((ns[f.toNat]?).map (·.kids)).getD [])≠ []/\cm ns d f=false
 ·rw[if_pos hc]
  intro j z' h
  obtain⟨z,hz,rfl⟩:=gi h
  exact⟨z,hz,rfl,rfl,rfl,rfl,rfl⟩
 ·rw[if_neg hc];exact gF.refl _
theorem gT.KU:gT [mP]:=⟨fun j z h=>by
 cases j with
 | zero=>simp at h;subst h;exact .inr ⟨by decide,rfl,rfl,rfl⟩
 | succ j=>simp at h,fun z h=>by simp at h;subst h;rfl⟩
theorem gj.KU:gj [mP] 0:=fun j z h=>by
 cases j with
 | zero=>simp at h;subst h;exact Nat.le_refl _
 | succ j=>simp at h
theorem A9 {x:ay} {j:Nat} {z:ay} (h:(ns++ [x])[j]? =some z):ns[j]? =some z∨(j=ns.length/\z=x):=by
 by_cases hj:j<ns.length
 ·rw[List.getElem?_append_left hj] at h;exact .inl h
 ·have hl:=dv h
  rw[List.length_append,List.length_singleton] at hl
  have e:j=ns.length:=by omega
  rw[e,List.getElem?_append_right (Nat.le_refl _),Nat.sub_self] at h
  simp at h
  exact .inr ⟨e,h.symm⟩
theorem gT.bF (B:gT ns) (h0:0<ns.length) (kd sp:Int) (nm:Bs) (gB:List bx) (tx:Bs):gT (Go.Proofs.bF ns (bG kd sp nm gB tx)).1:=by
 have add:∀x,G7 x->gT (ns++ [x]):=fun x hx=>⟨fun j z h=>by
  rcases A9 h with h | ⟨_,rfl⟩
  ·exact B.all j z h
  ·exact hx,fun z h=>by
  rcases A9 h with h | ⟨e,_⟩
  ·exact B.root z h
  ·omega⟩
 unfold bG
 by_cases h1:kd=1
 ·rw[if_pos h1];exact add _ (.inl ⟨h1,rfl⟩)
 ·rw[if_neg h1]
  by_cases h2:kd=2∨kd=3
  ·rw[if_pos h2];exact add _ (.inr ⟨h1,rfl,rfl,rfl⟩)
  ·rw[if_neg h2];exact B
theorem gj.bF (B:gj ns m) {kd sp:Int} {nm:Bs} {gB:List bx} {tx:Bs} (ht:tx.length<=m):gj (Go.Proofs.bF ns (bG kd sp nm gB tx)).1 m:=by
 have add:∀x:ay,x.text.length<=m->gj (ns++ [x]) m:=fun x hx j z h=>by
  rcases A9 h with h | ⟨_,rfl⟩
  ·exact B j z h
  ·exact hx
 unfold bG
 by_cases h1:kd=1
 ·rw[if_pos h1];exact add _ (Nat.zero_le _)
 ·rw[if_neg h1]
  by_cases h2:kd=2∨kd=3
  ·rw[if_pos h2];exact add _ ht
  ·rw[if_neg h2];exact B
theorem wU (id:Int):(∃z,ns[id.toNat]? =some z/\bg ns id=Go.Proofs.bF ns (bG z.kind z.space z.name z.attrs z.text))∨bg ns id=(ns, -1):=by
 unfold bg
 by_cases h:0<=id/\id<ns.length
 ·rw[if_pos h]
  have hz:ns[id.toNat]? =some (ns[id.toNat]'(by omega)):=List.getElem?_eq_getElem (by omega)
  left
  exact⟨_,hz,by rw[hz];rfl⟩
 ·rw[if_neg h];exact .inr rfl
theorem gT.bg (B:gT ns) (h0:0<ns.length) (id:Int):gT (Go.Proofs.bg ns id).1:=by
 rcases wU (ns:=ns) id with ⟨z,_,e⟩ | e
 ·rw[e];exact B.bF h0 _ _ _ _ _
 ·rw[e];exact B
theorem gj.bg (B:gj ns m) (id:Int):gj (Go.Proofs.bg ns id).1 m:=by
 rcases wU (ns:=ns) id with ⟨z,hz,e⟩ | e
 ·rw[e];exact B.bF (B _ z hz)
 ·rw[e];exact B
theorem pE (p b:Int) (tx:Bs):(cy ns p b tx).1=ns∨(∃(j:Nat) (z:ay),ns[j]? =some z/\z.kind=2/\(cy ns p b tx).1=ns.set j {z with text:=z.text++tx})∨∃i,(cy ns p b tx).1=(cV (Go.Proofs.bF ns (bG 2 0 [] [] tx)).1 p b i).1:=by
 unfold cy
 split
 ·exact .inl rfl
 ·split
  ·exact .inl rfl
  ·split
   ·rename_i j z hm
    right;left
    obtain⟨k,hk,e⟩:=Option.bind_eq_some_iff.1 hm
    split at e
    ·obtain⟨w,hw,e2⟩:=Option.bind_eq_some_iff.1 e
     split at e2
     ·rename_i yi
      cases e2
      exact⟨_,_,hw,yi,rfl⟩
     ·cases e2
    ·cases e
   ·exact .inr (.inr ⟨_,rfl⟩)
theorem gT.cy (B:gT ns) (G:aV ns) (h0:0<ns.length) (p b:Int) (tx:Bs):gT (Go.Proofs.cy ns p b tx).1:=by
 rcases pE (ns:=ns) p b tx with e | ⟨j,z,hz,hk,e⟩ | ⟨i,e⟩
 ·rw[e];exact B
 ·rw[e]
  refine⟨fun k w hw=>?_,fun w hw=>?_⟩
  ·by_cases ej:j=k
   ·subst ej
    rw[List.getElem?_set_self (dv hz)] at hw
    cases hw
    rcases B.all j z hz with ⟨h1,_⟩ | h2
    ·omega
    ·exact .inr h2
   ·rw[List.getElem?_set_ne ej] at hw
    exact B.all k w hw
  ·by_cases ej:j=0
   ·subst ej
    have:=B.root z hz
    omega
   ·rw[List.getElem?_set_ne ej] at hw
    exact B.root w hw
 ·rw[e]
  exact(B.bF h0 _ _ _ _ _).mL (fH (G.bF _ _ _ _ _) _ _ _)
theorem gj.cy (B:gj ns m) (G:aV ns) (p b:Int) {tx:Bs} (ht:tx.length<=c):gj (Go.Proofs.cy ns p b tx).1 (m+c):=by
 rcases pE (ns:=ns) p b tx with e | ⟨j,z,hz,hk,e⟩ | ⟨i,e⟩
 ·rw[e];exact B.mono (Nat.le_add_right _ _)
 ·rw[e]
  intro k w hw
  by_cases ej:j=k
  ·subst ej
   rw[List.getElem?_set_self (dv hz)] at hw
   cases hw
   have:=B j z hz
   show(z.text++tx).length<=_
   rw[List.length_append];omega
  ·rw[List.getElem?_set_ne ej] at hw
   have:=B k w hw
   omega
 ·rw[e]
  exact((B.mono (c:=m+c) (by omega)).bF (by omega)).mL (fH (G.bF _ _ _ _ _) _ _ _)
theorem IG (G:aV ns) (p b:Int) (tx:Bs):(cy ns p b tx).1.length<=ns.length+1:=by
 rcases pE (ns:=ns) p b tx with e | ⟨j,z,hz,hk,e⟩ | ⟨i,e⟩
 ·rw[e];omega
 ·rw[e,List.length_set];omega
 ·rw[e,fy (G.bF _ _ _ _ _)];exact O7
theorem sO (f d:Int):(dn ns f d).1.length=ns.length:=by
 unfold dn
 split
 ·exact hU
 ·rfl
end
end Go.Proofs
namespace Go.Proofs
open Go
set_option linter.unusedVariables false
set_option maxRecDepth 100000
abbrev aP:=Int × Int × Bs × Int
def rL (ws:List Bs):Bs:=ws.flatMap fun w=>w++ [32]
def rowOf (ws:List Bs):Bs:=32::rL ws
def Ba (row w:Bs):Bool:=!decide (w=[])&&(!Lib.contains w [32]&&Lib.contains row ([32]++w++ [32]))
theorem G8 (s sub:Bs) (i:Nat):Lib.occAt s sub i=true↔∃b,s.drop i=sub++b:=by
 unfold Lib.occAt
 rw[List.isPrefixOf_iff_prefix]
 exact⟨fun⟨b,e⟩=>⟨b,e.symm⟩,fun⟨b,e⟩=>⟨b,e.symm⟩⟩
theorem contains_iff (s sub:Bs):Lib.contains s sub=true↔∃a b,s=a++sub++b:=by
 unfold Lib.contains
 rcases Lib.index_spec s sub with ⟨h1,h2⟩ | ⟨i,h1,h2,h3,_⟩
 ·rw[h1]
  refine⟨fun h=>(by cases h),fun⟨a,b,e⟩=>?_⟩
  have:=h2 a.length (by rw[e];simp)
  have h3:Lib.occAt s sub a.length=true:=(G8 _ _ _).2 ⟨b,by rw[e,List.append_assoc,List.drop_left]⟩
  rw[this] at h3;cases h3
 ·rw[h1]
  refine⟨fun _=>?_,fun _=>by simp⟩
  obtain⟨b,e⟩:=(G8 _ _ _).1 h3
  exact⟨s.take i,b,by rw[List.append_assoc,<-e,List.take_append_drop]⟩
theorem sQ (s:Bs) (c:UInt8):Lib.contains s [c]=decide (c ∈ s):=by
 rw[Bool.eq_iff_iff,contains_iff,decide_eq_true_eq]
 refine⟨fun⟨a,b,e⟩=>by rw[e];simp,fun h=>?_⟩
 obtain⟨a,b,e⟩:=List.append_of_mem h
 exact⟨a,b,by rw[e];simp⟩
theorem G9:∀{v w r t:Bs},32 ∉ v->32 ∉ w->v++32::r=w++32::t->v=w/\r=t
 | [],[],r,t,_,_,e=>by simpa using e
 | [],c::w,r,t,_,hw,e=>by
  simp at e;exact absurd e.1 (fun h=>hw (by simp[h]))
 | c::v,[],r,t,hv,_,e=>by
  simp at e;exact absurd e.1 (fun h=>hv (by simp[h]))
 | c::v,d::w,r,t,hv,hw,e=>by
  simp at e
  obtain⟨h1,h2⟩:=G9 (v:=v) (w:=w) (fun h=>hv (by simp[h])) (fun h=>hw (by simp[h])) e.2
  exact⟨by rw[e.1,h1],h2⟩
theorem zD:∀{v a r t:Bs},32 ∉ v->v++32::r=a++32::t->a=v/\r=t∨∃a',a=v++a'/\32::r=a'++32::t
 | [],a,r,t,_,e=>.inr ⟨a,rfl,e⟩
 | c::v,[],r,t,hv,e=>by
  simp at e;exact absurd e.1 (fun h=>hv (by simp[h]))
 | c::v,d::a,r,t,hv,e=>by
  simp at e
  rcases zD (v:=v) (a:=a) (fun h=>hv (by simp[h])) e.2 with ⟨h1,h2⟩ | ⟨a',h1,h2⟩
  ·exact .inl ⟨by rw[e.1,h1],h2⟩
  ·exact .inr ⟨a',by rw[e.1,h1];rfl,h2⟩
theorem w8 {w:Bs} (N3:w≠ []) (hw:32 ∉ w):∀{ws:List Bs} {a b:Bs},(∀v ∈ ws,32 ∉ v)->rowOf ws=a++([32]++w++ [32])++b->w ∈ ws
 | [],a,b,_,e=>by
  have:=congrArg List.length e
  have h1:0<w.length:=List.length_pos_iff.2 N3
  simp[rowOf,rL] at this;omega
 | v::ws,a,b,hv,e=>by
  have hv0:=hv v (by simp)
  have e2:rowOf (v::ws)=32::(v++rowOf ws):=by simp[rowOf,rL]
  rw[e2] at e
  cases a with
  | nil=>
   have e3:v++32::rL ws=w++32::b:=by simpa [rowOf] using e
   rw[(G9 hv0 hw e3).1];simp
  | cons c a=>
   have e3:v++32::rL ws=a++32::(w++32::b):=by
    simp[rowOf] at e
    rw[e.2]
   rcases zD hv0 e3 with ⟨h1,h2⟩ | ⟨a',h1,h2⟩
   ·-- the blank ahead of w is the one behind v
    have h3:rowOf ws=[]++([32]++w++ [32])++b:=by simp[rowOf,h2]
    exact List.mem_cons_of_mem _ (w8 N3 hw (fun x hx=>hv x (by simp[hx])) h3)
   ·have h3:rowOf ws=a'++([32]++w++ [32])++b:=by simp[rowOf,h2]
    exact List.mem_cons_of_mem _ (w8 N3 hw (fun x hx=>hv x (by simp[hx])) h3)
theorem Dc {w:Bs}:∀{ws:List Bs},w ∈ ws->∃a b,rowOf ws=a++([32]++w++ [32])++b
 | v::ws,h=>by
  have e2:rowOf (v::ws)=32::(v++rowOf ws):=by simp[rowOf,rL]
  rcases List.mem_cons.1 h with rfl | h
  ·exact⟨[],rL ws,by rw[e2];simp[rowOf]⟩
  ·obtain⟨a,b,e⟩:=Dc h
   exact⟨32::(v++a),b,by rw[e2,e];simp⟩
def pF (ws:List Bs):Bool:=ws.all fun w=>!w.isEmpty&&!(w.elem 32)
theorem O8 {ws:List Bs} (hp:pF ws=true) (w:Bs):Ba (rowOf ws) w=decide (w ∈ ws):=by
 have hws:∀v ∈ ws,v≠ []/\32 ∉ v:=fun v hv=>by
  have:=List.all_eq_true.1 hp v hv
  simp only[Bool.and_eq_true,Bool.not_eq_true',List.isEmpty_eq_false_iff,List.elem_eq_mem,decide_eq_false_iff_not] at this
  exact this
 unfold Ba
 rw[sQ]
 by_cases N3:w=[]
 ·rw[decide_eq_true N3,decide_eq_false (fun hm=>(hws w hm).1 N3)];rfl
 ·by_cases hb:32 ∈ w
  ·rw[decide_eq_true hb,decide_eq_false (fun hm=>(hws w hm).2 hb)];simp
  ·rw[decide_eq_false N3,decide_eq_false hb]
   simp only[Bool.not_false,Bool.true_and]
   rw[Bool.eq_iff_iff,contains_iff,decide_eq_true_eq]
   exact⟨fun⟨a,b,e⟩=>w8 N3 hb (fun v hv=>(hws v hv).2) e,Dc⟩
def Dd:List Bs:=[[97,100,100,114,101,115,115],[97,112,112,108,101,116],[97,114,101,97],[97,114,116,105,99,108,101],[97,115,105,100,101],[98,97,115,101],[98,97,115,101,102,111,110,116],[98,103,115,111,117,110,100],[98,108,111,99,107,113,117,111,116,101],[98,111,100,121],[98,114],[98,117,116,116,111,110],[99,97,112,116,105,111,110],[99,101,110,116,101,114],[99,111,108],[99,111,108,103,114,111,117,112],[100,100],[100,101,116,97,105,108,115],[100,105,97,108,111,103],[100,105,114],[100,105,118],[100,108],[100,116],[101,109,98,101,100],[102,105,101,108,100,115,101,116],[102,105,103,99,97,112,116,105,111,110],[102,105,103,117,114,101],[102,111,111,116,101,114],[102,111,114,109],[102,114,97,109,101],[102,114,97,109,101,115,101,116],[104,49],[104,50],[104,51],[104,52],[104,53],[104,54],[104,101,97,100],[104,101,97,100,101,114],[104,103,114,111,117,112],[104,114],[104,116,109,108],[105,102,114,97,109,101],[105,109,103],[105,110,112,117,116],[107,101,121,103,101,110],[108,105],[108,105,110,107],[108,105,115,116,105,110,103],[109,97,105,110],[109,97,114,113,117,101,101],[109,101,110,117],[109,101,116,97],[110,97,118],[110,111,101,109,98,101,100],[110,111,102,114,97,109,101,115],[110,111,115,99,114,105,112,116],[111,98,106,101,99,116],[111,108],[112],[112,97,114,97,109],[112,108,97,105,110,116,101,120,116],[112,114,101],[115,99,114,105,112,116],[115,101,97,114,99,104],[115,101,99,116,105,111,110],[115,101,108,101,99,116],[115,111,117,114,99,101],[115,116,121,108,101],[115,117,109,109,97,114,121],[116,97,98,108,101],[116,98,111,100,121],[116,100],[116,101,109,112,108,97,116,101],[116,101,120,116,97,114,101,97],[116,102,111,111,116],[116,104],[116,104,101,97,100],[116,105,116,108,101],[116,114],[116,114,97,99,107],[117,108],[119,98,114],[120,109,112]]
theorem KY:pF Dd=true:=by decide+kernel
def qZ:List Bs:=[[97,110,110,111,116,97,116,105,111,110,45,120,109,108],[109,105],[109,110],[109,111],[109,115],[109,116,101,120,116]]
theorem KZ:pF qZ=true:=by decide+kernel
def FE:List Bs:=[[100,101,115,99],[102,111,114,101,105,103,110,79,98,106,101,99,116],[116,105,116,108,101]]
theorem O9:pF FE=true:=by decide+kernel
def Cq:List Bs:=[[97],[98],[98,105,103],[99,111,100,101],[101,109],[102,111,110,116],[105],[110,111,98,114],[115],[115,109,97,108,108],[115,116,114,105,107,101],[115,116,114,111,110,103],[116,116],[117]]
theorem Pb:pF Cq=true:=by decide+kernel
def w9:List Bs:=[[97,112,112,108,101,116],[99,97,112,116,105,111,110],[104,116,109,108],[109,97,114,113,117,101,101],[111,98,106,101,99,116],[116,97,98,108,101],[116,100],[116,101,109,112,108,97,116,101],[116,104]]
theorem Pc:pF w9=true:=by decide+kernel
def IH:List Bs:=[[100,100],[100,116],[108,105],[111,112,116,103,114,111,117,112],[111,112,116,105,111,110],[112],[114,98],[114,112],[114,116],[114,116,99]]
theorem Pd:pF IH=true:=by decide+kernel
def bm (ns:List Bs) (s:Bs):Bool:=decide (s ∈ ns)
def cq (sp:Int) (s:Bs):Bool:=if sp=0 then bm Dd s else if sp=2 then bm qZ s else if sp=1 then bm FE s else false
def dS (s:Bs):Bool:=bm Cq s
def jC (x:aP) (ns:List Bs):Bool:=decide (x.2.1=0)&&bm ns x.2.2.1
def tZ:List Bs:=[[104,116,109,108],[116,97,98,108,101],[116,101,109,112,108,97,116,101]]
def pG:List Bs:=[[111,108],[117,108]]
def gw:List Bs:=[[98,117,116,116,111,110]]
def De:List Bs:=[[97,100,100,114,101,115,115],[100,105,118],[112]]
def eC (x:aP) (sc:Int):Bool:=
 if sc=3 then jC x tZ else if x.2.1≠0 then cq x.2.1 x.2.2.1
 else bm w9 x.2.2.1||(decide (sc=1)&&bm pG x.2.2.1)||(decide (sc=2)&&bm gw x.2.2.1)
def eW {R:Type} (f:Nat->aP->Option R) (d:R) (l:List aP):Nat->R
 | 0=>d
 | i+1=>match f i (l.getD i (0,0,[],0)) with
  | some r=>r
  | none=>eW f d l i
def scan {R:Type} (f:Nat->aP->Option R) (d:R) (l:List aP):R:=eW f d l l.length
def II (sc:Int) (ns:List Bs) (_:Nat) (x:aP):Option Bool:=if jC x ns then some true else if eC x sc then some false else none
def fI (ex:Bs) (i:Nat) (x:aP):Option Int:=if x.2.1≠0∨x.2.2.1=ex∨bm IH x.2.2.1=false then some ((i:Int)+1) else none
def iV (ns:List Bs) (i:Nat) (x:aP):Option Int:=if jC x ns then some (i:Int) else none
def jf (ns:List Bs) (i:Nat) (x:aP):Option Int:=if jC x ns then some (i:Int) else if cq x.2.1 x.2.2.1&&!jC x De then some (-1) else none
def lg (l:List aP) (sc:Int) (ns:List Bs):Bool:=scan (II sc ns) false l
def iA (l:List aP) (ex:Bs):Int:=scan (fI ex) 0 l
def bO (l:List aP) (ns:List Bs):Int:=scan (iV ns) (-1) l
def qV (l:List aP) (ns:List Bs):Int:=scan (jf ns) (-1) l
end Go.Proofs
