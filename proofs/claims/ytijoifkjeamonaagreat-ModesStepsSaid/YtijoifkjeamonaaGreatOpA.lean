import Derived.Test.YtijoifkjeamonaaGreatHc
import Derived.Test.YtijoifkjeamonaaGreatDoE
import Derived.Test.YtijoifkjeamonaaGreatShD
import Derived.Lib.IndexMore
import Derived.Lib.IndexLaws
namespace Go.Proofs
open Go Go.Sh
set_option linter.unusedVariables false
theorem sC {ns:List ay} {i p:Nat} {x y:ay} (hi:i<ns.length) (hp:p<ns.length) (j:Nat):((ns.set p y).set i x)[j]? =if j=i then some x else if j=p then some y else ns[j]? :=by
 by_cases e:j=i
 ·rw[if_pos e,e,List.getElem?_set_self (by rw[List.length_set];exact hi)]
 ·rw[if_neg e,List.getElem?_set_ne (fun h=>e h.symm)]
  by_cases e2:j=p
  ·rw[if_pos e2,e2,List.getElem?_set_self hp]
  ·rw[if_neg e2,List.getElem?_set_ne (fun h=>e2 h.symm)]
theorem qR {l:List Int} (hn:l.Nodup) {i:Int} (hi:i ∈ l) (k:Int):k ∈ l.eraseIdx (bj i l)↔k ∈ l/\k≠i:=by
 have hg:=wS hi
 have cR:=pO hi
 rw[List.mem_eraseIdx_iff_getElem?]
 constructor
 ·rintro⟨m,hm,hk⟩
  refine⟨List.mem_of_getElem? hk,fun e=>hm ?_⟩
  subst e
  have h1:=(List.getElem?_eq_some_iff.1 hk).1
  have h2:=(List.getElem?_eq_some_iff.1 hg)
  have h3:=(List.getElem?_eq_some_iff.1 hk)
  exact(List.getElem_inj hn).1 (h3.2.trans h2.2.symm)
 ·rintro⟨hk,bL⟩
  obtain⟨m,hm,e⟩:=List.getElem_of_mem hk
  refine⟨m,fun e2=>bL ?_,by rw[List.getElem?_eq_getElem hm,e]⟩
  subst e2
  rw[List.getElem?_eq_getElem hm,e] at hg
  exact Option.some.inj hg
theorem wT:∀(N:Nat) (l:List Int),l.Nodup->(∀x ∈ l,0<=x/\x<(N:Int))->l.length<=N
 | 0,l,hn,h=>by
  cases l with
  | nil=>exact Nat.le_refl _
  | cons x l=>have:=h x (List.mem_cons_self ..);omega
 | N+1,l,hn,h=>by
  by_cases hm:(N:Int) ∈ l
  ·have h1:=wT N (l.erase (N:Int)) (hn.erase _) fun x hx=>by
    have h2:=(List.Nodup.mem_erase_iff hn).1 hx
    have:=h x h2.2
    have h3:=h2.1
    omega
   rw[List.length_erase_of_mem hm] at h1
   omega
  ·have h1:=wT N l hn fun x hx=>by
    have:=h x hx
    have h3:x≠(N:Int):=fun e=>hm (e▸hx)
    omega
   omega
theorem aV.mQ {ns:List ay} (G:aV ns) {i:Nat} {x:ay} (hx:ns[i]? =some x):x.kids.length<=ns.length:=
 wT _ _ (G.nodup i x hx) fun k hk=>by
  obtain⟨j,y,rfl,hy,_⟩:=(G.kT i x k hx).1 hk
  have:=dv hy
  omega
theorem aV.cut {ns:List ay} (G:aV ns) {i p:Nat} {x y:ay} (hx:ns[i]? =some x) (hp:x.parent=(p:Int)) (hy:ns[p]? =some y):aV (cutAt ns i x p y):=by
 have hi:=dv hx
 have qq:=dv hy
 have bL:=G.tM hx hp
 have iZ:(i:Int) ∈ y.kids:=(G.kT p y _ hy).2 ⟨i,x,rfl,hx,hp⟩
 have gs:=fun j=>sC (ns:=ns) (x:={x with parent:= -1}) (y:={y with kids:=y.kids.eraseIdx (bj (i:Int) y.kids)}) hi qq j
 have hlen:(cutAt ns i x p y).length=ns.length:=by unfold cutAt;simp
 have par':∀(j:Nat) z,(cutAt ns i x p y)[j]? =some z->(j=i/\z.parent= -1)∨(j≠i/\∃w,ns[j]? =some w/\w.parent=z.parent):=by
  intro j z hz
  unfold cutAt at hz
  rw[gs] at hz
  by_cases e:j=i
  ·rw[if_pos e] at hz;cases hz;exact .inl ⟨e,rfl⟩
  ·rw[if_neg e] at hz
   by_cases e2:j=p
   ·rw[if_pos e2] at hz;cases hz;exact .inr ⟨e,y,e2▸hy,rfl⟩
   ·rw[if_neg e2] at hz;exact .inr ⟨e,z,hz,rfl⟩
 have XF:∀(j:Nat) w,ns[j]? =some w->j≠i->∃z,(cutAt ns i x p y)[j]? =some z/\z.parent=w.parent:=by
  intro j w hw e
  unfold cutAt
  rw[gs,if_neg e]
  by_cases e2:j=p
  ·rw[if_pos e2]
   rw[e2,hy] at hw;cases hw
   exact⟨_,rfl,rfl⟩
  ·rw[if_neg e2];exact⟨w,hw,rfl⟩
 refine⟨fun j z hz=>?_,fun j z k hz=>?_,fun j z hz=>?_,?_,?_⟩
 ·rw[hlen]
  rcases par' j z hz with ⟨_,h⟩ | ⟨_,w,hw,h⟩
  ·exact .inl h
  ·rw[<-h];exact G.par j w hw
 ·have key:∀(K:List Int),(k ∈ K↔(∃(m:Nat) (w:ay),k=(m:Int)/\ns[m]? =some w/\w.parent=(j:Int))/\k≠(i:Int))->(k ∈ K↔∃(m:Nat) (w:ay),k=(m:Int)/\(cutAt ns i x p y)[m]? =some w/\w.parent=(j:Int)):=by
   intro K hK
   rw[hK]
   constructor
   ·rintro⟨⟨m,w,rfl,hw,IA⟩,hk⟩
    obtain⟨z2,pN,KU⟩:=XF m w hw (by omega)
    exact⟨m,z2,rfl,pN,KU.trans IA⟩
   ·rintro⟨m,w,rfl,hw,IA⟩
    rcases par' m w hw with ⟨_,h⟩ | ⟨h1,w2,uB,h⟩
    ·rw[h] at IA;omega
    ·exact⟨⟨m,w2,rfl,uB,h.trans IA⟩,by omega⟩
  refine key z.kids ?_
  unfold cutAt at hz
  rw[gs] at hz
  by_cases e:j=i
  ·rw[if_pos e] at hz;cases hz
   rw[e]
   show k ∈ x.kids↔_
   rw[G.kT i x k hx]
   exact⟨fun h=>⟨h,by
    obtain⟨m,w,rfl,hw,IA⟩:=h
    intro e2
    have:m=i:=by omega
    subst this
    rw[hx] at hw;cases hw
    rw[hp] at IA;omega⟩,fun h=>h.1⟩
  ·rw[if_neg e] at hz
   by_cases e2:j=p
   ·rw[if_pos e2] at hz;cases hz
    rw[e2]
    show k ∈ y.kids.eraseIdx _↔_
    rw[qR (G.nodup p y hy) iZ,G.kT p y k hy]
   ·rw[if_neg e2] at hz
    rw[G.kT j z k hz]
    exact⟨fun h=>⟨h,by
     obtain⟨m,w,rfl,hw,IA⟩:=h
     intro e3
     have:m=i:=by omega
     subst this
     rw[hx] at hw;cases hw
     rw[hp] at IA;omega⟩,fun h=>h.1⟩
 ·unfold cutAt at hz
  rw[gs] at hz
  by_cases e:j=i
  ·rw[if_pos e] at hz;cases hz;exact G.nodup i x hx
  ·rw[if_neg e] at hz
   by_cases e2:j=p
   ·rw[if_pos e2] at hz;cases hz;exact(G.nodup p y hy).sublist (List.eraseIdx_sublist ..)
   ·rw[if_neg e2] at hz;exact G.nodup j z hz
 ·obtain⟨rk,hr⟩:=G.CW
  refine⟨rk,fun j q z hz hq=>?_⟩
  rcases par' j z hz with ⟨_,h⟩ | ⟨_,w,hw,h⟩
  ·rw[h] at hq;omega
  ·exact hr j q w hw (h.trans hq)
 ·obtain⟨r,hr,Pb⟩:=G.root
  by_cases e:0=i
  ·exact⟨{x with parent:= -1},by unfold cutAt;rw[gs,if_pos e],rfl⟩
  ·obtain⟨z,hz,KU⟩:=XF 0 r hr e
   exact⟨z,hz,KU.trans Pb⟩
theorem rE {ns:List ay} (G:aV ns) (id:Int):eC ns id=(ns,false)∨∃(i p:Nat) (x y:ay),id=(i:Int)/\ns[i]? =some x/\x.parent=(p:Int)/\ns[p]? =some y/\eC ns id=(cutAt ns i x p y,true):=by
 unfold eC
 by_cases h:0<=id/\id<ns.length
 ·rw[if_pos h]
  obtain⟨i,rfl⟩:=Int.eq_ofNat_of_zero_le h.1
  have hi:i<ns.length:=by omega
  have hx:ns[(i:Int).toNat]? =some ns[i]:=by rw[Int.toNat_natCast];exact List.getElem?_eq_getElem hi
  rw[hx]
  have IB:ns[i]? =some ns[i]:=List.getElem?_eq_getElem hi
  show(if ns[i].parent<0 then(ns,false) else _)=_∨_
  rcases G.par i _ IB with h1 | ⟨h1,h2⟩
  ·left;rw[if_pos (by omega)]
  ·right
   obtain⟨p,hp⟩:=Int.eq_ofNat_of_zero_le h1
   have hp:ns[i].parent=(p:Int):=hp
   have qq:p<ns.length:=by omega
   refine⟨i,p,ns[i],ns[p],rfl,IB,hp,List.getElem?_eq_getElem qq,?_⟩
   dsimp only
   rw[if_neg (by omega),hp,Int.toNat_natCast,List.getElem?_eq_getElem qq]
   dsimp only
   rw[Int.toNat_natCast]
 ·left;rw[if_neg h]
theorem aV.eC {ns:List ay} (G:aV ns) (id:Int):aV (Go.Proofs.eC ns id).1:=by
 rcases rE G id with h | ⟨i,p,x,y,_,hx,hp,hy,h⟩
 ·rw[h];exact G
 ·rw[h];exact G.cut hx hp hy
theorem mE (ns:List ay) (G:aV ns) (id:Int):(eC ns id).1.length=ns.length:=by
 rcases rE G id with h | ⟨i,p,x,y,_,hx,hp,hy,h⟩
 ·rw[h]
 ·rw[h];unfold cutAt;simp
theorem jd {ns:List ay} (G:aV ns) {id:Int} {j:Nat} {z:ay} (hz:ns[j]? =some z):
  ∃z',(eC ns id).1[j]? =some z'/\z'.kind=z.kind/\z'.space=z.space/\z'.name=z.name/\z'.attrs=z.attrs/\z'.text=z.text/\(∀k,k ∈ z'.kids↔k ∈ z.kids/\k≠id)/\((j:Int)=id->z'.parent= -1)/\((j:Int)≠id->z'.parent=z.parent):=by
 have G':=G.eC id
 have zE:∀z',(eC ns id).1[j]? =some z'->(∀k,k ∈ z'.kids↔k ∈ z.kids/\k≠id)/\((j:Int)=id->z'.parent= -1)/\((j:Int)≠id->z'.parent=z.parent)/\z'.kind=z.kind/\z'.space=z.space/\z'.name=z.name/\z'.attrs=z.attrs/\z'.text=z.text:=by
  intro z' il
  have G9:∀{x:ay} {i:Nat},ns[i]? =some x->eC ns (i:Int)=(ns,false)->x.parent= -1:=by
   intro x i hx h
   rcases G.par i x hx with h1 | ⟨h1,h2⟩
   ·exact h1
   ·exfalso
    obtain⟨p,hp⟩:=Int.eq_ofNat_of_zero_le h1
    have hp:x.parent=(p:Int):=hp
    unfold Go.Proofs.eC at h
    have hi:=dv hx
    rw[if_pos (by omega),Int.toNat_natCast,hx] at h
    simp only at h
    rw[if_neg (by omega),hp,Int.toNat_natCast,List.getElem?_eq_getElem (show p<ns.length by omega)] at h
    have:=congrArg Prod.snd h
    cases this
  rcases rE G id with h | ⟨i,p,x,y,rfl,hx,hp,hy,h⟩
  ·rw[h] at il
   rw[hz] at il;cases il
   refine⟨fun k=>⟨fun hk=>⟨hk,fun e=>?_⟩,fun hk=>hk.1⟩,fun e=>G9 hz (by rw[e];exact h),fun _=>rfl,rfl,rfl,rfl,rfl,rfl⟩
   subst e
   obtain⟨m,w,rfl,hw,hpw⟩:=(G.kT j z k hz).1 hk
   have:=G9 hw h
   omega
  ·rw[h] at il
   have hi:=dv hx
   have qq:=dv hy
   have bL:=G.tM hx hp
   have iZ:(i:Int) ∈ y.kids:=(G.kT p y _ hy).2 ⟨i,x,rfl,hx,hp⟩
   have other:∀(m:Nat) w,ns[m]? =some w->m≠p->(i:Int) ∉ w.kids:=fun m w hw hmp hk=>by
    obtain⟨m2,w2,e,uB,IA⟩:=(G.kT m w _ hw).1 hk
    have:m2=i:=by omega
    subst this
    rw[hx] at uB;cases uB
    rw[hp] at IA;omega
   unfold cutAt at il
   rw[sC hi qq] at il
   by_cases e:j=i
   ·rw[if_pos e] at il;cases il
    subst e
    rw[hx] at hz;cases hz
    exact⟨fun k=>⟨fun hk=>⟨hk,fun e=>by subst e;exact other j _ hx bL hk⟩,fun hk=>hk.1⟩,fun _=>rfl,fun e=>absurd rfl e,rfl,rfl,rfl,rfl,rfl⟩
   ·rw[if_neg e] at il
    by_cases e2:j=p
    ·rw[if_pos e2] at il;cases il
     subst e2
     rw[hy] at hz;cases hz
     exact⟨fun k=>qR (G.nodup j _ hy) iZ k,fun e3=>by omega,fun _=>rfl,rfl,rfl,rfl,rfl,rfl⟩
    ·rw[if_neg e2] at il
     rw[hz] at il;cases il
     exact⟨fun k=>⟨fun hk=>⟨hk,fun e3=>by subst e3;exact other j z hz e2 hk⟩,fun hk=>hk.1⟩,fun e3=>by omega,fun _=>rfl,rfl,rfl,rfl,rfl,rfl⟩
 have cR:j<(eC ns id).1.length:=by rw[mE ns G];exact dv hz
 obtain⟨h1,h2,h3,h4,h5,h6,h7,h8⟩:=zE _ (List.getElem?_eq_getElem cR)
 exact⟨_,List.getElem?_eq_getElem cR,h4,h5,h6,h7,h8,h1,h2,h3⟩
theorem eX {ns:List ay} {j:Nat} {z:ay} (h:ns[j]? =some z):jo ns (j:Int)=z.parent:=by unfold jo;rw[Int.toNat_natCast,h];rfl
theorem dw {ns:List ay} {j:Nat} {of:Int}:nW ns (j:Int) of↔of=(j:Int)∨nW ns (jo ns j) of:=by
 constructor
 ·rintro⟨f,hf⟩
  cases f with
  | zero=>cases hf
  | succ f=>
   unfold dR at hf
   rw[if_pos (by omega)] at hf
   rcases List.mem_cons.1 hf with h | h
   ·exact .inl h
   ·exact .inr ⟨f,h⟩
 ·rintro(h | ⟨f,hf⟩)
  ·exact⟨1,by unfold dR;rw[if_pos (by omega),h];exact List.mem_cons_self ..⟩
  ·exact⟨f+1,by unfold dR;rw[if_pos (by omega)];exact List.mem_cons_of_mem _ hf⟩
theorem Ha {ns:List ay} {i of:Int} (h:i<0):¬nW ns i of:=fun⟨f,hf⟩=>by rw[tO h] at hf;cases hf
theorem Lb {ns ns1:List ay} {i:Int} (hp:∀j:Nat,(j:Int)≠i->jo ns1 j=jo ns j) (f:Nat):∀j:Int,i ∈ dR ns1 f j->i ∈ dR ns f j:=by
 induction f with
 | zero=>intro j h;cases h
 | succ f ih=>
  intro j h
  unfold dR at h ⊢
  split at h
  ·rename_i h0
   rw[if_pos h0]
   rcases List.mem_cons.1 h with rfl | h
   ·exact List.mem_cons_self ..
   ·by_cases e:j=i
    ·rw[e];exact List.mem_cons_self ..
    ·obtain⟨k,rfl⟩:=Int.eq_ofNat_of_zero_le h0
     rw[hp k e] at h
     exact List.mem_cons_of_mem _ (ih _ h)
  ·cases h
noncomputable def pd (ns:List ay) (i m:Nat) (rk:Nat->Nat) (j:Nat):Nat:=@ite _ (nW ns (j:Int) (i:Int)) (Classical.propDecidable _) (rk j+m) (rk j)
theorem mF {ns:List ay} {i m j:Nat} {rk:Nat->Nat} (h:nW ns (j:Int) (i:Int)):pd ns i m rk j=rk j+m:=by unfold pd;exact if_pos h
theorem iQ {ns:List ay} {i m j:Nat} {rk:Nat->Nat} (h:¬nW ns (j:Int) (i:Int)):pd ns i m rk j=rk j:=by unfold pd;exact if_neg h
theorem aV.put {ns:List ay} (G:aV ns) {i p:Nat} {x y:ay} {K':List Int} (hx:ns[i]? =some x) (hy:ns[p]? =some y) (hpx:x.parent= -1) (bL:i≠p) (h0:i≠0) (dk:¬nW ns (p:Int) (i:Int))
  (jO:K'.Nodup) (hK:∀k,k ∈ K'↔k=(i:Int)∨k ∈ y.kids):aV ((ns.set p {y with kids:=K'}).set i {x with parent:=(p:Int)}):=by
 have hi:=dv hx
 have qq:=dv hy
 have gs:=fun j=>sC (ns:=ns) (x:={x with parent:=(p:Int)}) (y:={y with kids:=K'}) hi qq j
 have par':∀(j:Nat) z,((ns.set p {y with kids:=K'}).set i {x with parent:=(p:Int)})[j]? =some z->(j=i/\z.parent=(p:Int))∨(j≠i/\∃w,ns[j]? =some w/\w.parent=z.parent):=by
  intro j z hz
  rw[gs] at hz
  by_cases e:j=i
  ·rw[if_pos e] at hz;cases hz;exact .inl ⟨e,rfl⟩
  ·rw[if_neg e] at hz
   by_cases e2:j=p
   ·rw[if_pos e2] at hz;cases hz;exact .inr ⟨e,y,e2▸hy,rfl⟩
   ·rw[if_neg e2] at hz;exact .inr ⟨e,z,hz,rfl⟩
 have XF:∀(j:Nat) w,ns[j]? =some w->j≠i->∃z,((ns.set p {y with kids:=K'}).set i {x with parent:=(p:Int)})[j]? =some z/\z.parent=w.parent:=by
  intro j w hw e
  rw[gs,if_neg e]
  by_cases e2:j=p
  ·rw[if_pos e2]
   rw[e2,hy] at hw;cases hw
   exact⟨_,rfl,rfl⟩
  ·rw[if_neg e2];exact⟨w,hw,rfl⟩
 have exi:∃z,((ns.set p {y with kids:=K'}).set i {x with parent:=(p:Int)})[i]? =some z/\z.parent=(p:Int):=⟨_,by rw[gs,if_pos rfl],rfl⟩
 have noti:∀(j:Nat) w,ns[j]? =some w->(i:Int) ∉ w.kids:=fun j w hw hm=>by
  obtain⟨m,v,e,hv,hq⟩:=(G.kT j w _ hw).1 hm
  have:m=i:=by omega
  subst this
  rw[hx] at hv;cases hv
  omega
 have IC:∀(j:Nat) (k:Int),j≠p->((∃(m:Nat) (w:ay),k=(m:Int)/\ns[m]? =some w/\w.parent=(j:Int))↔∃(m:Nat) (w:ay),k=(m:Int)/\((ns.set p {y with kids:=K'}).set i {x with parent:=(p:Int)})[m]? =some w/\w.parent=(j:Int)):=by
  intro j k hj
  constructor
  ·rintro⟨m,w,rfl,hw,hq⟩
   have hmi:m≠i:=fun e=>by subst e;rw[hx] at hw;cases hw;omega
   obtain⟨z,hz,Y8⟩:=XF m w hw hmi
   exact⟨m,z,rfl,hz,Y8.trans hq⟩
  ·rintro⟨m,w,rfl,hw,hq⟩
   rcases par' m w hw with ⟨_,h⟩ | ⟨_,v,hv,h⟩
   ·rw[h] at hq;omega
   ·exact⟨m,v,rfl,hv,h.trans hq⟩
 refine⟨fun j z hz=>?_,fun j z k hz=>?_,fun j z hz=>?_,?_,?_⟩
 ·rw[List.length_set,List.length_set]
  rcases par' j z hz with ⟨_,h⟩ | ⟨_,w,hw,h⟩
  ·right;omega
  ·rw[<-h];exact G.par j w hw
 ·rw[gs] at hz
  by_cases e:j=i
  ·rw[if_pos e] at hz;cases hz
   rw[e]
   show k ∈ x.kids↔_
   rw[G.kT i x k hx]
   exact IC i k bL
  ·rw[if_neg e] at hz
   by_cases e2:j=p
   ·rw[if_pos e2] at hz;cases hz
    rw[e2]
    show k ∈ K'↔_
    rw[hK,G.kT p y k hy]
    constructor
    ·rintro(rfl | ⟨m,w,rfl,hw,hq⟩)
     ·obtain⟨z,hz,Y8⟩:=exi
      exact⟨i,z,rfl,hz,Y8⟩
     ·have hmi:m≠i:=fun e=>by subst e;rw[hx] at hw;cases hw;omega
      obtain⟨z,hz,Y8⟩:=XF m w hw hmi
      exact⟨m,z,rfl,hz,Y8.trans hq⟩
    ·rintro⟨m,w,rfl,hw,hq⟩
     rcases par' m w hw with ⟨h,_⟩ | ⟨_,v,hv,h⟩
     ·exact .inl (by rw[h])
     ·exact .inr ⟨m,v,rfl,hv,h.trans hq⟩
   ·rw[if_neg e2] at hz
    rw[G.kT j z k hz]
    exact IC j k e2
 ·rw[gs] at hz
  by_cases e:j=i
  ·rw[if_pos e] at hz;cases hz;exact G.nodup i x hx
  ·rw[if_neg e] at hz
   by_cases e2:j=p
   ·rw[if_pos e2] at hz;cases hz;exact jO
   ·rw[if_neg e2] at hz;exact G.nodup j z hz
 ·obtain⟨rk,hr⟩:=G.CW
  refine⟨pd ns i (rk p+1) rk,fun j q z hz hq=>?_⟩
  rcases par' j z hz with ⟨h,h2⟩ | ⟨O9,w,hw,h⟩
  ·have e1:q=p:=by omega
   rw[e1,h,iQ dk,mF (dw.2 (.inl rfl))]
   omega
  ·have hwq:w.parent=(q:Int):=h.trans hq
   have cR:=hr j q w hw hwq
   have CX:nW ns (j:Int) (i:Int)↔nW ns (q:Int) (i:Int):=by
    rw[dw (j:=j),eX hw,hwq]
    exact⟨fun h=>h.resolve_left (by omega),.inr⟩
   by_cases hc:nW ns (q:Int) (i:Int)
   ·rw[mF hc,mF (CX.2 hc)];omega
   ·rw[iQ hc,iQ (fun h=>hc (CX.1 h))];exact cR
 ·obtain⟨r,hr,Pb⟩:=G.root
  obtain⟨z,hz,KU⟩:=XF 0 r hr (Ne.symm h0)
  exact⟨z,hz,KU.trans Pb⟩
theorem Pc {l:List Int} {k:Nat} {i x:Int}:x ∈ l.take k++i::l.drop k↔x=i∨x ∈ l:=by
 have hp:(l.take k++i::l.drop k).Perm (i::l):=by
  refine List.perm_middle.trans ?_
  rw[List.take_append_drop]
 rw[hp.mem_iff,List.mem_cons]
theorem ID {l:List Int} {k:Nat} {i:Int} (hn:l.Nodup) (hi:i ∉ l):(l.take k++i::l.drop k).Nodup:=by
 have hp:(l.take k++i::l.drop k).Perm (i::l):=by
  refine List.perm_middle.trans ?_
  rw[List.take_append_drop]
 exact hp.nodup_iff.2 (List.nodup_cons.2 ⟨hi,hn⟩)
theorem FA {kids zE:List Int} {b id:Int} (hm:∀k,k ∈ zE↔k ∈ kids/\k≠id) (hb:b≠id) (h:0<=fg kids b):0<=fg zE b/\fg zE b<=zE.length:=by
 unfold fg Bc at h ⊢
 by_cases e:b= -1
 ·rw[if_pos e];omega
 ·rw[if_neg e] at h ⊢
  by_cases hk:b ∈ kids
  ·have h2:=(hm b).2 ⟨hk,hb⟩
   rw[if_pos h2]
   have:=pO h2
   omega
  ·rw[if_neg hk] at h;omega
section
variable {h:H} {K:KV} {col:bY} {s i p:Nat} {t a:Addr} {cp:List Addr} {ns:List ay} {x y:ay}
theorem Lc (T:bz h col s t cp ns) (G:aV ns) {ai ap av:Addr} (ha:cp[i]? =some ai) (hx:ns[i]? =some x) (B6:cp[p]? =some ap) (hy:ns[p]? =some y) (bL:i≠p) {ab kb:OA} {an ac kn kc:Nat}
  (v:Var h ap 84 (mG y ab an ac kb kn kc)) (ra:Row aY (bT col h) h ab an ac y.attrs) (hz:ab=none->ac=0) (ok:fB h kb kn kc y.kids) (oG:∀q,kb=some q->col q.block=some (s,2*p+3))
  (vv:Var h av 3 [.int .i64 (i:Int)]) (hav:col av.block=none) {k:Nat} (Ij:k<=y.kids.length)
  {Q:H->Prop} (hk:∀h' col',bz h' col' s t cp ((ns.set p {y with kids:=y.kids.take k++(i:Int)::y.kids.drop k}).set i {x with parent:=(p:Int)})->Ext s h col h' col'->Q h'):
  zC 142 [.slice kb kn kc,.int .i64 (k:Int),.slice (some av) 1 1] h fun v72 Ub=>aB v72 fun b n c=>ae (some ap) fun a75=>bc (a75.add 7) [(.slice b n c)] 0 Ub fun h76=>ae (some ai) fun a77=>bc (a77.add 6) [(.int .i64 (p:Int))] 0 h76 fun JH=>Q JH:=by
 have dJ:=ok.len
 have lI:=G.mQ hy
 have hf:=T.mQ
 have bQ:=dv hx
 refine FB ok (by omega) vv (fun q e e2=>by have:=oG q e;rw[e2,hav] at this;cases this) (lJ (by omega) (by omega)) (by omega) fun b' c' h3 o3 g3 nb=>aH (aa (vO T B6 hy v ra hz oG g3 o3 nb fun h4 fL T4 E4=>aa ?_))
 exact KY T4 ha (by rw[List.getElem?_set_ne (Ne.symm bL)];exact hx) (lJ (by have:=dv hy;omega) (by have:=dv hy;omega)) fun h5 T5 E5 _=>hk h5 fL T5 (E4.trans E5)
theorem pM (T:bz h col s t cp ns) (G:aV ns) {parent before id:Int} (hk:∀h' col',bz h' col' s t cp (cV ns parent before id).1->Ext s h col h' col'->K (.bool (cV ns parent before id).2) h'):
  zC 65 [.pointer (some t),.int .i64 parent,.int .i64 before,.int .i64 id] h K:=by
 have hlen:=T.len
 have no:¬(dU ns parent=true/\(0<=id/\id<ns.length)/\id≠0/\before≠id/\0<=fg (((ns[parent.toNat]?).map (·.kids)).getD []) before/\cq ns parent id=false)->∀h',KB h h'->K (.bool false) h':=fun hn h' k=>by
  have:cV ns parent before id=(ns,false):=by unfold cV;rw[if_neg hn]
  rw[this] at hk
  exact hk h' col (T.kb k) (Ext.kb k)
 have Pd:∀(p:Nat) y,parent=(p:Int)->ns[p]? =some y->dU ns parent=decide (p=0∨y.kind=1):=fun p y e hy=>by
  have:=dv hy
  unfold dU
  rw[e,Int.toNat_natCast,hy,decide_eq_true (show 0<=(p:Int)/\(p:Int)<ns.length by omega)]
  show decide _=decide _
  congr 1
  exact propext ⟨fun h=>h.imp (fun h=>by omega) (fun h=>h),fun h=>h.imp (fun h=>by omega) (fun h=>h)⟩
 refine Xas.ok _ _ _ _ _ _ (jI T (fun hn=>cL ?_) fun p ap y ep hy B6 mA=>cL ?_)
 ·have hh:¬dU ns parent=true:=fun hb=>by
   unfold dU at hb
   rw[Bool.and_eq_true] at hb
   have h1:=of_decide_eq_true hb.1
   obtain⟨p,rfl⟩:=Int.eq_ofNat_of_zero_le h1.1
   have hy:ns[p]? =some ns[p]:=List.getElem?_eq_getElem (by omega)
   have h2:=hb.2
   rw[Int.toNat_natCast,hy] at h2
   refine hn ⟨p,ns[p],rfl,hy,?_⟩
   have h2:=of_decide_eq_true h2
   exact h2.imp (fun h=>by omega) (fun h=>h)
  refine jc T (fun vJ=>cL (cw (by kernel_rfl) (ag (aD (no (fun Uc=>hh Uc.1) h (KB.refl h)))))) fun i a x e hx ha=>cL (cw (by kernel_rfl) (ag (aD (no (fun Uc=>hh Uc.1) h (KB.refl h)))))
 ·refine jc T (fun vJ=>cL (cw (by kernel_rfl) (ag (aC (cw (by kernel_rfl) (ag (aD (no (fun hh=>vJ hh.2.1) h (KB.refl h))))))))) fun i ai x ei hx XC=>cL (cw (by kernel_rfl) (ag (aC (cw (by kernel_rfl) (ag (aC ?_))))))
  have qq:=dv hy
  have bQ:=dv hx
  have Np:=T.nodes p y ap hy B6
  have pf:(((ns[parent.toNat]?).map (·.kids)).getD [])=y.kids:=by rw[ep,Int.toNat_natCast,hy];rfl
  rw[pf] at no
  refine bf (fun e=>no (fun hh=>hh.2.2.1 e) h (KB.refl h)) fun h0=>bf (fun e=>no (fun hh=>hh.2.2.2.1 e) h (KB.refl h)) fun hb=>hH Np (aO (bf (fun e=>no (fun hh=>by have:=hh.2.2.2.2.1;omega) h (KB.refl h)) fun aeO=>sB T G (by omega) fun h1 k1=>ag (aR (fun e=>no (fun hh=>by rw[e] at hh;cases hh.2.2.2.2.2) h1 k1) fun hw=>?_)))
  have T1:=T.kb k1
  have vi:dU ns parent=true/\(0<=id/\id<ns.length)/\id≠0/\before≠id/\0<=fg (((ns[parent.toNat]?).map (·.kids)).getD []) before/\cq ns parent id=false:=
   ⟨by rw[Pd p y ep hy];exact decide_eq_true mA,by omega,h0,hb,by rw[pf];omega,hw⟩
  have epm:cV ns parent before id=(putAt (eC ns id).1 parent.toNat before id.toNat,true):=by unfold cV;rw[if_pos vi]
  rw[epm,ep,ei,Int.toNat_natCast,Int.toNat_natCast,<-ei] at hk
  have G1:=G.eC id
  obtain⟨y1,Hb,_,_,_,_,_,iZ,_,_⟩:=jd G (id:=id) hy
  obtain⟨x1,Fe,_,_,_,_,_,_,_,_⟩:=jd G (id:=id) hx
  have Ez:¬nW ns parent id:=fun hh=>by
   unfold cq at hw
   rw[@decide_eq_true (nW ns parent id) (Classical.propDecidable _) hh] at hw;cases hw
  have bL:i≠p:=fun e=>Ez (by rw[ep,ei,<-e];exact dw.2 (.inl rfl))
  obtain⟨Y9,IA⟩:=FA iZ hb (by omega)
  obtain⟨k,qS⟩:=Int.eq_ofNat_of_zero_le Y9
  have qS:fg y1.kids before=(k:Int):=qS
  have ke:putAt (eC ns id).1 p before i=(((eC ns id).1.set p {y1 with kids:=y1.kids.take k++(i:Int)::y1.kids.drop k}).set i {x1 with parent:=(p:Int)}):=by
   unfold putAt
   rw[Hb]
   dsimp only
   rw[qS,Int.toNat_natCast,List.getElem?_set_ne (Ne.symm bL),Fe]
  rw[ke] at hk
  have Sa:∀h2 cJ,bz h2 cJ s t cp (eC ns id).1->Ext s h col h2 cJ->Xas.n5 parent before id (some ap) (some ai) (fun y8 h=>K (.bool y8) h) (fun y8 h=>K (.bool y8) h) h2:=by
   intro h2 cJ T2 E2
   have N2:=T2.nodes p y1 ap Hb B6
   obtain⟨ab,an,ac,kb,kn,kc,v,ra,hz,ok,oG⟩:=N2.ex
   refine⟨aa ⟨_,_,_,v.cell 7 rfl,hH N2 (aO ⟨bG.refl _,af fun av h3 v3 k3 e3 s3=>⟨k3.ext,?_⟩⟩)⟩,aa ⟨_,_,_,v.cell 7 rfl,af fun av h3 v3 k3 e3 s3=>⟨k3.ext,hH ((T2.kb k3).nodes p y1 ap Hb B6) (aO ⟨bG.refl _,?_⟩)⟩⟩⟩
   all_goals
    rw[qS,ei] at*
    rw[ep]
    have T3:=T2.kb k3
    have fr:cJ av.block=none:=T2.fresh _ (by omega)
    exact Lc T3 G1 XC Fe B6 Hb bL (v.kb k3) (ra.keep ((KB.w k3).less fun q hq=>hq.2) fun q hq hs=>⟨hq.1,Nat.lt_of_lt_of_le hs k3.1⟩) hz (ok.keep (KB.w k3) fun q e=>ok.hi q e) oG v3 fr (by omega) fun h' col' T' E'=>hk h' col' T' ((E2.trans (Ext.kb k3)).trans E')
  refine IE T1 G fun h2 cJ T2 E2=>ag ?_
  have zo:Ext s h col h2 cJ:=(Ext.kb k1).trans E2
  exact aR (fun _=>Sa h2 cJ T2 zo) fun _=>Sa h2 cJ T2 zo
end
theorem iN {ns:List ay} {p:Int} (h:dU ns p=true):∃(q:Nat) (y:ay),p=(q:Int)/\ns[q]? =some y/\(q=0∨y.kind=1):=by
 unfold dU at h
 rw[Bool.and_eq_true] at h
 have h1:=of_decide_eq_true h.1
 obtain⟨q,rfl⟩:=Int.eq_ofNat_of_zero_le h1.1
 have hy:ns[q]? =some ns[q]:=List.getElem?_eq_getElem (by omega)
 have h2:=h.2
 rw[Int.toNat_natCast,hy] at h2
 have h2:=of_decide_eq_true h2
 exact⟨q,ns[q],rfl,hy,h2.imp (fun h=>by omega) (fun h=>h)⟩
theorem aV.cV {ns:List ay} (G:aV ns) (parent before id:Int):aV (Go.Proofs.cV ns parent before id).1:=by
 unfold Go.Proofs.cV
 by_cases hc:dU ns parent=true/\(0<=id/\id<ns.length)/\id≠0/\before≠id/\0<=fg (((ns[parent.toNat]?).map (·.kids)).getD []) before/\cq ns parent id=false
 ·rw[if_pos hc]
  obtain⟨hh,hid,h0,hb,qq,hw⟩:=hc
  obtain⟨p,y,ep,hy,_⟩:=iN hh
  obtain⟨i,ei⟩:=Int.eq_ofNat_of_zero_le hid.1
  have ei:id=(i:Int):=ei
  have bQ:i<ns.length:=by omega
  have hx:ns[i]? =some ns[i]:=List.getElem?_eq_getElem bQ
  have pf:(((ns[parent.toNat]?).map (·.kids)).getD [])=y.kids:=by rw[ep,Int.toNat_natCast,hy];rfl
  rw[pf] at qq
  have G1:=G.eC id
  obtain⟨y1,Hb,_,_,_,_,_,iZ,_,_⟩:=jd G (id:=id) hy
  obtain⟨x1,Fe,_,_,_,_,_,_,yN,_⟩:=jd G (id:=id) hx
  have Ez:¬nW ns parent id:=fun hh=>by
   unfold cq at hw
   rw[@decide_eq_true (nW ns parent id) (Classical.propDecidable _) hh] at hw;cases hw
  have bL:i≠p:=fun e=>Ez (by rw[ep,ei,<-e];exact dw.2 (.inl rfl))
  obtain⟨Y9,IA⟩:=FA iZ hb qq
  obtain⟨k,qS⟩:=Int.eq_ofNat_of_zero_le Y9
  have qS:fg y1.kids before=(k:Int):=qS
  have wU:∀j:Nat,(j:Int)≠id->jo (Go.Proofs.eC ns id).1 j=jo ns j:=fun j hj=>by
   cases hz:ns[j]? with
   | none=>
    have h1:(Go.Proofs.eC ns id).1[j]? =none:=by
     rw[List.getElem?_eq_none_iff,mE ns G]
     exact List.getElem?_eq_none_iff.1 hz
    unfold jo
    rw[Int.toNat_natCast,h1,hz]
   | some z=>
    obtain⟨z1,Ok,_,_,_,_,_,_,_,hp⟩:=jd G (id:=id) hz
    rw[eX Ok,eX hz]
    exact hp hj
  have dk:¬nW (Go.Proofs.eC ns id).1 (p:Int) (i:Int):=fun⟨f,hf⟩=>Ez (by
   rw[<-ei,<-ep] at hf
   exact⟨f,Lb wU f _ hf⟩)
  have hni:(i:Int) ∉ y1.kids:=fun hm=>((iZ _).1 hm).2 ei.symm
  have ke:putAt (Go.Proofs.eC ns id).1 parent.toNat before id.toNat=(((Go.Proofs.eC ns id).1.set p {y1 with kids:=y1.kids.take k++(i:Int)::y1.kids.drop k}).set i {x1 with parent:=(p:Int)}):=by
   have e1:parent.toNat=p:=by rw[ep];exact Int.toNat_natCast p
   have e2:id.toNat=i:=by rw[ei];exact Int.toNat_natCast i
   rw[e1,e2]
   unfold putAt
   rw[Hb]
   dsimp only
   rw[qS,Int.toNat_natCast,List.getElem?_set_ne (Ne.symm bL),Fe]
  show aV (putAt (Go.Proofs.eC ns id).1 parent.toNat before id.toNat)
  rw[ke]
  exact G1.put Fe Hb (yN ei.symm) bL (by omega) dk (ID (G1.nodup p y1 Hb) hni) fun k'=>Pc
 ·rw[if_neg hc];exact G
theorem aV.add {ns:List ay} (G:aV ns) {x:ay} (hp:x.parent= -1) (hk:x.kids=[]):aV (ns++ [x]):=by
 have get:∀(j:Nat) z,(ns++ [x])[j]? =some z->(j<ns.length/\ns[j]? =some z)∨(j=ns.length/\z=x):=fun j z hz=>by
  by_cases h:j<ns.length
  ·rw[List.getElem?_append_left h] at hz;exact .inl ⟨h,hz⟩
  ·have hl:=dv hz
   rw[List.length_append,List.length_singleton] at hl
   have e:j=ns.length:=by omega
   rw[e,List.getElem?_append_right (Nat.le_refl _),Nat.sub_self] at hz
   simp at hz
   exact .inr ⟨e,hz.symm⟩
 have IC:∀(j:Nat) (k:Int),(∃(m:Nat) (w:ay),k=(m:Int)/\ns[m]? =some w/\w.parent=(j:Int))↔∃(m:Nat) (w:ay),k=(m:Int)/\(ns++ [x])[m]? =some w/\w.parent=(j:Int):=fun j k=>by
  constructor
  ·rintro⟨m,w,rfl,hw,hq⟩
   exact⟨m,w,rfl,by rw[List.getElem?_append_left (dv hw)];exact hw,hq⟩
  ·rintro⟨m,w,rfl,hw,hq⟩
   rcases get m w hw with ⟨_,h⟩ | ⟨_,rfl⟩
   ·exact⟨m,w,rfl,h,hq⟩
   ·rw[hp] at hq;omega
 refine⟨fun j z hz=>?_,fun j z k hz=>?_,fun j z hz=>?_,?_,?_⟩
 ·rw[List.length_append,List.length_singleton]
  rcases get j z hz with ⟨_,h⟩ | ⟨_,rfl⟩
  ·rcases G.par j z h with h | h
   ·exact .inl h
   ·right;omega
  ·exact .inl hp
 ·rw[<-IC]
  rcases get j z hz with ⟨_,h⟩ | ⟨e,rfl⟩
  ·exact G.kT j z k h
  ·rw[hk]
   refine⟨fun h=>(by cases h),?_⟩
   rintro⟨m,w,rfl,hw,hq⟩
   rcases G.par m w hw with h | h <;> omega
 ·rcases get j z hz with ⟨_,h⟩ | ⟨e,rfl⟩
  ·exact G.nodup j z h
  ·rw[hk];exact List.nodup_nil
 ·obtain⟨rk,hr⟩:=G.CW
  refine⟨rk,fun j q z hz hq=>?_⟩
  rcases get j z hz with ⟨_,h⟩ | ⟨_,rfl⟩
  ·exact hr j q z h hq
  ·rw[hp] at hq;omega
 ·obtain⟨r,hr,Pb⟩:=G.root
  exact⟨r,by rw[List.getElem?_append_left (dv hr)];exact hr,Pb⟩
theorem aV.bE {ns:List ay} (G:aV ns) (kd sp:Int) (nm:Bs) (gE:List bw) (tx:Bs):aV (Go.Proofs.bE ns (bF kd sp nm gE tx)).1:=by
 unfold bF
 by_cases h1:kd=1
 ·rw[if_pos h1];exact G.add rfl rfl
 ·rw[if_neg h1]
  by_cases h2:kd=2∨kd=3
  ·rw[if_pos h2];exact G.add rfl rfl
  ·rw[if_neg h2];exact G
theorem aV.bg {ns:List ay} (G:aV ns) (id:Int):aV (Go.Proofs.bg ns id).1:=by
 unfold Go.Proofs.bg
 by_cases h:0<=id/\id<ns.length
 ·rw[if_pos h]
  cases hx:ns[id.toNat]? with
  | none=>exact G
  | some x=>exact G.bE _ _ _ _ _
 ·rw[if_neg h];exact G
theorem IF:aV [mH]:=by
 have get:∀(j:Nat) z,[mH][j]? =some z->j=0/\z=mH:=fun j z hz=>by
  cases j with
  | zero=>simp at hz;exact⟨rfl,hz.symm⟩
  | succ j=>simp at hz
 refine⟨fun j z hz=>?_,fun j z k hz=>?_,fun j z hz=>?_,⟨fun _=>0,fun j q z hz hq=>?_⟩,mH,rfl,rfl⟩
 ·rw[(get j z hz).2];exact .inl rfl
 ·rw[(get j z hz).2]
  refine⟨fun h=>(by cases h),?_⟩
  rintro⟨m,w,rfl,hw,hq⟩
  rw[(get m w hw).2] at hq
  have:(-1:Int)=(j:Int):=hq
  omega
 ·rw[(get j z hz).2];exact List.nodup_nil
 ·rw[(get j z hz).2] at hq
  have:(-1:Int)=(q:Int):=hq
  omega
noncomputable def cD (ns:List ay) (parent before:Int) (tx:Bs):List ay × Bool:=
 if¬(dU ns parent=true/\0<=fg (((ns[parent.toNat]?).map (·.kids)).getD []) before) then(ns,false)
 else if tx=[] then(ns,true)
 else
  match ((((ns[parent.toNat]?).map (·.kids)).getD [])[(fg (((ns[parent.toNat]?).map (·.kids)).getD []) before).toNat - 1]?).bind (fun k:Int=>if 0<fg (((ns[parent.toNat]?).map (·.kids)).getD []) before then(ns[k.toNat]?).bind fun z=>if z.kind=2 then some (k.toNat,z) else none else none) with
  | some (j,z)=>(ns.set j {z with text:=z.text++tx},true)
  | none=>cV (bE ns (bF 2 0 [] [] tx)).1 parent before (bE ns (bF 2 0 [] [] tx)).2
theorem aV.Pe {ns:List ay} (G:aV ns) {j:Nat} {z:ay} (hz:ns[j]? =some z) (tx:Bs):aV (ns.set j {z with text:=tx}):=by
 have hj:=dv hz
 have get:∀(m:Nat) w,(ns.set j {z with text:=tx})[m]? =some w->∃v,ns[m]? =some v/\v.parent=w.parent/\v.kids=w.kids:=fun m w hw=>by
  by_cases e:j=m
  ·subst e
   rw[List.getElem?_set_self hj] at hw;cases hw
   exact⟨z,hz,rfl,rfl⟩
  ·rw[List.getElem?_set_ne e] at hw;exact⟨w,hw,rfl,rfl⟩
 have get':∀(m:Nat) w,ns[m]? =some w->∃v,(ns.set j {z with text:=tx})[m]? =some v/\v.parent=w.parent:=fun m w hw=>by
  by_cases e:j=m
  ·subst e
   rw[hz] at hw;cases hw
   exact⟨_,List.getElem?_set_self hj,rfl⟩
  ·exact⟨w,by rw[List.getElem?_set_ne e];exact hw,rfl⟩
 refine⟨fun m w hw=>?_,fun m w k hw=>?_,fun m w hw=>?_,?_,?_⟩
 ·rw[List.length_set]
  obtain⟨v,hv,hp,_⟩:=get m w hw
  rw[<-hp];exact G.par m v hv
 ·obtain⟨v,hv,_,hk⟩:=get m w hw
  rw[<-hk,G.kT m v k hv]
  constructor
  ·rintro⟨q,u,rfl,hu,hq⟩
   obtain⟨u',hu',hp'⟩:=get' q u hu
   exact⟨q,u',rfl,hu',hp'.trans hq⟩
  ·rintro⟨q,u,rfl,hu,hq⟩
   obtain⟨u',hu',hp',_⟩:=get q u hu
   exact⟨q,u',rfl,hu',hp'.trans hq⟩
 ·obtain⟨v,hv,_,hk⟩:=get m w hw
  rw[<-hk];exact G.nodup m v hv
 ·obtain⟨rk,hr⟩:=G.CW
  refine⟨rk,fun m q w hw hq=>?_⟩
  obtain⟨v,hv,hp,_⟩:=get m w hw
  exact hr m q v hv (hp.trans hq)
 ·obtain⟨r,hr,Pb⟩:=G.root
  obtain⟨v,hv,hp⟩:=get' 0 r hr
  exact⟨v,hv,hp.trans Pb⟩
theorem aV.cD {ns:List ay} (G:aV ns) (parent before:Int) (tx:Bs):aV (Go.Proofs.cD ns parent before tx).1:=by
 unfold Go.Proofs.cD
 by_cases h1:¬(dU ns parent=true/\0<=fg (((ns[parent.toNat]?).map (·.kids)).getD []) before)
 ·rw[if_pos h1];exact G
 rw[if_neg h1]
 by_cases h2:tx=[]
 ·rw[if_pos h2];exact G
 rw[if_neg h2]
 split
 ·rename_i j z hm
  obtain⟨k,hk,hb⟩:=Option.bind_eq_some_iff.1 hm
  split at hb
  ·obtain⟨z',il,AO⟩:=Option.bind_eq_some_iff.1 hb
   split at AO
   ·cases AO;exact G.Pe il _
   ·cases AO
  ·cases hb
 ·exact(G.bE _ _ _ _ _).cV _ _ _
section
variable {h:H} {K:KV} {col:bY} {s i p:Nat} {t a:Addr} {cp:List Addr} {ns:List ay} {x y:ay}
theorem CY (T:bz h col s t cp ns) (G:aV ns) {parent before:Int} {tx:Bs} (hlen:∀(i:Nat) x,ns[i]? =some x->x.text.length+tx.length<=9223372036854775807) (Fb:tx.length<=maxLen) (lI:ns.length<1000000)
  (hk:∀h' col' pc,bz h' col' s t pc (cD ns parent before tx).1->Ext s h col h' col'->K (.bool (cD ns parent before tx).2) h'):
  zC 56 [.pointer (some t),.int .i64 parent,.int .i64 before,S tx] h K:=by
 have hl:=T.len
 refine Xau.ok _ _ _ _ _ _ (jI T (fun hn=>cL (cw (by kernel_rfl) (ag (aD ?_)))) fun p ap y ep hy B6 mA=>cL (cw (by kernel_rfl) (ag (aC ?_))))
 ·have:cD ns parent before tx=(ns,false):=by
   unfold cD
   rw[if_pos (fun hh=>hn (iN hh.1))]
  rw[this] at hk
  exact hk h col cp T (Ext.refl _ _ _)
 ·have Np:=T.nodes p y ap hy B6
  have qq:=dv hy
  have pf:(((ns[parent.toNat]?).map (·.kids)).getD [])=y.kids:=by rw[ep,Int.toNat_natCast,hy];rfl
  have hh:dU ns parent=true:=by
   unfold dU
   rw[ep,Int.toNat_natCast,hy,decide_eq_true (show 0<=(p:Int)/\(p:Int)<ns.length by omega)]
   exact decide_eq_true (mA.imp (fun h=>by omega) (fun h=>h))
  unfold cD at hk
  rw[pf] at hk
  refine hH Np (aO (bf (fun e=>?_) fun e=>?_))
  ·rw[if_pos (fun Uc=>by have:=Uc.2;omega)] at hk
   exact hk h col cp T (Ext.refl _ _ _)
  ·rw[if_neg (fun hn=>hn ⟨hh,by omega⟩)] at hk
   refine bf (fun e2=>?_) fun e2=>?_
   ·rw[if_pos e2] at hk
    exact hk h col cp T (Ext.refl _ _ _)
   ·rw[if_neg e2] at hk
    obtain⟨k,qS⟩:=Int.eq_ofNat_of_zero_le (show 0<=fg y.kids before by omega)
    have qS:fg y.kids before=(k:Int):=qS
    rw[qS,Int.toNat_natCast] at hk
    have other:((y.kids[k - 1]?).bind (fun q:Int=>if 0<(k:Int) then(ns[q.toNat]?).bind fun z=>if z.kind=2 then some (q.toNat,z) else none else none))=none->Xau.n6 (some t) parent before tx (fun y8 h=>K (.bool y8) h) (fun y8 h=>K (.bool y8) h) h:=fun Ld=>by
     rw[Ld] at hk
     refine j9 T (A:=fun _=>True) (attrs:=[]) ⟨rfl,Nat.le_refl _,Nat.zero_le _,fun i x hx=>by simp at hx⟩ (fun _=>rfl) (by omega) ⟨by decide,by decide⟩ ⟨by decide,by decide⟩ (Nat.zero_le _) Fb lI fun h2 cJ Zc T2 E2=>aO ?_
     exact pM T2 (G.bE _ _ _ _ _) fun h3 col3 T3 E3=>ag (aR (fun eb=>by have:=hk h3 col3 Zc T3 (E2.trans E3);rw[eb] at this;exact this) fun eb=>by have:=hk h3 col3 Zc T3 (E2.trans E3);rw[eb] at this;exact this)
    refine hH Np (aO ?_)
    rw[qS]
    refine bf (fun e3=>aD ?_) fun e3=>aC (other (by
     have e4:¬0<(k:Int):=e3
     simp only[if_neg e4]
     cases y.kids[k - 1]? <;> rfl))
    obtain⟨ab,an,ac,kb,kn,kc,v,ra,hz,ok,oG⟩:=Np.ex
    obtain⟨lb,lc,vt,o,uo⟩:=T.ex
    have dJ:=ok.len
    have Zd:k<=y.kids.length:=by
     have:=qS
     unfold fg Bc at this
     by_cases eb:before= -1
     ·rw[if_pos eb] at this;omega
     ·rw[if_neg eb] at this
      by_cases em:before ∈ y.kids
      ·rw[if_pos em] at this;have:=pO em;omega
      ·rw[if_neg em] at this;omega
    have ek:((k:Int) - 1)=((k - 1:Nat):Int):=by omega
    have Yi:=G.mQ hy
    have Iv:=T.mQ
    refine aa ⟨_,_,_,vt.cell 0 rfl,aa ⟨_,_,_,v.cell 7 rfl,lJ (by omega) (by omega),?_⟩⟩
    rw[ek]
    have bQ:k - 1<y.kids.length:=by omega
    refine(ok.row (A:=fun _=>True) fun _ _=>trivial).bj bQ rfl fun q hA=>CU hA fun _=>?_
    obtain⟨j,z,ej,il,KU⟩:=(G.kT p y _ hy).1 (List.getElem_mem bQ)
    have fU:=dv il
    rw[ej]
    refine o.row.bj (i:=j) (by omega) rfl fun q2 oT=>zD oT (aa ?_)
    have TT:cp[j]? =some (cp[j]'(by omega)):=List.getElem?_eq_getElem (by omega)
    have Nj:=T.nodes j z _ il TT
    obtain⟨XD,O5,XE,Xo,RL,Xp,v2,_⟩:=Nj.ex
    have CZ:((y.kids[k - 1]?).bind (fun q:Int=>if 0<(k:Int) then(ns[q.toNat]?).bind fun z=>if z.kind=2 then some (q.toNat,z) else none else none))=if z.kind=2 then some (j,z) else none:=by
     rw[List.getElem?_eq_getElem bQ,ej]
     show(if 0<(k:Int) then(ns[((j:Nat):Int).toNat]?).bind _ else none)=_
     rw[if_pos (by omega),Int.toNat_natCast,il]
     rfl
    refine⟨_,v2.kg 0 rfl,bf (fun e4=>aa ⟨_,v2.kg 4 rfl,?_,aa ?_⟩) fun e4=>other (by rw[CZ,if_neg e4])⟩
    ·have:=hlen j z il
     show((z.text.length+tx.length:Nat):Int)<=9223372036854775807
     omega
    ·rw[CZ,if_pos e4] at hk
     exact Ud T TT il (by have:=hlen j z il;rw[List.length_append];simp only[maxLen];omega) fun h2 T2 E2=>hk h2 col cp T2 E2
end
theorem Pf {ns:List ay} {o:Option ay}:(bE ns o).1.length<=ns.length+1:=by
 cases o with
 | none=>exact Nat.le_succ _
 | some x=>show(ns++ [x]).length<=_;simp
theorem fv {ns:List ay} (G:aV ns) (p b i:Int):(cV ns p b i).1.length=ns.length:=by
 unfold cV
 by_cases hc:dU ns p=true/\(0<=i/\i<ns.length)/\i≠0/\b≠i/\0<=fg (((ns[p.toNat]?).map (·.kids)).getD []) b/\cq ns p i=false
 ·rw[if_pos hc]
  show(putAt _ _ _ _).length=_
  unfold putAt
  split
  ·exact mE ns G i
  ·split
   ·exact mE ns G i
   ·rw[List.length_set,List.length_set];exact mE ns G i
 ·rw[if_neg hc]
def eW (ns:List ay) (ks:List Int) (p:Nat):List ay:=ns.mapIdx fun j z=>if(j:Int) ∈ ks then {z with parent:=(p:Int)} else z
def iO (ns:List ay) (i p:Nat) (xk yk:List Int):List ay:=ns.mapIdx fun j z=>{z with parent:=if(j:Int) ∈ xk then(p:Int) else z.parent,kids:=if j=i then [] else if j=p then yk++xk else z.kids}
noncomputable def dn (ns:List ay) (zF dst:Int):List ay × Bool:=
 if(0<=zF/\zF<ns.length)/\dU ns dst=true/\(((ns[zF.toNat]?).map (·.kids)).getD [])≠ []/\cq ns dst zF=false then
  (iO ns zF.toNat dst.toNat (((ns[zF.toNat]?).map (·.kids)).getD []) (((ns[dst.toNat]?).map (·.kids)).getD []),true)
 else(ns,false)
theorem er {ns:List ay} {ks:List Int} {p j:Nat} {z:ay} (h:ns[j]? =some z):(eW ns ks p)[j]? =some (if(j:Int) ∈ ks then {z with parent:=(p:Int)} else z):=by
 unfold eW;rw[List.getElem?_mapIdx,h];rfl
theorem gU {ns:List ay} {ks:List Int} {p:Nat}:(eW ns ks p).length=ns.length:=by unfold eW;simp
theorem wM {ns:List ay} {p:Nat}:eW ns [] p=ns:=by
 unfold eW
 refine List.ext_getElem? fun j=>?_
 rw[List.getElem?_mapIdx]
 cases ns[j]? <;> simp
theorem uC {ns:List ay} {ks:List Int} {p j:Nat} {z:ay} (h:ns[j]? =some z) (dk:(j:Int) ∉ ks):(eW ns ks p).set j {z with parent:=(p:Int)}=eW ns (ks++ [(j:Int)]) p:=by
 refine List.ext_getElem? fun m=>?_
 have hj:=dv h
 by_cases e:j=m
 ·subst e
  rw[List.getElem?_set_self (by rw[gU];exact hj),er h,if_pos (by simp)]
 ·rw[List.getElem?_set_ne e]
  cases hm:ns[m]? with
  | none=>
   unfold eW
   rw[List.getElem?_mapIdx,List.getElem?_mapIdx,hm]
   rfl
  | some w=>
   rw[er hm,er hm]
   have:((m:Int) ∈ ks++ [(j:Int)])↔(m:Int) ∈ ks:=by
    rw[List.mem_append,List.mem_singleton]
    exact⟨fun h=>h.resolve_right (by omega),.inl⟩
   simp only[this]
theorem dg {ns:List ay} {i p j:Nat} {xk yk:List Int} {z:ay} (h:ns[j]? =some z):(iO ns i p xk yk)[j]? =some {z with parent:=if(j:Int) ∈ xk then(p:Int) else z.parent,kids:=if j=i then [] else if j=p then yk++xk else z.kids}:=by
 unfold iO;rw[List.getElem?_mapIdx,h];rfl
theorem gT {ns:List ay} {i p:Nat} {xk yk:List Int}:(iO ns i p xk yk).length=ns.length:=by unfold iO;simp
theorem gb {ns:List ay} {i p j:Nat} {xk yk:List Int} {w:ay} (h:(iO ns i p xk yk)[j]? =some w):∃z,ns[j]? =some z/\w={z with parent:=if(j:Int) ∈ xk then(p:Int) else z.parent,kids:=if j=i then [] else if j=p then yk++xk else z.kids}:=by
 have hl:=dv h
 rw[gT] at hl
 have hz:ns[j]? =some ns[j]:=List.getElem?_eq_getElem hl
 rw[dg hz] at h
 exact⟨_,hz,(Option.some.inj h).symm⟩
theorem IG {ns:List ay} {i m j:Nat} {rk:Nat->Nat}:pd ns i m rk j<=rk j+m:=by
 unfold pd
 rcases Classical.em (nW ns (j:Int) (i:Int)) with h | h
 ·rw[if_pos h];exact Nat.le_refl _
 ·rw[if_neg h];exact Nat.le_add_right _ _
theorem aV.move {ns:List ay} (G:aV ns) {i p:Nat} {x y:ay} (hx:ns[i]? =some x) (hy:ns[p]? =some y) (dk:¬nW ns (p:Int) (i:Int)):aV (iO ns i p x.kids y.kids):=by
 have hi:=dv hx
 have qq:=dv hy
 have bL:i≠p:=fun e=>dk (by rw[<-e];exact dw.2 (.inl rfl))
 have Sb:∀(m:Nat) w,ns[m]? =some w->((m:Int) ∈ x.kids↔w.parent=(i:Int)):=fun m w hw=>by
  rw[G.kT i x _ hx]
  refine⟨fun⟨q,v,e,hv,hq⟩=>?_,fun h=>⟨m,w,rfl,hw,h⟩⟩
  have:q=m:=by omega
  subst this
  rw[hw] at hv;cases hv
  exact hq
 have IC:∀(j:Nat) (k:Int),j≠i->j≠p->((∃(m:Nat) (w:ay),k=(m:Int)/\ns[m]? =some w/\w.parent=(j:Int))↔∃(m:Nat) (w:ay),k=(m:Int)/\(iO ns i p x.kids y.kids)[m]? =some w/\w.parent=(j:Int)):=fun j k O9 hjp=>by
  constructor
  ·rintro⟨m,w,rfl,hw,hq⟩
   refine⟨m,_,rfl,dg hw,?_⟩
   show(if(m:Int) ∈ x.kids then(p:Int) else w.parent)=_
   rw[if_neg (fun h=>by have:=(Sb m w hw).1 h;omega)];exact hq
  ·rintro⟨m,w,rfl,hw,hq⟩
   obtain⟨z,hz,rfl⟩:=gb hw
   have hq:(if(m:Int) ∈ x.kids then(p:Int) else z.parent)=(j:Int):=hq
   by_cases hm:(m:Int) ∈ x.kids
   ·rw[if_pos hm] at hq;omega
   ·rw[if_neg hm] at hq;exact⟨m,z,rfl,hz,hq⟩
 refine⟨fun j z hz=>?_,fun j z k hz=>?_,fun j z hz=>?_,?_,?_⟩
 ·rw[gT]
  obtain⟨w,hw,rfl⟩:=gb hz
  show(if(j:Int) ∈ x.kids then(p:Int) else w.parent)= -1∨(0<=(if(j:Int) ∈ x.kids then(p:Int) else w.parent)/\(if(j:Int) ∈ x.kids then(p:Int) else w.parent)<_)
  by_cases hm:(j:Int) ∈ x.kids
  ·rw[if_pos hm];right;omega
  ·rw[if_neg hm];exact G.par j w hw
 ·obtain⟨w,hw,rfl⟩:=gb hz
  show k ∈ (if j=i then [] else if j=p then y.kids++x.kids else w.kids)↔_
  by_cases e:j=i
  ·rw[if_pos e]
   refine⟨fun h=>(by cases h),?_⟩
   rintro⟨m,v,rfl,hv,hq⟩
   obtain⟨u,hu,rfl⟩:=gb hv
   have hq:(if(m:Int) ∈ x.kids then(p:Int) else u.parent)=(j:Int):=hq
   by_cases hm:(m:Int) ∈ x.kids
   ·rw[if_pos hm] at hq;omega
   ·rw[if_neg hm] at hq
    exact absurd ((Sb m u hu).2 (by omega)) hm
  ·rw[if_neg e]
   by_cases e2:j=p
   ·rw[if_pos e2]
    subst e2
    rw[hy] at hw;cases hw
    rw[List.mem_append,G.kT j _ k hy,G.kT i _ k hx]
    constructor
    ·rintro(⟨m,v,rfl,hv,hq⟩ | ⟨m,v,rfl,hv,hq⟩)
     ·refine⟨m,_,rfl,dg hv,?_⟩
      show(if(m:Int) ∈ x.kids then(j:Int) else v.parent)=_
      rw[if_neg (fun h=>by have:=(Sb m v hv).1 h;omega)];exact hq
     ·refine⟨m,_,rfl,dg hv,?_⟩
      show(if(m:Int) ∈ x.kids then(j:Int) else v.parent)=_
      rw[if_pos ((Sb m v hv).2 hq)]
    ·rintro⟨m,v,rfl,hv,hq⟩
     obtain⟨u,hu,rfl⟩:=gb hv
     have hq:(if(m:Int) ∈ x.kids then(j:Int) else u.parent)=(j:Int):=hq
     by_cases hm:(m:Int) ∈ x.kids
     ·exact .inr ⟨m,u,rfl,hu,(Sb m u hu).1 hm⟩
     ·rw[if_neg hm] at hq;exact .inl ⟨m,u,rfl,hu,hq⟩
   ·rw[if_neg e2,G.kT j w k hw]
    exact IC j k e e2
 ·obtain⟨w,hw,rfl⟩:=gb hz
  show(if j=i then [] else if j=p then y.kids++x.kids else w.kids).Nodup
  by_cases e:j=i
  ·rw[if_pos e];exact List.nodup_nil
  ·rw[if_neg e]
   by_cases e2:j=p
   ·rw[if_pos e2]
    refine List.nodup_append.2 ⟨G.nodup p y hy,G.nodup i x hx,fun a ha b hb e3=>?_⟩
    subst e3
    obtain⟨m,v,rfl,hv,hq⟩:=(G.kT p y a hy).1 ha
    have:=(Sb m v hv).1 hb
    omega
   ·rw[if_neg e2];exact G.nodup j w hw
 ·obtain⟨rk,hr⟩:=G.CW
  refine⟨pd ns i (rk p+1) rk,fun j q z hz hq=>?_⟩
  obtain⟨w,hw,rfl⟩:=gb hz
  have hq:(if(j:Int) ∈ x.kids then(p:Int) else w.parent)=(q:Int):=hq
  by_cases hm:(j:Int) ∈ x.kids
  ·rw[if_pos hm] at hq
   have e1:q=p:=by omega
   have O9:nW ns (j:Int) (i:Int):=dw.2 (.inr (by rw[eX hw,(Sb j w hw).1 hm];exact dw.2 (.inl rfl)))
   rw[e1,iQ dk,mF O9];omega
  ·rw[if_neg hm] at hq
   have cR:=hr j q w hw hq
   by_cases hj:nW ns (j:Int) (i:Int)
   ·rw[mF hj]
    have:=IG (ns:=ns) (i:=i) (m:=rk p+1) (j:=q) (rk:=rk)
    omega
   ·have YP:¬nW ns (q:Int) (i:Int):=fun h=>hj (dw.2 (.inr (by rw[eX hw,hq];exact h)))
    rw[iQ hj,iQ YP];exact cR
 ·obtain⟨r,hr,Pb⟩:=G.root
  refine⟨_,dg hr,?_⟩
  show(if((0:Nat):Int) ∈ x.kids then(p:Int) else r.parent)= -1
  rw[if_neg (fun h=>by have:=(Sb 0 r hr).1 h;omega)];exact Pb
theorem aV.dn {ns:List ay} (G:aV ns) (f dst:Int):aV (Go.Proofs.dn ns f dst).1:=by
 unfold Go.Proofs.dn
 by_cases hc:(0<=f/\f<ns.length)/\dU ns dst=true/\(((ns[f.toNat]?).map (·.kids)).getD [])≠ []/\cq ns dst f=false
 ·rw[if_pos hc]
  obtain⟨hf,hh,hk,hw⟩:=hc
  obtain⟨p,y,ep,hy,_⟩:=iN hh
  obtain⟨i,ei⟩:=Int.eq_ofNat_of_zero_le hf.1
  have ei:f=(i:Int):=ei
  have bQ:i<ns.length:=by omega
  have hx:ns[i]? =some ns[i]:=List.getElem?_eq_getElem bQ
  have Ez:¬nW ns dst f:=fun hh=>by
   unfold cq at hw
   rw[@decide_eq_true (nW ns dst f) (Classical.propDecidable _) hh] at hw;cases hw
  have e1:f.toNat=i:=by rw[ei];exact Int.toNat_natCast i
  have e2:dst.toNat=p:=by rw[ep];exact Int.toNat_natCast p
  show aV (iO ns f.toNat dst.toNat (((ns[f.toNat]?).map (·.kids)).getD []) (((ns[dst.toNat]?).map (·.kids)).getD []))
  rw[e1,e2,hx,hy]
  exact G.move hx hy (by rw[<-ei,<-ep];exact Ez)
 ·rw[if_neg hc];exact G
def Hc (z:ay):Prop:=(z.kind=1/\z.text=[])∨(z.kind≠1/\z.space=0/\z.name=[]/\z.attrs=[])
structure gJ (ns:List ay):Prop where
 all:∀(i:Nat) z,ns[i]? =some z->Hc z
 root:∀z,ns[0]? =some z->z.kind=0
def gv (ns ns':List ay):Prop:=∀(j:Nat) z',ns'[j]? =some z'->∃z,ns[j]? =some z/\z'.kind=z.kind/\z'.space=z.space/\z'.name=z.name/\z'.attrs=z.attrs/\z'.text=z.text
def gd (ns:List ay) (m:Nat):Prop:=∀(j:Nat) z,ns[j]? =some z->z.text.length<=m
section
variable {ns ns' ns2:List ay} {m c:Nat}
theorem gv.refl (ns:List ay):gv ns ns:=fun j z h=>⟨z,h,rfl,rfl,rfl,rfl,rfl⟩
theorem gv.trans (a:gv ns ns') (b:gv ns' ns2):gv ns ns2:=fun j z h=>by
 obtain⟨y,hy,e1,e2,e3,e4,e5⟩:=b j z h
 obtain⟨x,hx,f1,f2,f3,f4,f5⟩:=a j y hy
 exact⟨x,hx,e1.trans f1,e2.trans f2,e3.trans f3,e4.trans f4,e5.trans f5⟩
theorem gv.set {j:Nat} {z z':ay} (hz:ns[j]? =some z) (h:z'.kind=z.kind/\z'.space=z.space/\z'.name=z.name/\z'.attrs=z.attrs/\z'.text=z.text):gv ns (ns.set j z'):=fun k w hw=>by
 by_cases e:j=k
 ·subst e
  rw[List.getElem?_set_self (dv hz)] at hw
  cases hw
  exact⟨z,hz,h⟩
 ·rw[List.getElem?_set_ne e] at hw
  exact⟨w,hw,rfl,rfl,rfl,rfl,rfl⟩
theorem gJ.mD (B:gJ ns) (L:gv ns ns'):gJ ns':=by
 refine⟨fun j z' h=>?_,fun z' h=>?_⟩
 ·obtain⟨z,hz,e1,e2,e3,e4,e5⟩:=L j z' h
  have:=B.all j z hz
  unfold Hc at this ⊢
  rw[e1,e2,e3,e4,e5]
  exact this
 ·obtain⟨z,hz,e1,_⟩:=L 0 z' h
  rw[e1];exact B.root z hz
theorem gd.mD (B:gd ns m) (L:gv ns ns'):gd ns' m:=fun j z' h=>by
 obtain⟨z,hz,_,_,_,_,e5⟩:=L j z' h
 rw[e5];exact B j z hz
theorem gd.mono (B:gd ns m) (h:m<=c):gd ns c:=fun j z hz=>Nat.le_trans (B j z hz) h
theorem Le (G:aV ns) (id:Int):gv ns (eC ns id).1:=fun j z' h=>by
 have hl:=dv h
 rw[mE ns G] at hl
 have hz:ns[j]? =some ns[j]:=List.getElem?_eq_getElem hl
 obtain⟨z1,Ok,e1,e2,e3,e4,e5,_⟩:=jd G (id:=id) hz
 rw[h] at Ok;cases Ok
 exact⟨_,hz,e1,e2,e3,e4,e5⟩
theorem fC (G:aV ns) (p b i:Int):gv ns (cV ns p b i).1:=by
 unfold cV
 by_cases hc:dU ns p=true/\(0<=i/\i<ns.length)/\i≠0/\b≠i/\0<=fg (((ns[p.toNat]?).map (·.kids)).getD []) b/\cq ns p i=false
 ·rw[if_pos hc]
  refine(Le G i).trans ?_
  show gv _ (putAt _ _ _ _)
  unfold putAt
  split
  ·exact gv.refl _
  ·rename_i y hy
   split
   ·exact gv.refl _
   ·rename_i x hx
    refine gv.trans ?_ (gv.set hx ?_)
    ·exact gv.set hy ⟨rfl,rfl,rfl,rfl,rfl⟩
    ·exact⟨rfl,rfl,rfl,rfl,rfl⟩
 ·rw[if_neg hc];exact gv.refl _
theorem zG (f d:Int):gv ns (dn ns f d).1:=by
 unfold dn
 by_cases hc:(0<=f/\f<ns.length)/\dU ns d=true/\(((ns[f.toNat]?).map (·.kids)).getD [])≠ []/\cq ns d f=false
 ·rw[if_pos hc]
  intro j z' h
  obtain⟨z,hz,rfl⟩:=gb h
  exact⟨z,hz,rfl,rfl,rfl,rfl,rfl⟩
 ·rw[if_neg hc];exact gv.refl _
theorem gJ.Lf:gJ [mH]:=⟨fun j z h=>by
 cases j with
 | zero=>simp at h;subst h;exact .inr ⟨by decide,rfl,rfl,rfl⟩
 | succ j=>simp at h,fun z h=>by simp at h;subst h;rfl⟩
theorem gd.Lf:gd [mH] 0:=fun j z h=>by
 cases j with
 | zero=>simp at h;subst h;exact Nat.le_refl _
 | succ j=>simp at h
theorem Be {x:ay} {j:Nat} {z:ay} (h:(ns++ [x])[j]? =some z):ns[j]? =some z∨(j=ns.length/\z=x):=by
 by_cases hj:j<ns.length
 ·rw[List.getElem?_append_left hj] at h;exact .inl h
 ·have hl:=dv h
  rw[List.length_append,List.length_singleton] at hl
  have e:j=ns.length:=by omega
  rw[e,List.getElem?_append_right (Nat.le_refl _),Nat.sub_self] at h
  simp at h
  exact .inr ⟨e,h.symm⟩
theorem gJ.bE (B:gJ ns) (h0:0<ns.length) (kd sp:Int) (nm:Bs) (gE:List bw) (tx:Bs):gJ (Go.Proofs.bE ns (bF kd sp nm gE tx)).1:=by
 have add:∀x,Hc x->gJ (ns++ [x]):=fun x hx=>⟨fun j z h=>by
  rcases Be h with h | ⟨_,rfl⟩
  ·exact B.all j z h
  ·exact hx,fun z h=>by
  rcases Be h with h | ⟨e,_⟩
  ·exact B.root z h
  ·omega⟩
 unfold bF
 by_cases h1:kd=1
 ·rw[if_pos h1];exact add _ (.inl ⟨h1,rfl⟩)
 ·rw[if_neg h1]
  by_cases h2:kd=2∨kd=3
  ·rw[if_pos h2];exact add _ (.inr ⟨h1,rfl,rfl,rfl⟩)
  ·rw[if_neg h2];exact B
theorem gd.bE (B:gd ns m) {kd sp:Int} {nm:Bs} {gE:List bw} {tx:Bs} (ht:tx.length<=m):gd (Go.Proofs.bE ns (bF kd sp nm gE tx)).1 m:=by
 have add:∀x:ay,x.text.length<=m->gd (ns++ [x]) m:=fun x hx j z h=>by
  rcases Be h with h | ⟨_,rfl⟩
  ·exact B j z h
  ·exact hx
 unfold bF
 by_cases h1:kd=1
 ·rw[if_pos h1];exact add _ (Nat.zero_le _)
 ·rw[if_neg h1]
  by_cases h2:kd=2∨kd=3
  ·rw[if_pos h2];exact add _ ht
  ·rw[if_neg h2];exact B
theorem wN (id:Int):(∃z,ns[id.toNat]? =some z/\bg ns id=Go.Proofs.bE ns (bF z.kind z.space z.name z.attrs z.text))∨bg ns id=(ns, -1):=by
 unfold bg
 by_cases h:0<=id/\id<ns.length
 ·rw[if_pos h]
  have hz:ns[id.toNat]? =some (ns[id.toNat]'(by omega)):=List.getElem?_eq_getElem (by omega)
  left
  exact⟨_,hz,by rw[hz];rfl⟩
 ·rw[if_neg h];exact .inr rfl
theorem gJ.bg (B:gJ ns) (h0:0<ns.length) (id:Int):gJ (Go.Proofs.bg ns id).1:=by
 rcases wN (ns:=ns) id with ⟨z,_,e⟩ | e
 ·rw[e];exact B.bE h0 _ _ _ _ _
 ·rw[e];exact B
theorem gd.bg (B:gd ns m) (id:Int):gd (Go.Proofs.bg ns id).1 m:=by
 rcases wN (ns:=ns) id with ⟨z,hz,e⟩ | e
 ·rw[e];exact B.bE (B _ z hz)
 ·rw[e];exact B
theorem pg (p b:Int) (tx:Bs):(cD ns p b tx).1=ns∨(∃(j:Nat) (z:ay),ns[j]? =some z/\z.kind=2/\(cD ns p b tx).1=ns.set j {z with text:=z.text++tx})∨∃i,(cD ns p b tx).1=(cV (Go.Proofs.bE ns (bF 2 0 [] [] tx)).1 p b i).1:=by
 unfold cD
 split
 ·exact .inl rfl
 ·split
  ·exact .inl rfl
  ·split
   ·rename_i j z hm
    right;left
    obtain⟨k,hk,e⟩:=Option.bind_eq_some_iff.1 hm
    split at e
    ·obtain⟨w,hw,e2⟩:=Option.bind_eq_some_iff.1 e
     split at e2
     ·rename_i yg
      cases e2
      exact⟨_,_,hw,yg,rfl⟩
     ·cases e2
    ·cases e
   ·exact .inr (.inr ⟨_,rfl⟩)
theorem gJ.cD (B:gJ ns) (G:aV ns) (h0:0<ns.length) (p b:Int) (tx:Bs):gJ (Go.Proofs.cD ns p b tx).1:=by
 rcases pg (ns:=ns) p b tx with e | ⟨j,z,hz,hk,e⟩ | ⟨i,e⟩
 ·rw[e];exact B
 ·rw[e]
  refine⟨fun k w hw=>?_,fun w hw=>?_⟩
  ·by_cases ej:j=k
   ·subst ej
    rw[List.getElem?_set_self (dv hz)] at hw
    cases hw
    rcases B.all j z hz with ⟨h1,_⟩ | h2
    ·omega
    ·exact .inr h2
   ·rw[List.getElem?_set_ne ej] at hw
    exact B.all k w hw
  ·by_cases ej:j=0
   ·subst ej
    have:=B.root z hz
    omega
   ·rw[List.getElem?_set_ne ej] at hw
    exact B.root w hw
 ·rw[e]
  exact(B.bE h0 _ _ _ _ _).mD (fC (G.bE _ _ _ _ _) _ _ _)
theorem gd.cD (B:gd ns m) (G:aV ns) (p b:Int) {tx:Bs} (ht:tx.length<=c):gd (Go.Proofs.cD ns p b tx).1 (m+c):=by
 rcases pg (ns:=ns) p b tx with e | ⟨j,z,hz,hk,e⟩ | ⟨i,e⟩
 ·rw[e];exact B.mono (Nat.le_add_right _ _)
 ·rw[e]
  intro k w hw
  by_cases ej:j=k
  ·subst ej
   rw[List.getElem?_set_self (dv hz)] at hw
   cases hw
   have:=B j z hz
   show(z.text++tx).length<=_
   rw[List.length_append];omega
  ·rw[List.getElem?_set_ne ej] at hw
   have:=B k w hw
   omega
 ·rw[e]
  exact((B.mono (c:=m+c) (by omega)).bE (by omega)).mD (fC (G.bE _ _ _ _ _) _ _ _)
theorem IH (G:aV ns) (p b:Int) (tx:Bs):(cD ns p b tx).1.length<=ns.length+1:=by
 rcases pg (ns:=ns) p b tx with e | ⟨j,z,hz,hk,e⟩ | ⟨i,e⟩
 ·rw[e];omega
 ·rw[e,List.length_set];omega
 ·rw[e,fv (G.bE _ _ _ _ _)];exact Pf
theorem sF (f d:Int):(dn ns f d).1.length=ns.length:=by
 unfold dn
 split
 ·exact gT
 ·rfl
end
end Go.Proofs
namespace Go.Proofs
open Go
set_option linter.unusedVariables false
set_option maxRecDepth 100000
abbrev aP:=Int × Int × Bs × Int
def rF (ws:List Bs):Bs:=ws.flatMap fun w=>w++ [32]
def rowOf (ws:List Bs):Bs:=32::rF ws
def Bf (row w:Bs):Bool:=!decide (w=[])&&(!Lib.contains w [32]&&Lib.contains row ([32]++w++ [32]))
theorem Hd (s sub:Bs) (i:Nat):Lib.occAt s sub i=true↔∃b,s.drop i=sub++b:=by
 unfold Lib.occAt
 rw[List.isPrefixOf_iff_prefix]
 exact⟨fun⟨b,e⟩=>⟨b,e.symm⟩,fun⟨b,e⟩=>⟨b,e.symm⟩⟩
theorem contains_iff (s sub:Bs):Lib.contains s sub=true↔∃a b,s=a++sub++b:=by
 unfold Lib.contains
 rcases Lib.index_spec s sub with ⟨h1,h2⟩ | ⟨i,h1,h2,h3,_⟩
 ·rw[h1]
  refine⟨fun h=>(by cases h),fun⟨a,b,e⟩=>?_⟩
  have:=h2 a.length (by rw[e];simp)
  have h3:Lib.occAt s sub a.length=true:=(Hd _ _ _).2 ⟨b,by rw[e,List.append_assoc,List.drop_left]⟩
  rw[this] at h3;cases h3
 ·rw[h1]
  refine⟨fun _=>?_,fun _=>by simp⟩
  obtain⟨b,e⟩:=(Hd _ _ _).1 h3
  exact⟨s.take i,b,by rw[List.append_assoc,<-e,List.take_append_drop]⟩
theorem sH (s:Bs) (c:UInt8):Lib.contains s [c]=decide (c ∈ s):=by
 rw[Bool.eq_iff_iff,contains_iff,decide_eq_true_eq]
 refine⟨fun⟨a,b,e⟩=>by rw[e];simp,fun h=>?_⟩
 obtain⟨a,b,e⟩:=List.append_of_mem h
 exact⟨a,b,by rw[e];simp⟩
theorem He:∀{v w r t:Bs},32 ∉ v->32 ∉ w->v++32::r=w++32::t->v=w/\r=t
 | [],[],r,t,_,_,e=>by simpa using e
 | [],c::w,r,t,_,hw,e=>by
  simp at e;exact absurd e.1 (fun h=>hw (by simp[h]))
 | c::v,[],r,t,hv,_,e=>by
  simp at e;exact absurd e.1 (fun h=>hv (by simp[h]))
 | c::v,d::w,r,t,hv,hw,e=>by
  simp at e
  obtain⟨h1,h2⟩:=He (v:=v) (w:=w) (fun h=>hv (by simp[h])) (fun h=>hw (by simp[h])) e.2
  exact⟨by rw[e.1,h1],h2⟩
theorem zH:∀{v a r t:Bs},32 ∉ v->v++32::r=a++32::t->a=v/\r=t∨∃a',a=v++a'/\32::r=a'++32::t
 | [],a,r,t,_,e=>.inr ⟨a,rfl,e⟩
 | c::v,[],r,t,hv,e=>by
  simp at e;exact absurd e.1 (fun h=>hv (by simp[h]))
 | c::v,d::a,r,t,hv,e=>by
  simp at e
  rcases zH (v:=v) (a:=a) (fun h=>hv (by simp[h])) e.2 with ⟨h1,h2⟩ | ⟨a',h1,h2⟩
  ·exact .inl ⟨by rw[e.1,h1],h2⟩
  ·exact .inr ⟨a',by rw[e.1,h1];rfl,h2⟩
theorem wV {w:Bs} (Oc:w≠ []) (hw:32 ∉ w):∀{ws:List Bs} {a b:Bs},(∀v ∈ ws,32 ∉ v)->rowOf ws=a++([32]++w++ [32])++b->w ∈ ws
 | [],a,b,_,e=>by
  have:=congrArg List.length e
  have h1:0<w.length:=List.length_pos_iff.2 Oc
  simp[rowOf,rF] at this;omega
 | v::ws,a,b,hv,e=>by
  have hv0:=hv v (by simp)
  have e2:rowOf (v::ws)=32::(v++rowOf ws):=by simp[rowOf,rF]
  rw[e2] at e
  cases a with
  | nil=>
   have e3:v++32::rF ws=w++32::b:=by simpa [rowOf] using e
   rw[(He hv0 hw e3).1];simp
  | cons c a=>
   have e3:v++32::rF ws=a++32::(w++32::b):=by
    simp[rowOf] at e
    rw[e.2]
   rcases zH hv0 e3 with ⟨h1,h2⟩ | ⟨a',h1,h2⟩
   ·-- the blank ahead of w is the one behind v
    have h3:rowOf ws=[]++([32]++w++ [32])++b:=by simp[rowOf,h2]
    exact List.mem_cons_of_mem _ (wV Oc hw (fun x hx=>hv x (by simp[hx])) h3)
   ·have h3:rowOf ws=a'++([32]++w++ [32])++b:=by simp[rowOf,h2]
    exact List.mem_cons_of_mem _ (wV Oc hw (fun x hx=>hv x (by simp[hx])) h3)
theorem Da {w:Bs}:∀{ws:List Bs},w ∈ ws->∃a b,rowOf ws=a++([32]++w++ [32])++b
 | v::ws,h=>by
  have e2:rowOf (v::ws)=32::(v++rowOf ws):=by simp[rowOf,rF]
  rcases List.mem_cons.1 h with rfl | h
  ·exact⟨[],rF ws,by rw[e2];simp[rowOf]⟩
  ·obtain⟨a,b,e⟩:=Da h
   exact⟨32::(v++a),b,by rw[e2,e];simp⟩
def ph (ws:List Bs):Bool:=ws.all fun w=>!w.isEmpty&&!(w.elem 32)
theorem Pg {ws:List Bs} (hp:ph ws=true) (w:Bs):Bf (rowOf ws) w=decide (w ∈ ws):=by
 have hws:∀v ∈ ws,v≠ []/\32 ∉ v:=fun v hv=>by
  have:=List.all_eq_true.1 hp v hv
  simp only[Bool.and_eq_true,Bool.not_eq_true',List.isEmpty_eq_false_iff,List.elem_eq_mem,decide_eq_false_iff_not] at this
  exact this
 unfold Bf
 rw[sH]
 by_cases Oc:w=[]
 ·rw[decide_eq_true Oc,decide_eq_false (fun hm=>(hws w hm).1 Oc)];rfl
 ·by_cases hb:32 ∈ w
  ·rw[decide_eq_true hb,decide_eq_false (fun hm=>(hws w hm).2 hb)];simp
  ·rw[decide_eq_false Oc,decide_eq_false hb]
   simp only[Bool.not_false,Bool.true_and]
   rw[Bool.eq_iff_iff,contains_iff,decide_eq_true_eq]
   exact⟨fun⟨a,b,e⟩=>wV Oc hb (fun v hv=>(hws v hv).2) e,Da⟩
def Db:List Bs:=[[97,100,100,114,101,115,115],[97,112,112,108,101,116],[97,114,101,97],[97,114,116,105,99,108,101],[97,115,105,100,101],[98,97,115,101],[98,97,115,101,102,111,110,116],[98,103,115,111,117,110,100],[98,108,111,99,107,113,117,111,116,101],[98,111,100,121],[98,114],[98,117,116,116,111,110],[99,97,112,116,105,111,110],[99,101,110,116,101,114],[99,111,108],[99,111,108,103,114,111,117,112],[100,100],[100,101,116,97,105,108,115],[100,105,97,108,111,103],[100,105,114],[100,105,118],[100,108],[100,116],[101,109,98,101,100],[102,105,101,108,100,115,101,116],[102,105,103,99,97,112,116,105,111,110],[102,105,103,117,114,101],[102,111,111,116,101,114],[102,111,114,109],[102,114,97,109,101],[102,114,97,109,101,115,101,116],[104,49],[104,50],[104,51],[104,52],[104,53],[104,54],[104,101,97,100],[104,101,97,100,101,114],[104,103,114,111,117,112],[104,114],[104,116,109,108],[105,102,114,97,109,101],[105,109,103],[105,110,112,117,116],[107,101,121,103,101,110],[108,105],[108,105,110,107],[108,105,115,116,105,110,103],[109,97,105,110],[109,97,114,113,117,101,101],[109,101,110,117],[109,101,116,97],[110,97,118],[110,111,101,109,98,101,100],[110,111,102,114,97,109,101,115],[110,111,115,99,114,105,112,116],[111,98,106,101,99,116],[111,108],[112],[112,97,114,97,109],[112,108,97,105,110,116,101,120,116],[112,114,101],[115,99,114,105,112,116],[115,101,97,114,99,104],[115,101,99,116,105,111,110],[115,101,108,101,99,116],[115,111,117,114,99,101],[115,116,121,108,101],[115,117,109,109,97,114,121],[116,97,98,108,101],[116,98,111,100,121],[116,100],[116,101,109,112,108,97,116,101],[116,101,120,116,97,114,101,97],[116,102,111,111,116],[116,104],[116,104,101,97,100],[116,105,116,108,101],[116,114],[116,114,97,99,107],[117,108],[119,98,114],[120,109,112]]
theorem Lg:ph Db=true:=by decide+kernel
def qT:List Bs:=[[97,110,110,111,116,97,116,105,111,110,45,120,109,108],[109,105],[109,110],[109,111],[109,115],[109,116,101,120,116]]
theorem Lh:ph qT=true:=by decide+kernel
def FC:List Bs:=[[100,101,115,99],[102,111,114,101,105,103,110,79,98,106,101,99,116],[116,105,116,108,101]]
theorem Ph:ph FC=true:=by decide+kernel
def Cm:List Bs:=[[97],[98],[98,105,103],[99,111,100,101],[101,109],[102,111,110,116],[105],[110,111,98,114],[115],[115,109,97,108,108],[115,116,114,105,107,101],[115,116,114,111,110,103],[116,116],[117]]
theorem Pj:ph Cm=true:=by decide+kernel
def wW:List Bs:=[[97,112,112,108,101,116],[99,97,112,116,105,111,110],[104,116,109,108],[109,97,114,113,117,101,101],[111,98,106,101,99,116],[116,97,98,108,101],[116,100],[116,101,109,112,108,97,116,101],[116,104]]
theorem Pk:ph wW=true:=by decide+kernel
def II:List Bs:=[[100,100],[100,116],[108,105],[111,112,116,103,114,111,117,112],[111,112,116,105,111,110],[112],[114,98],[114,112],[114,116],[114,116,99]]
theorem Pm:ph II=true:=by decide+kernel
def bn (ns:List Bs) (s:Bs):Bool:=decide (s ∈ ns)
def ct (sp:Int) (s:Bs):Bool:=if sp=0 then bn Db s else if sp=2 then bn qT s else if sp=1 then bn FC s else false
def dS (s:Bs):Bool:=bn Cm s
def ju (x:aP) (ns:List Bs):Bool:=decide (x.2.1=0)&&bn ns x.2.2.1
def tP:List Bs:=[[104,116,109,108],[116,97,98,108,101],[116,101,109,112,108,97,116,101]]
def pk:List Bs:=[[111,108],[117,108]]
def gl:List Bs:=[[98,117,116,116,111,110]]
def Dc:List Bs:=[[97,100,100,114,101,115,115],[100,105,118],[112]]
def eA (x:aP) (sc:Int):Bool:=
 if sc=3 then ju x tP else if x.2.1≠0 then ct x.2.1 x.2.2.1
 else bn wW x.2.2.1||(decide (sc=1)&&bn pk x.2.2.1)||(decide (sc=2)&&bn gl x.2.2.1)
def eV {R:Type} (f:Nat->aP->Option R) (d:R) (l:List aP):Nat->R
 | 0=>d
 | i+1=>match f i (l.getD i (0,0,[],0)) with
  | some r=>r
  | none=>eV f d l i
def scan {R:Type} (f:Nat->aP->Option R) (d:R) (l:List aP):R:=eV f d l l.length
def IJ (sc:Int) (ns:List Bs) (_:Nat) (x:aP):Option Bool:=if ju x ns then some true else if eA x sc then some false else none
def fD (ex:Bs) (i:Nat) (x:aP):Option Int:=if x.2.1≠0∨x.2.2.1=ex∨bn II x.2.2.1=false then some ((i:Int)+1) else none
def iR (ns:List Bs) (i:Nat) (x:aP):Option Int:=if ju x ns then some (i:Int) else none
def ja (ns:List Bs) (i:Nat) (x:aP):Option Int:=if ju x ns then some (i:Int) else if ct x.2.1 x.2.2.1&&!ju x Dc then some (-1) else none
def kQ (l:List aP) (sc:Int) (ns:List Bs):Bool:=scan (IJ sc ns) false l
def iv (l:List aP) (ex:Bs):Int:=scan (fD ex) 0 l
def bP (l:List aP) (ns:List Bs):Int:=scan (iR ns) (-1) l
def qN (l:List aP) (ns:List Bs):Int:=scan (ja ns) (-1) l
end Go.Proofs
