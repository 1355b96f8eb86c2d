import Derived.Test.YtijoifkjeamonaaGreatHc
import Derived.Test.YtijoifkjeamonaaGreatDpE
import Derived.Test.YtijoifkjeamonaaGreatPcM
import Derived.Test.YtijoifkjeamonaaGreatTxO
import Derived.Test.YtijoifkjeamonaaGreatOpA
import Derived.Test.YtijoifkjeamonaaGreatPcD
import Derived.Test.YtijoifkjeamonaaGreatMoB
import Derived.Test.YtijoifkjeamonaaGreatMoE
import Derived.Test.YtijoifkjeamonaaGreatDrB
import Derived.Test.YtijoifkjeamonaaGreatPdB
namespace Go.Proofs
open Go Go.Sh
set_option linter.unusedVariables false
set_option maxRecDepth 100000
def XP (A:Nat->Prop) (h:H) (x:bJ) (cs:List Value):Prop:=∃b n c,cs=ku x b n c/\Row aW A h b n c x.2.2.1/\(b=none->c=0)/\bc .u8 x.1/\x.2.1.length<=maxLen/\x.2.2.2.2.length<=maxLen/\qS A h b n
def nu:El bJ where
 sz:=5
 R:=XP
 len:=fun _ _ _ _ ⟨_,_,_,e,_⟩=>by rw[e];rfl
 one:=fun _ _ _ _ ⟨_,_,_,e,_⟩ v hv=>by
  rw[e] at hv
  simp only[ku,List.mem_cons,List.not_mem_nil,or_false] at hv
  rcases hv with rfl | rfl | rfl | rfl | rfl <;> rfl
 keep:=fun _ _ _ _ _ _ ⟨b,n,c,e,r,hz,r1,r2,r3,t⟩ k hb=>⟨b,n,c,e,r.keep k hb,hz,r1,r2,r3,t.keep k hb⟩
 pos:=by decide
theorem S5 {A:Nat->Prop} {h:H} {x:bJ} {cs:List Value}:XP A h x cs->ja.R A h x cs
 | ⟨b,n,c,e,r,hz,r1,r2,r3,_⟩=>e▸XL r hz r1 r2 r3
theorem Cw {A:Nat->Prop} {h:H}:∀{l:List bJ} {xs:List Value},eG nu A h l xs->eG ja A h l xs
 | [],_,h=>h
 | x::l,_,⟨cs,ys,e,hR,hE⟩=>⟨cs,ys,e,S5 hR,Cw hE⟩
theorem ed.GM {h:H} {base e n c:Nat} {b:OA} {l:List bJ} (o:ed nu h base e b n c l):ed ja h base e b n c l:=by
 obtain⟨xs,h1,h2⟩:=o.own.own
 exact⟨⟨o.own.len,xs,h1,Cw h2⟩,o.lo,o.hi,o.nil⟩
theorem Ox:oG Tryz.prog nu 22 45 72:=js (sz:=5) (by kernel_rfl) rfl
section
variable {A B:Nat->Prop} {h:H} {K:KV} {b:OA} {n c:Nat} {l:List bJ}
theorem Oy {b:OA} {n c:Nat} {l:List bx} (r:Row aW A h b n c l) (hn:n<=1000000) (hk:∀b' c' h',bE aW h' h.size 67 b' n c' l->KB h h'->K (.slice b' n c') h'):
  zC 29 [.slice b n c] h K:=by
 refine Xdj.ok _ _ _ _ _ (bE.append Au (bE.none h h.size 67) (r.H0.keep (bY.refl _ _) fun k hk _=>⟨hk,fun q e=>by cases e⟩) (by simp only[maxLen];omega) (by omega) (Nat.le_refl _) fun b' c' h' o' g'=>aC ?_)
 rw[Nat.zero_add] at o' ⊢
 exact hk b' c' h' o' (g'.vN (KB.refl h) fun q e=>by cases e)
theorem yz (R:Row ja A h b n c l) (hk:∀v,(v=false->wz l)->K (.bool v) h):zC 6 [.slice b n c] h K:=by
 have hl:=R.len
 refine Xa2.ok _ _ _ _ _ (bh (fun _=>hk true fun e=>by cases e) fun e1=>Av (lim:=400) R (by decide) fun v v0 v1 v2 v3=>aN (bh (fun _=>hk true fun e=>by cases e) fun e2=>hk false fun _=>⟨by omega,fun t ht=>?_⟩))
 have e3:=v3 (by omega)
 have e4:Cx t<=sw l:=by
  clear e3 v3 v2 v1 hl R e1 hk
  induction l with
  | nil=>cases ht
  | cons y l ih=>
   have e:sw (y::l)=Cx y+sw l:=rfl
   rcases List.mem_cons.1 ht with rfl | ht
   ·omega
   ·have:=ih ht;omega
 obtain⟨h1,h2,h3,h4⟩:=wE (x:=t) (m:=400) (by omega)
 exact⟨by omega,by omega,fun a ha=>by have:=h4 a ha;omega,by omega⟩
theorem Cv (r:Row ja A h b n c l) (hf:wz l) (hk:∀b' c' h',ed nu h' h.size 45 b' n c' l->KB h h'->K (.slice b' n c') h'):zC 7 [.slice b n c] h K:=by
 have hl:=r.len
 have Rr:=hf.1
 refine Oz.ok _ _ _ _ _ ⟨n+1,?_⟩
 have key:∀N m h2 ob oc (out:List bJ),m+N=n->KB h h2->ed nu h2 h.size 45 ob m oc out->out=l.take m->
   Oz.fu (fun EV EW EX h=>Oz.n4 EV EW EX (fun gq gr gu h=>K (.slice gq gr gu) h) (fun gq gr gu h=>K (.slice gq gr gu) h) h) (fun EV EW EX h=>Oz.n4 EV EW EX (fun gq gr gu h=>K (.slice gq gr gu) h) (fun gq gr gu h=>K (.slice gq gr gu) h) h) (fun gq gr gu h=>K (.slice gq gr gu) h) (N+1) b n c ob m oc (m:Int) h2:=by
  intro N
  induction N with
  | zero=>
   intro m h2 ob oc out OB k2 o2 eo
   unfold Oz.fu LP Oz.fg
   refine bX (by omega) ?_
   rw[List.take_of_length_le (by omega)] at eo
   rw[eo] at o2
   have:m=n:=by omega
   subst this
   exact hk ob oc h2 o2 k2
  | succ N ih=>
   intro m h2 ob oc out OB k2 o2 eo
   have jn:m<l.length:=by omega
   obtain⟨_,hfa,_⟩:=hf.2 _ (List.getElem_mem jn)
   unfold Oz.fu LP Oz.fg
   refine bQ (by omega) ((r.kb k2).bn jn rfl fun a hA=>?_)
   obtain⟨ab,an,ac,C⟩:=pk hA
   refine⟨_,C.c0,_,C.c1,_,_,_,C.c2,_,C.c3,_,C.c4,af fun a3 h3 v3 k3 e3 s3=>aQ v3 (Nat.le_refl 5) fun h4 v4 k4 s4=>?_⟩
   have sx:KB h2 h4:=KB.step k3 k4 (by omega)
   have S6:=k2.1
   have OC:=C.row.len
   refine⟨_,_,_,v4.cell 2 rfl,Oy (C.row.kb sx) (show an<=1000000 by omega) fun b5 c5 h5 o5 k5=>aC ?_⟩
   have hs5:=k5.1
   refine ck (m:=2) (i:=0) (v4.kb k5) (by show 2+0+1<=5;omega) fun h6 v6 k6 s6=>?_
   have B6:KB h2 h6:=KB.step (sx.trans k5) k6 (by omega)
   have v6:Var h6 a3 45 (ku l[m] b5 an c5):=v6
   refine⟨_,v6.cell 0 rfl,_,v6.cell 1 rfl,_,_,_,v6.cell 2 rfl,_,v6.cell 3 rfl,_,v6.cell 4 rfl,af fun a9 h9 v9 k9 e9 s9=>?_⟩
   have o9:ed nu h9 h.size 45 ob m oc out:=(o2.kb B6).kb k9
   have Ia:=o2.hi
   have oa:bE aW h9 h4.size 67 b5 an c5 l[m].2.2.1:=(o5.uB k6 fE fun g hg=>by omega).kb k9
   have hR:nu.R (fun k=>h.size<=k/\Cy h9 ob k) h9 l[m] (ku l[m] b5 an c5):=
    ⟨b5,an,c5,rfl,oa.behind fE (fun k h1 h2=>⟨by omega,h2,fun q' e'=>by have:=Ia q' e';omega⟩),oa.nil,C.rk,C.rn,C.rt,
     sy (Classical.choose_spec oa.own.own).1 fun q e=>⟨by have:=oa.lo q e;omega,oa.hi q e,fun q' e'=>by have:=oa.lo q e;have:=Ia q' e';omega⟩⟩
   have r9:Row nu (fun k=>h.size<=k/\Cy h9 ob k) h9 (some a9) 1 1 [l[m]]:=v9.vg hR ⟨by omega,v9.lt,fun q e=>by have:=Ia q e;omega⟩
   refine ed.append Ox o9 r9 (by simp only[maxLen];omega) (by omega) (by omega) fun J7 On cS OD g10=>aC ⟨jt (by omega) (by omega),?_⟩
   refine ih (m+1) cS J7 On _ (by omega) ?_ OD ?_
   ·exact g10.vN ((k2.trans B6).trans k9) fun q e=>o2.lo q e
   ·rw[eo,List.take_add_one,List.getElem?_eq_getElem jn];rfl
 exact key n 0 h none 0 [] (by omega) (KB.refl h) (ed.none _ _ _) rfl
theorem yA {t:bJ} {b2:OA} {n2 c2:Nat} (r:Row aW A h b n c t.2.2.1) (r2:Row aW B h b2 n2 c2 t.2.2.1) (hk:∀h',KB h h'->K (.bool true) h'):
  zC 18 [.agg ⟨aT (bP t b n c)⟩,.agg ⟨aT (bP t b2 n2 c2)⟩] h K:=by
 refine Xdn.ok _ _ _ _ (af fun a1 h2 v1 k1 e1 s1=>af fun a3 h4 v3 k3 e3 s3=>?_)
 have v1:=v1.kb k3
 have k:=k1.trans k3
 have fin:zC 32 [.slice b n c,.slice b2 n2 c2] h4 fun tN gX=>au tN fun S7=>cond S7 (K (.bool true) gX) (K (.bool false) gX):=
  ot (r.kb k) (r2.kb k) (ag (by rw[decide_eq_true rfl];exact hk h4 k))
 refine⟨_,v1.cell 0 rfl,_,v3.cell 0 rfl,bQ rfl ⟨_,v1.cell 1 rfl,_,v3.cell 1 rfl,bQ rfl ⟨_,v1.cell 3 rfl,aR (fun e=>?_) fun e=>?_⟩⟩⟩
 ·exact⟨_,v3.cell 3 rfl,by
   show cond t.2.2.2.1 _ _
   rw[show t.2.2.2.1=true from e];exact⟨_,v1.cell 4 rfl,_,v3.cell 4 rfl,bQ rfl ⟨_,_,_,v1.cell 2 rfl,_,_,_,v3.cell 2 rfl,fin⟩⟩⟩
 ·exact⟨_,v3.cell 3 rfl,by
   show cond t.2.2.2.1 _ _
   rw[show t.2.2.2.1=false from e];exact⟨_,v1.cell 4 rfl,_,v3.cell 4 rfl,bQ rfl ⟨_,_,_,v1.cell 2 rfl,_,_,_,v3.cell 2 rfl,fin⟩⟩⟩
theorem wD {b2:OA} {n2 c2:Nat} (r:Row ja A h b n c l) (r2:Row ja B h b2 n2 c2 l) (hk:∀h',KB h h'->K (.bool true) h'):
  zC 9 [.slice b n c,.slice b2 n2 c2] h K:=by
 have hl:=r.len
 have yl:=r2.len
 have hm:n<=maxLen:=Nat.le_trans r.cap r.max
 simp only[maxLen] at hm
 refine S8.ok _ _ _ _ _ _ _ _ (bQ (by omega) ⟨n+1,?_⟩)
 have key:∀N i h1,i+N=n->KB h h1->S8.fu (fun h=>K (.bool true) h) (fun h=>K (.bool true) h) (fun y4 h=>K (.bool y4) h) (N+1) b n c b2 n2 c2 (i:Int) h1:=by
  intro N
  induction N with
  | zero=>
   intro i h1 hi k1
   unfold S8.fu LP S8.fg
   exact bX (by omega) (hk h1 k1)
  | succ N ih=>
   intro i h1 hi k1
   unfold S8.fu LP S8.fg
   refine bQ (by omega) ((r.kb k1).bn (i:=i) (by omega) rfl fun a hA=>?_)
   obtain⟨ab,an,ac,C⟩:=pk hA
   refine⟨_,C.c0,_,C.c1,_,_,_,C.c2,_,C.c3,_,C.c4,(r2.kb k1).bn (i:=i) (by omega) rfl fun a2 sA=>?_⟩
   obtain⟨Rx,J8,Ry,C2⟩:=pk sA
   refine⟨_,C2.c0,_,C2.c1,_,_,_,C2.c2,_,C2.c3,_,C2.c4,yA (t:=l[i]) (b:=ab) (n:=an) (c:=ac) (b2:=Rx) (n2:=J8) (c2:=Ry) C.row C2.row fun h3 k3=>ag ⟨jt (by omega) (by omega),ih (i+1) h3 (by omega) (k1.trans k3)⟩⟩
 exact key n 0 h (by omega) (KB.refl h)
end
def qR (A:Nat->Prop) (h:H) (q:Addr):Prop:=A q.block/\qQ h q.block/\∃i s ab an ac z tx,cell h (q.add 0)=some (.int .u8 i)/\cell h (q.add 1)=some (S s)/\cell h (q.add 2)=some (.slice ab an ac)/\(cell h (q.add 3)=some z/\kd z=0)/\cell h (q.add 4)=some (S tx)/\ky A h ab an
theorem hH.oth {A:Nat->Prop} {h h':H} {a:Addr} {v:Value} (f:hH A h h') (e:cell h a=some v/\kd v=0):∃v,cell h' a=some v/\kd v=0:=by
 obtain⟨v',hv,h1⟩:=f.cl a _ e.1
 rcases h1 with rfl | ⟨h1,_⟩
 ·exact⟨_,hv,e.2⟩
 ·exact⟨_,hv,h1.trans e.2⟩
theorem qR.soft {A:Nat->Prop} {h h':H} (f:hH A h h') {q:Addr}:qR A h q->qR A h' q
 | ⟨hA,ht,i,s,ab,an,ac,z,tx,c0,c1,c2,c3,c4,sa⟩=>by
  obtain⟨i',S9⟩:=f.int c0
  obtain⟨s',Ta⟩:=f.str c1
  obtain⟨z',Rz⟩:=f.oth c3
  obtain⟨Tc,Td⟩:=f.str c4
  rcases f.sl c2 with RE | RE
  ·exact⟨hA,ht.soft f,i',s',ab,an,ac,z',Tc,S9,Ta,RE,Rz,Td,sa.soft f⟩
  ·exact⟨hA,ht.soft f,i',s',none,0,0,z',Tc,S9,Ta,RE,Rz,Td,ky.nil A h'⟩
theorem H9 {base e n c:Nat} {h:H} {b:OA} {l:List bJ} (o:ed nu h base e b n c l):∀i,i<n->∃a,b=some a/\qR (fun k=>base<=k/\k<h.size) h (a.add (i*5)):=fun i hi=>by
 have r:=o.row
 have hl:=r.len
 obtain⟨a,ea,hA,cs,⟨ab,an,ac,rfl,ra,hz,r1,r2,r3,t⟩,hc⟩:=r.gB i _ (List.getElem?_eq_getElem (by omega))
 obtain⟨xs,ho,_⟩:=o.own.own
 rcases sy (A:=fun k=>True) ho (fun _ _=>trivial) with t0 | ⟨q,e2,_,ht⟩
 ·omega
 ·rw[ea] at e2
  cases e2
  exact⟨a,ea,hA,by rw[bo];exact ht,_,_,_,_,_,_,_,hc 0 _ rfl,hc 1 _ rfl,hc 2 _ rfl,⟨hc 3 _ rfl,rfl⟩,hc 4 _ rfl,Ib ra t⟩
theorem As {A:Nat->Prop} {h:H} {b:OA} {n c:Nat} {K:KV} (hn:n<=maxLen) (hs:∀i,i<n->∃a,b=some a/\qR A h (a.add (i*5)))
  (hk:∀h',hH A h h'->K (.tuple ⟨[]⟩) h'):zC 10 [.slice b n c] h K:=by
 simp only[maxLen] at hn
 refine N5.ok _ _ _ _ _ ⟨n+1,?_⟩
 have key:∀N i h2,i+N=n->hH A h h2->N5.nv (fun h=>K (.tuple ⟨[]⟩) h) (fun h=>K (.tuple ⟨[]⟩) h) (fun h=>K (.tuple ⟨[]⟩) h) (N+1) b n c (i:Int) h2:=by
  intro N
  induction N with
  | zero=>
   intro i h2 hi s2
   unfold N5.nv LP N5.mA
   exact bX (by omega) (hk h2 s2)
  | succ N ih=>
   intro i h2 hi s2
   unfold N5.nv LP N5.mA
   have uw:i<n:=by omega
   obtain⟨a,ea,WO⟩:=hs i uw
   subst ea
   have bd:0<=(i:Int)/\(i:Int)<(n:Int):=⟨by omega,by omega⟩
   have adk:=WO.soft s2
   obtain⟨hA,ht,i0,nm,ab,an,ac,z,tx,c0,c1,c2,c3,c4,sa⟩:=adk
   have GN:=sa.1
   simp only[maxLen] at GN
   have fin:∀h3,hH A h2 h3->(0<=(i:Int)/\(i:Int)<(n:Int))/\(ae (some a) fun a1=>aZ (a1.add (Int.toNat (i:Int)*5)) [.int .u8 3,S [115,112,111,105,108,116],.slice none 0 0,.bool false,S []] 0 h3 fun h2=>bc .i64 ((i:Int)+(1:Int))/\(N5.nv (fun h=>K (.tuple ⟨[]⟩) h) (fun h=>K (.tuple ⟨[]⟩) h) (fun h=>K (.tuple ⟨[]⟩) h) (N+1) (some a) n c ((i:Int)+(1:Int)) h2)):=fun h3 s3=>by
    obtain⟨hA,ht,i0,nm,ab,an,ac,z,tx,c0,c1,c2,c3,c4,_⟩:=WO.soft (s2.trans s3)
    refine⟨bd,aa (wF (A:=A) (a:=a.add (i*5)) hA ht (fun j v hj=>?_) fun h6 s6=>⟨jt (by omega) (by omega),ih (i+1) h6 (by omega) ((s2.trans s3).trans s6)⟩)⟩
    match j,hj with
    | 0,hj=>cases hj;exact⟨_,c0,rfl,fun h=>by cases h⟩
    | 1,hj=>cases hj;exact⟨_,c1,rfl,fun h=>by cases h⟩
    | 2,hj=>cases hj;exact⟨_,c2,rfl,fun _=>rfl⟩
    | 3,hj=>cases hj;exact⟨_,c3.1,c3.2.symm,fun h=>by rw[c3.2] at h;cases h⟩
    | 4,hj=>cases hj;exact⟨_,c4,rfl,fun h=>by cases h⟩
   refine bQ (by omega) ⟨an+1,?_⟩
   have loop:∀M k h4,k+M=an->hH A h2 h4->LP N5.L3 (fun K4 ao aj aq x2 x3 h=>(0<=x2/\x2<(aj:Int))/\(ae ao fun a3=>∃mB mC sB,cell h ((a3.add (Int.toNat x2*5)).add 2)=some (.slice mB mC sB)/\(aO (x3<(mC:Int)) ((0<=x2/\x2<(aj:Int))/\(ae ao fun a5=>∃jH gn lj,cell h ((a5.add (Int.toNat x2*5)).add 2)=some (.slice jH gn lj)/\((0<=x3/\x3<(gn:Int))/\(ae jH fun a7=>aZ (a7.add (Int.toNat x3*2)) [S [115,112,111,105,108,116],S [115,112,111,105,108,116]] 0 h fun h8=>bc .i64 (x3+(1:Int))/\(K4 ao aj aq x2 (x3+(1:Int)) h8))))) ((0<=x2/\x2<(aj:Int))/\(ae ao fun a1=>aZ (a1.add (Int.toNat x2*5)) [.int .u8 3,S [115,112,111,105,108,116],.slice none 0 0,.bool false,S []] 0 h fun h2=>bc .i64 (x2+(1:Int))/\(N5.nv (fun h=>K (.tuple ⟨[]⟩) h) (fun h=>K (.tuple ⟨[]⟩) h) (fun h=>K (.tuple ⟨[]⟩) h) (N+1) ao aj aq (x2+(1:Int)) h2)))))) (M+1) (some a) n c (i:Int) (k:Int) h4:=by
    intro M
    induction M with
    | zero=>
     intro k h4 hk s4
     have hb:∀XQ tQ XR,cell h4 ((a.add (i*5)).add 2)=some (.slice XQ tQ XR)->tQ<=an:=fun XQ tQ XR e=>by
      rcases s4.sl c2 with e2 | e2 <;> (rw[e] at e2;cases e2;omega)
     obtain⟨hA,ht,i0,nm,ab,tQ,ac,z,tx,c0,c1,c2,c3,c4,sa⟩:=WO.soft (s2.trans s4)
     have:=hb _ _ _ c2
     unfold LP
     exact⟨bd,aa ⟨_,_,_,c2,bX (by omega) (fin h4 s4)⟩⟩
    | succ M ih2=>
     intro k h4 hk s4
     have hb:∀XQ tQ XR,cell h4 ((a.add (i*5)).add 2)=some (.slice XQ tQ XR)->tQ<=an:=fun XQ tQ XR e=>by
      rcases s4.sl c2 with e2 | e2 <;> (rw[e] at e2;cases e2;omega)
     obtain⟨hA,ht,i0,nm,ab,tQ,ac,z,tx,c0,c1,c2,c3,c4,sa⟩:=WO.soft (s2.trans s4)
     have:=hb _ _ _ c2
     unfold LP
     refine⟨bd,aa ⟨_,_,_,c2,bh (fun cP=>⟨bd,aa ⟨_,_,_,c2,⟨by omega,cP⟩,?_⟩⟩) fun _=>fin h4 s4⟩⟩
     obtain⟨g,eg,hgA,hgt,⟨s1,d1⟩,s2',d2⟩:=sa.2 k (by omega)
     subst eg
     refine aa (wF (A:=A) (a:=g.add (k*2)) (by rw[bo];exact hgA) (by rw[bo];exact hgt) (fun j v hj=>?_) fun h5 s5=>⟨jt (by omega) (by omega),ih2 (k+1) h5 (by omega) (s4.trans s5)⟩)
     match j,hj with
     | 0,hj=>cases hj;exact⟨_,d1,rfl,fun h=>by cases h⟩
     | 1,hj=>cases hj;exact⟨_,d2,rfl,fun h=>by cases h⟩
   exact loop an 0 h2 (by omega) (hH.refl A h2)
 exact key n 0 h (by omega) (hH.refl A h)
def EY (ns:List ay):Nat->Int->Bool
 | 0,i=>decide (i<0)
 | f+1,i=>decide (i<0)||EY ns f (ju ns i)
theorem GO {ns:List ay}:∀{f:Nat} {i:Int},EY ns f i=true->sC ns f i
 | 0,i,h=>(show i<0 from of_decide_eq_true (p:=i<0) h)
 | f+1,i,h=>by
  unfold EY at h
  rw[Bool.or_eq_true] at h
  exact h.imp (of_decide_eq_true (p:=i<0)) GO
theorem EZ {ns:List ay} {i x:Int} (N:Nat) (h:EY ns N i=true):cm ns i x=decide (x ∈ dP ns N i):=by
 have hi:=GP (x:=x) (GO h)
 unfold cm
 by_cases hx:x ∈ dP ns N i
 ·rw[decide_eq_true hx];exact @decide_eq_true (ou ns i x) (Classical.propDecidable _) (hi.2 hx)
 ·rw[decide_eq_false hx];exact @decide_eq_false (ou ns i x) (Classical.propDecidable _) (fun h=>hx (hi.1 h))
def OE (N:Nat) (ns:List ay) (parent before id:Int):List ay × Bool:=
 if dU ns parent=true/\(0<=id/\id<ns.length)/\id≠0/\before≠id/\0<=fh (((ns[parent.toNat]?).map (·.kids)).getD []) before/\decide (id ∈ dP ns N parent)=false then
  (putAt (eD ns id).1 parent.toNat before id.toNat,true)
 else(ns,false)
theorem J9 {ns:List ay} {p b i:Int} (N:Nat) (h:EY ns N p=true):cV ns p b i=OE N ns p b i:=by
 unfold cV OE;rw[EZ N h]
abbrev nd (k:Int) (nm tx:Bs) (p:Int) (ks:List Int):ay:=⟨k,0,nm,[],tx,p,ks⟩
abbrev N6:aP:=(0,0,sD,0)
def J2:Nat->List ay->Int->Bool
 | 0,_,_=>false
 | d+1,ns,id=>(qT ns id).all fun k=>J2 d ns k
theorem Ct:∀{d:Nat} {ns:List ay} {id:Int},J2 d ns id=true->Deep d ns id
 | 0,_,_,h=>by cases h
 | d+1,_,_,h=>fun k hk=>Ct (List.all_eq_true.1 h k hk)
section
variable {d:Nat} {A:Nat->Prop} {h:H} {a:Addr} {x:bZ}
theorem j5 (hA:At (dC (d+1)) A h a x):∃kb kn kc,cell h (a.add 2)=some (S x.name)/\cell h (a.add 5)=some (.slice kb kn kc)/\Row (dC d) A h kb kn kc x.kids:=by
 obtain⟨_,cs,hR,hc⟩:=hA
 obtain⟨ab,an,ac,kb,kn,kc,rfl,ra,hz,rk,pY,r1,r2,r3,r4⟩:=zl hR
 exact⟨kb,kn,kc,hc 2 _ rfl,hc 5 _ rfl,rk⟩
end
theorem iP {m:WM} {sp:Int} {nm:Bs} {gB:List bx} (N:Nat) {ns:List ay} (h:EY (bF m.ns (bG 1 sp nm gB [])).1 N (cU m).1=true)
  (e:(OE N (bF m.ns (bG 1 sp nm gB [])).1 (cU m).1 (cU m).2 m.ns.length).1=ns):
  bt m sp nm gB={m with ns:=ns,op:=m.op++ [((m.ns.length:Int),sp,nm,dt sp nm gB)],hi:=if((m.op.length+1:Nat):Int)>m.hi then((m.op.length+1:Nat):Int) else m.hi}:=by
 unfold bt;rw[J9 N h,e]
theorem pq {m:WM} {tx:Bs} (N:Nat) {ns:List ay} (h1:dU m.ns (cU m).1=true/\0<=fh (((m.ns[(cU m).1.toNat]?).map (·.kids)).getD []) (cU m).2) (h2:tx≠ [])
  (h3:((((m.ns[(cU m).1.toNat]?).map (·.kids)).getD [])[(fh (((m.ns[(cU m).1.toNat]?).map (·.kids)).getD []) (cU m).2).toNat - 1]?).bind (fun k:Int=>if 0<fh (((m.ns[(cU m).1.toNat]?).map (·.kids)).getD []) (cU m).2 then(m.ns[k.toNat]?).bind fun z=>if z.kind=2 then some (k.toNat,z) else none else none)=none)
  (h:EY (bF m.ns (bG 2 0 [] [] tx)).1 N (cU m).1=true) (e:(OE N (bF m.ns (bG 2 0 [] [] tx)).1 (cU m).1 (cU m).2 (bF m.ns (bG 2 0 [] [] tx)).2).1=ns):gb m tx={m with ns:=ns}:=by
 unfold gb cy
 rw[if_neg (fun h=>h h1),if_neg h2,h3]
 show {m with ns:=(cV (bF m.ns (bG 2 0 [] [] tx)).1 (cU m).1 (cU m).2 (bF m.ns (bG 2 0 [] [] tx)).2).1}=_
 rw[J9 N h,e]
abbrev zh (s:Bs):bJ:=(2,s,[],false,[])
abbrev zi (s:Bs):bJ:=(1,[],[],false,s)
abbrev tkE (s:Bs):bJ:=(3,s,[],false,[])
abbrev mS (w:WM):MM:=⟨w,0,0, -1,false,0,[]⟩
def r1:WM:=⟨[nd 0 [] [] (-1) [1],nd 1 [112] [] 0 []],[N6,(1,0,[112],0)],[],false,2⟩
def r2:WM:={r1 with ns:=[nd 0 [] [] (-1) [1],nd 1 [112] [] 0 [2],nd 2 [] [49] 1 []]}
def r3:WM:=⟨[nd 0 [] [] (-1) [1],nd 1 [112] [] 0 [2,3],nd 2 [] [49] 1 [],nd 1 [98] [] 1 []],[N6,(1,0,[112],0),(3,0,[98],0)],[(3,[98],[])],false,3⟩
def r4:WM:={r3 with ns:=[nd 0 [] [] (-1) [1],nd 1 [112] [] 0 [2,3],nd 2 [] [49] 1 [],nd 1 [98] [] 1 [4],nd 2 [] [50] 3 []]}
def r5:WM:=⟨[nd 0 [] [] (-1) [1,5],nd 1 [112] [] 0 [2,3],nd 2 [] [49] 1 [],nd 1 [98] [] 1 [4],nd 2 [] [50] 3 [],nd 1 [112] [] 0 []],[N6,(5,0,[112],0)],[(3,[98],[])],false,3⟩
def r6:WM:=⟨[nd 0 [] [] (-1) [1,5],nd 1 [112] [] 0 [2,3],nd 2 [] [49] 1 [],nd 1 [98] [] 1 [4],nd 2 [] [50] 3 [],nd 1 [112] [] 0 [6],nd 1 [98] [] 5 []],[N6,(5,0,[112],0),(6,0,[98],0)],[(6,[98],[])],false,3⟩
def r7:WM:={r6 with ns:=[nd 0 [] [] (-1) [1,5],nd 1 [112] [] 0 [2,3],nd 2 [] [49] 1 [],nd 1 [98] [] 1 [4],nd 2 [] [50] 3 [],nd 1 [112] [] 0 [6],nd 1 [98] [] 5 [7],nd 2 [] [51] 6 []]}
theorem kr1:dr JX (zh [112])=mS r1:=by
 have e:dr JX (zh [112])=mS (bt EP 0 [112] []):=by kernel_rfl
 rw[e,iP 3 (ns:=r1.ns) (by decide+kernel) (by kernel_rfl)];rfl
theorem kr2:dr (mS r1) (zi [49])=mS r2:=by
 have e:dr (mS r1) (zi [49])=mS (gb r1 [49]):=by kernel_rfl
 rw[e,pq 4 (ns:=r2.ns) (by decide+kernel) (by decide) (by decide+kernel) (by decide+kernel) (by kernel_rfl)];rfl
theorem kr3:dr (mS r2) (zh [98])=mS r3:=by
 have e:dr (mS r2) (zh [98])=mS {bt r2 0 [98] [] with aD:=[(3,[98],[])]}:=by kernel_rfl
 rw[e,iP 5 (ns:=r3.ns) (by decide+kernel) (by kernel_rfl)];rfl
theorem kr4:dr (mS r3) (zi [50])=mS r4:=by
 have e:dr (mS r3) (zi [50])=mS (gb r3 [50]):=by kernel_rfl
 rw[e,pq 6 (ns:=r4.ns) (by decide+kernel) (by decide) (by decide+kernel) (by decide+kernel) (by kernel_rfl)];rfl
theorem kr5:dr (mS r4) (zh [112])=mS r5:=by
 have e:dr (mS r4) (zh [112])=mS (bt {r4 with op:=[N6]} 0 [112] []):=by kernel_rfl
 rw[e,iP 7 (ns:=r5.ns) (by decide+kernel) (by kernel_rfl)];rfl
theorem kr6:dr (mS r5) (zi [51])=mS r7:=by
 have e:dr (mS r5) (zi [51])=mS (gb {bt r5 0 [98] [] with aD:=[(6,[98],[])]} [51]):=by kernel_rfl
 have e2:{bt r5 0 [98] [] with aD:=[(6,[98],[])]}=r6:=by
  rw[iP 8 (ns:=r6.ns) (by decide+kernel) (by kernel_rfl)];rfl
 rw[e,e2,pq 9 (ns:=r7.ns) (by decide+kernel) (by decide) (by decide+kernel) (by decide+kernel) (by kernel_rfl)];rfl
theorem ade:ir [zh [112],zi [49],zh [98],zi [50],zh [112],zi [51]]=mS r7:=by
 unfold ir;simp only[List.foldl_cons,List.foldl_nil]
 rw[kr1,kr2,kr3,kr4,kr5,kr6]
def a1:WM:=⟨[nd 0 [] [] (-1) [1],nd 1 [97] [] 0 []],[N6,(1,0,[97],0)],[(1,[97],[])],false,2⟩
def a2:WM:={a1 with ns:=[nd 0 [] [] (-1) [1],nd 1 [97] [] 0 [2],nd 2 [] [49] 1 []]}
def a3:WM:=⟨[nd 0 [] [] (-1) [1,3],nd 1 [97] [] 0 [2],nd 2 [] [49] 1 [],nd 1 [97] [] 0 []],[N6,(3,0,[97],0)],[(3,[97],[])],false,2⟩
def a4:WM:={a3 with ns:=[nd 0 [] [] (-1) [1,3],nd 1 [97] [] 0 [2],nd 2 [] [49] 1 [],nd 1 [97] [] 0 [4],nd 2 [] [50] 3 []]}
theorem ka1:dr JX (zh [97])=mS a1:=by
 have e:dr JX (zh [97])=mS {bt EP 0 [97] [] with aD:=[(1,[97],[])]}:=by kernel_rfl
 rw[e,iP 3 (ns:=a1.ns) (by decide+kernel) (by kernel_rfl)];rfl
theorem ka2:dr (mS a1) (zi [49])=mS a2:=by
 have e:dr (mS a1) (zi [49])=mS (gb a1 [49]):=by kernel_rfl
 rw[e,pq 4 (ns:=a2.ns) (by decide+kernel) (by decide) (by decide+kernel) (by decide+kernel) (by kernel_rfl)];rfl
theorem ka3:dr (mS a2) (zh [97])=mS a3:=by
 have e:dr (mS a2) (zh [97])=mS {bt {a2 with op:=[N6],aD:=[]} 0 [97] [] with aD:=[(3,[97],[])]}:=by kernel_rfl
 rw[e,iP 5 (ns:=a3.ns) (by decide+kernel) (by kernel_rfl)];rfl
theorem ka4:dr (mS a3) (zi [50])=mS a4:=by
 have e:dr (mS a3) (zi [50])=mS (gb a3 [50]):=by kernel_rfl
 rw[e,pq 6 (ns:=a4.ns) (by decide+kernel) (by decide) (by decide+kernel) (by decide+kernel) (by kernel_rfl)];rfl
theorem adf:ir [zh [97],zi [49],zh [97],zi [50]]=mS a4:=by
 unfold ir;simp only[List.foldl_cons,List.foldl_nil]
 rw[ka1,ka2,ka3,ka4]
theorem adi:ir [tkE [112]]=mS {r1 with op:=[N6]}:=by
 unfold ir;simp only[List.foldl_cons,List.foldl_nil]
 have e:dr JX (tkE [112])=mS (pW (bt EP 0 [112] [])):=by kernel_rfl
 have e2:bt EP 0 [112] []=r1:=by
  rw[iP 3 (ns:=r1.ns) (by decide+kernel) (by kernel_rfl)];rfl
 have e3:pW r1={r1 with op:=[N6]}:=by kernel_rfl
 rw[e,e2,e3]
theorem XN:cT 4 r7.ns 0=[.mk 1 0 [112] [] [] [.mk 2 0 [] [] [49] [],.mk 1 0 [98] [] [] [.mk 2 0 [] [] [50] []]],.mk 1 0 [112] [] [] [.mk 1 0 [98] [] [] [.mk 2 0 [] [] [51] []]]]:=rfl
theorem XO:cT 4 a4.ns 0=[.mk 1 0 [97] [] [] [.mk 2 0 [] [] [49] []],.mk 1 0 [97] [] [] [.mk 2 0 [] [] [50] []]]:=rfl
section
variable {Z:Nat->Prop} {h h':H} {K:KV} {col col':cd} {w a x6 x7 bD:Addr} {m:WM} {f id:Int} {bl y:aP} {u v x j b q:Nat}
theorem XS (g:oH h col a y) (p:RW h col w m) {Q:H->Prop} (hk:∀h',oH h' col a (id,y.2)->RW h' col w m->al RA h col h' col->Q h'):aZ (a.add 0) [.int .i64 id] 0 h Q:=by
 refine ck (m:=0) (i:=0) g.v (by show 0+0+1<=4;omega) fun h3 v3 k3 s3=>?_
 have E:al (fun s=>s=5) h col h3 col:=al.kx k3 g.c rfl
 exact hk h3 ⟨v3,g.c⟩ (p.ext E (by decide) (by decide) fun k hk=>p.fresh k (by omega)) (E.mono fun s hs=>.inr hs)
theorem Ka (p:RW h col w m) {h1:H} (k:KB h h1) (v:Var h1 a 77 (aX y)) (ha:h.size<=a.block) {Q:Prop} (hk:∀Cz,oH h1 Cz a y->RW h1 Cz w m->al RA h col h1 Cz->Q):Q:=by
 have E:∀Z:Nat->Prop,al Z h col h1 (cp col a.block (5,0)):=fun Z=>⟨k.less fun q hq=>hq.1,fun q hq=>dG (by omega)⟩
 exact hk (cp col a.block (5,0)) ⟨v,gd⟩ (p.ext (Z:=fun _=>False) (E _) id id ((p.fresh.kb k).cp v.lt)) (E _)
theorem Aw {Kn:H->Prop} (p:RW h col w m) (eH:m.op.length<=900000) (jY:(m.op.map (·.1)).Nodup) (g:oH h col a y) (hy:gN y) (v7:Var h x7 77 (aX bl)) (c7:col x7.block=none) (hid:bc .i64 id) (Fa:0<=gm (bu m.op f) bl.1)
  (hk:∀h' col',RW h' col' w {m with op:=cQ (bu m.op f) ((gm (bu m.op f) bl.1)+1).toNat (id,y.2)}->al RA h col h' col'->Kn h'):
  zC 120 [(.pointer (some w)),(.int .i64 f)] h fun Kb uC=>aZ (a.add 0) [(.int .i64 id)] 0 uC fun mr=>∃i38,cell mr (x7.add 0)=some (.int .i64 i38)/\(∃i39,cell mr ((a).add 0)=some (.int .i64 i39)/\(∃i40,cell mr ((a).add 1)=some (.int .u8 i40)/\(∃Te,cell mr ((a).add 2)=some (S Te)/\(∃i42,cell mr ((a).add 3)=some (.int .u8 i42)/\(zC 208 [(.pointer (some w)),(.int .i64 i38)] mr fun OF yh=>aL .i64 OF fun i45=>bH mr yh/\(zC 231 [(.pointer (some w)),(.int .i64 i45),(.agg ⟨[(.int .i64 i39),(.int .u8 i40),(S Te),(.int .u8 i42)]⟩)] yh fun v46 Fb=>Kn Fb)))))):=by
 have WW:(bu m.op f).length<=m.op.length:=by
  unfold bu
  by_cases hq:0<cK m.op (fun x=>decide (x.1=f))
  ·rw[if_pos hq,List.length_eraseIdx];split <;> omega
  ·rw[if_neg hq];exact Nat.le_refl _
 refine iY p (by omega) jY fun h1 c1 p1 E1=>XS (g.rs E1) p1 fun h2 g2 p2 E2=>?_
 have zm:=E1.ra.trans E2
 have v72:=v7.keep zm.eS ⟨c7,v7.lt⟩
 refine⟨_,v72.cell 0 rfl,_,g2.v.cell 0 rfl,_,g2.v.cell 1 rfl,_,g2.v.cell 2 rfl,_,g2.v.cell 3 rfl,gf p2 (by show(bu m.op f).length<=_;omega) (aN ⟨(KB.refl _).ext,?_⟩)⟩
 obtain⟨hi,_,_⟩:=fD (l:=bu m.op f) (p:=fun x=>decide (x.1=bl.1)) Fa
 obtain⟨i,ei⟩:=Int.eq_ofNat_of_zero_le Fa
 have ei2:gm (gC m f).op bl.1=(i:Int):=ei
 have hi:i<(bu m.op f).length:=by have h2:(cK (bu m.op f) fun x=>decide (x.1=bl.1))=(i:Int):=ei;omega
 rw[ei2]
 rw[show((gm (bu m.op f) bl.1)+1).toNat=i+1 by rw[ei];rfl] at hk
 exact CA p2 (by show(bu m.op f).length<=_;omega) hi ⟨hid,hy.2⟩ fun h3 c3 p3 E3=>hk h3 c3 p3 (zm.trans E3.ra)
structure Ke (h:H) (col:cd) (a:Addr) (y:aS) (b:OA) (n c:Nat):Prop where
 v:Var h a 79 [.int .i64 y.1,S y.2.1,.slice b n c]
 k:col a.block=some (5,0)
 r:cG (bT col h) h y b n c
theorem zn (E:al Z h col h' col') {y:aS} {ab:OA} {an ac:Nat} (hR:cG (bT col h) h y ab an ac):cG (bT col' h') h' y ab an ac:=by
 have hi:=hR.inv
 exact Go.Proofs.jI (E.row hi.1) hi.2.1 hi.2.2.1 hi.2.2.2
theorem Ke.rs {y:aS} {b:OA} {n c:Nat} (g:Ke h col a y b n c) (e:al RS h col h' col'):Ke h' col' a y b n c:=
 ⟨g.v.keep e.sk.w ⟨g.v.lt,fun s p hs e2=>by rw[g.k] at e2;cases e2;exact(by unfold RS;omega:¬RS 5) hs⟩,by rw[e.cl _ g.v.lt];exact g.k,zn e g.r⟩
theorem CB {Kn Kr:ym.T0} (p:RW h col w m) (eH:m.op.length<=900000) (jn:m.aD.length<=900000) (jY:(m.op.map (·.1)).Nodup) {y:aS} {yb:OA} {yn yc:Nat} (g:Ke h col a y yb yn yc) (v7:Var h x7 77 (aX bl)) (c7:col x7.block=none) (hid:bc .i64 id)
  (hf:0<=gm m.op f) (Fa:0<=gm (bu m.op f) bl.1) {k:Nat} (BZ:k<=m.aD.length)
  (hk:∀h' col',RW h' col' w {m with aD:=cQ m.aD k (id,y.2),op:=cQ (bu m.op f) ((gm (bu m.op f) bl.1)+1).toNat (id,(m.op.getD (gm m.op f).toNat aI).2)}->al RA h col h' col'->Kn h'):
  ym.n16 (some w) f x7 (k:Int) id a Kn Kr h:=by
 have XT:=g.r.inv
 refine ck (m:=0) (i:=0) g.v (by show 0+0+1<=3;omega) fun h1 v1 k1 s1=>?_
 have v1:Var h1 a 79 [.int .i64 id,S y.2.1,.slice yb yn yc]:=v1
 have E1:al (fun s=>s=5) h col h1 col:=al.kx k1 g.k rfl
 have f1:bj h1 col:=fun k hk=>p.fresh k (by omega)
 have p1:RW h1 col w m:=p.ext E1 (by decide) (by decide) f1
 have hR1:cG (bT col h1) h1 (id,y.2) yb yn yc:=jI (m:=(id,y.2)) (E1.row XT.1) XT.2.1 hid XT.2.2.2
 obtain⟨t,T,W⟩:=p1.ex
 obtain⟨ob,oc,mb,mn,mc,v,o,om⟩:=W.ex
 obtain⟨xs,he,hc,_⟩:=om.parts
 have hl:=om.len
 have hcap:=om.cap
 have hA:∀k,bT col h1 k->k<h1.size:=fun k hk=>hk.2
 refine aa ⟨_,_,_,v.cell 2 rfl,⟨by omega,by omega,by omega⟩,?_⟩
 rw[qN]
 have e1:Int.toNat (k:Int) - Int.toNat (0:Int)=k:=by rw[Int.toNat_natCast];rfl
 rw[e1]
 refine o0 cZ he hA hc hl (hi:=k) (by omega) (by omega) (by omega) fun b2 c2 h2 o2 k2=>aC ?_
 have v12:=v1.kb k2
 refine⟨_,v12.cell 0 rfl,_,v12.cell 1 rfl,_,_,_,v12.cell 2 rfl,af fun jJ h3 v3 k3 e3 s3=>?_⟩
 have fX:=k2.trans k3
 refine bN.sE cZ (x:=(id,y.2)) (o2.kb k3) hA v3 (hR1.kb fX) (by simp only[maxLen];omega) (by omega) fX.1 fun b4 c4 h4 o4 g4=>aC (aa ?_)
 have ov:KB h1 h4:=g4.vN fX o2.lo
 refine⟨_,_,_,(v.kb ov).cell 2 rfl,⟨by omega,by omega,by omega⟩,?_⟩
 rw[Int.toNat_natCast,Int.toNat_natCast]
 refine pc cZ (lo:=k) o4 hA ov (Nat.le_refl _) ov.1 he hA hc hl (by omega) hcap.1 (by omega) (by omega) fun b5 c5 h5 o5 k5=>aC (aa ?_)
 have el:m.aD.take k++ [(id,y.2)]++m.aD.drop k=cQ m.aD k (id,y.2):=by unfold cQ;rw[List.append_assoc];rfl
 rw[el] at o5
 refine dZ W f1 k5 o5 fun h6 W6 E6 f6 _=>?_
 have p6:RW h6 _ w {m with aD:=cQ m.aD k (id,y.2)}:=⟨t,T.cJ (Z:=fun k=>k=3) (by decide) E6 f6,W6⟩
 obtain⟨OG,XU⟩:∃c6,cw col h1 b5 (3,2)=c6:=⟨_,rfl⟩
 rw[XU] at p6 E6 W6 f6
 have wA:al RA h col h6 OG:=(E1.mono fun s hs=>.inr hs).trans (E6.mono fun s hs=>.inl (.inr hs))
 obtain⟨ob6,oc6,mb6,mn6,mc6,v6,o6,om6⟩:=W6.ex
 obtain⟨fY,_,_⟩:=fD (l:=m.op) (p:=fun x=>decide (x.1=f)) hf
 obtain⟨j,ej⟩:=Int.eq_ofNat_of_zero_le hf
 have fY:j<m.op.length:=by have h2:(cK m.op fun x=>decide (x.1=f))=(j:Int):=ej;omega
 rw[show(gm m.op f).toNat=j by rw[ej];rfl,aJ fY] at hk
 have v76:=v7.keep wA.eS ⟨c7,v7.lt⟩
 have c76:OG x7.block=none:=by rw[wA.cl _ v7.lt];exact c7
 have fin:∀h7 a7,KB h6 h7->Var h7 a7 77 (aX m.op[j])->h6.size<=a7.block->gN m.op[j]->zC 120 [(.pointer (some w)),(.int .i64 f)] h7 fun Kb uC=>aZ (a7.add 0) [(.int .i64 id)] 0 uC fun mr=>∃i38,cell mr (x7.add 0)=some (.int .i64 i38)/\(∃i39,cell mr ((a7).add 0)=some (.int .i64 i39)/\(∃i40,cell mr ((a7).add 1)=some (.int .u8 i40)/\(∃Te,cell mr ((a7).add 2)=some (S Te)/\(∃i42,cell mr ((a7).add 3)=some (.int .u8 i42)/\(zC 208 [(.pointer (some w)),(.int .i64 i38)] mr fun OF yh=>aL .i64 OF fun i45=>bH mr yh/\(zC 231 [(.pointer (some w)),(.int .i64 i45),(.agg ⟨[(.int .i64 i39),(.int .u8 i40),(S Te),(.int .u8 i42)]⟩)] yh fun v46 Fb=>Kn Fb)))))):=fun h7 a7 k7 va7 ha7 ow=>
  Ka p6 k7 va7 ha7 fun c8 g8 p8 E8=>Aw p8 eH jY g8 ow (v76.kb k7) (by rw[E8.cl _ v76.lt];exact c76) hid Fa fun h9 c9 p9 E9=>hk h9 c9 p9 ((wA.trans E8).trans E9)
 refine⟨?_,?_⟩
 ·refine aa ⟨_,_,_,v6.cell 1 rfl,gf p6 (by show m.op.length<=_;omega) (aN ⟨(KB.refl _).ext,?_⟩)⟩
  rw[show gm {m with aD:=cQ m.aD k (id,y.2):WM}.op f=(j:Int) from ej]
  exact o6.row.bn (i:=j) fY rfl fun q hA=>df hA fun ow=>af fun a7 h7 v7 k7 e7 s7=>⟨k7.ext,aQ v7 (by show 4<=4;omega) fun h8 v8 k8 s8=>fin h8 a7 (KB.step k7 k8 (by omega)) v8 (by omega) ow⟩
 ·refine aa ⟨_,_,_,v6.cell 1 rfl,af fun a7 h7 v7 k7 e7 s7=>⟨k7.ext,gf (p6.kb k7) (by show m.op.length<=_;omega) (aN ⟨(KB.refl _).ext,?_⟩)⟩⟩
  rw[show gm {m with aD:=cQ m.aD k (id,y.2):WM}.op f=(j:Int) from ej]
  exact(o6.kb k7).row.bn (i:=j) fY rfl fun q hA=>df hA fun ow=>aQ v7 (by show 4<=4;omega) fun h8 v8 k8 s8=>fin h8 a7 (KB.step k7 k8 (by omega)) v8 (by omega) ow
end
section
variable {Z:Nat->Prop} {h h':H} {K:KV} {col col':cd} {w a x6 x7 bD:Addr} {m:WM} {f id:Int} {bl y:aP} {u v x j b q:Nat}
theorem CI.Tf (C:CI m u v x f j b q) {blk:Int} (B:BI m blk (j+1)):0<=gm (bu m.op f) blk:=by
 have fY:j<m.op.length:=Nat.lt_of_lt_of_le C.hj C.hq
 have eg:m.op.getD j aI=m.op[j]:=aJ fY
 have tG:m.op[j].1=f:=by have:=C.hf;rwa[eg] at this
 obtain⟨i,Ax,yo,hi3⟩:=B
 have wG:bu m.op f=m.op.eraseIdx j:=by rw[<-tG];exact C.A.vO fY C.h0
 have je:∃y ∈ bu m.op f,y.1=blk:=by
  rw[wG]
  refine⟨m.op[i],List.mem_eraseIdx_iff_getElem.2 ⟨i,yo,by omega,rfl⟩,?_⟩
  rwa[aJ yo] at hi3
 have:0<=cK (bu m.op f) (fun x=>decide (x.1=blk)):=by
  rw[mD,List.any_eq_true]
  obtain⟨y,hy,e⟩:=je
  exact⟨y,hy,by simpa using e⟩
 exact this
theorem Fc {Kn Kr:ym.T0} (p:RW h col w m) (C:CI m u v x f j b q) (B:BI m bl.1 (j+1)) (hu:u+1<=900000) (hv:v<=900000) (v7:Var h x7 77 (aX bl)) (c7:col x7.block=none)
  (hk:∀h' col',RW h' col' w (ny m f bl.1 b)->al RA h col h' col'->Kn h'):ym.n9 (some w) f x7 (b:Int) Kn Kr h:=by
 obtain⟨t,T,W⟩:=p.ex
 obtain⟨_,_,_,_,_,vw,_,_⟩:=W.ex
 have jZ:=C.A.D.lo
 have rB:=C.A.D.ln
 have jn:=C.A.D.ml
 have fY:j<m.op.length:=Nat.lt_of_lt_of_le C.hj C.hq
 have eg:m.op.getD j aI=m.op[j]:=aJ fY
 have tG:m.op[j].1=f:=by have:=C.hf;rwa[eg] at this
 have XV:0<=f:=by rw[<-tG];exact(C.A.D.ids _ (List.getElem_mem fY)).1
 have wB:gm m.op f=(j:Int):=by rw[<-tG];exact C.A.tM fY
 refine aa ⟨_,vw.cell 0 rfl,GQ T W C.A.D.B (by omega) fun h1 c1 T1 W1 E1=>aN ?_⟩
 obtain⟨A1,ec,hcl,_⟩:=C.A.copy (List.getElem_mem fY) (C.A.OH fY C.h0)
 rw[tG] at A1 ec hcl
 obtain⟨id,hid⟩:∃id,(bg m.ns f).2=id:=⟨_,rfl⟩
 rw[hid] at ec ⊢
 have Kf:bc .i64 id:=by rw[ec];exact aG (by omega) (by omega)
 obtain⟨_,_,_,_,_,vw1,_,_⟩:=W1.ex
 have E01:al RA h col h1 c1:=E1.ra
 have v71:=v7.keep E01.eS ⟨c7,v7.lt⟩
 refine aa ⟨_,vw1.cell 0 rfl,_,v71.cell 0 rfl,OI T1 W1 A1.D.G fun h2 c2 T2 W2 E2=>ag ?_⟩
 have A2:=A1.move bl.1 id
 refine dm (K:=fun _=>ym.Ao (some w) f x7 (b:Int) id Kn Kr h2) ?_
 obtain⟨_,_,_,_,_,vw2,_,_⟩:=W2.ex
 have zm:al RA h col h2 c2:=E01.trans E2.ra
 have v72:=v7.keep zm.eS ⟨c7,v7.lt⟩
 refine aa ⟨_,vw2.cell 0 rfl,_,v72.cell 0 rfl,Fe T2 W2 A2.D.G fun h3 c3 T3 W3 E3=>ag ?_⟩
 refine dm (K:=fun _=>ym.uy (some w) f x7 (b:Int) id Kn Kr h3) ?_
 have ni:al RA h col h3 c3:=zm.trans E3.ra
 have WX:=v7.keep ni.eS ⟨c7,v7.lt⟩
 have c73:c3 x7.block=none:=by rw[ni.cl _ v7.lt];exact c7
 have p3:RW h3 c3 w {m with ns:=(cV (dn (bg m.ns f).1 bl.1 id).1 bl.1 (-1) id).1}:=⟨t,T3,W3⟩
 obtain⟨ob3,oc3,mb3,mn3,mc3,OJ,o3,Ay⟩:=W3.ex
 have adw:=Ay.len
 have Tg:0<=br m.aD f:=(pZ XV).2 C.hm
 obtain⟨_,dJ,WY⟩:=gp Tg
 obtain⟨k,ek⟩:=Int.eq_ofNat_of_zero_le Tg
 have wH:(br m.aD f).toNat=k:=by rw[ek];rfl
 rw[wH] at dJ
 have tL:m.aD.getD k noMark=m.aD[k]:=aJ dJ
 refine aa ⟨_,_,_,OJ.cell 2 rfl,gM Ay.row (aN ?_)⟩
 rw[ek]
 obtain⟨xs3,he3,adx,_⟩:=Ay.parts
 obtain⟨am,yb,yn,yc,eb,m0,m1,m2,mR⟩:=kz he3 adx dJ
 subst eb
 refine aa ⟨_,_,_,OJ.cell 2 rfl,⟨by omega,by omega⟩,aa ?_⟩
 rw[Int.toNat_natCast]
 refine⟨_,m0,_,m1,_,_,_,m2,af fun jK h4 v4 k4 e4 s4=>aQ v4 (by show 3<=3;omega) fun h5 v5 k5 s5=>?_⟩
 have Ff:KB h3 h5:=KB.step k4 k5 (by omega)
 have v5:Var h5 jK 79 [.int .i64 m.aD[k].1,S m.aD[k].2.1,.slice yb yn yc]:=v5
 have E5:∀Z:Nat->Prop,al Z h3 c3 h5 (cp c3 jK.block (5,0)):=fun Z=>⟨Ff.less fun q hq=>hq.1,fun q hq=>dG (by omega)⟩
 have p5:RW h5 (cp c3 jK.block (5,0)) w {m with ns:=(cV (dn (bg m.ns f).1 bl.1 id).1 bl.1 (-1) id).1}:=p3.ext (Z:=fun _=>False) (E5 _) (fun h=>h) (fun h=>h) ((p3.fresh.kb Ff).cp v5.lt)
 have g5:Ke h5 (cp c3 jK.block (5,0)) jK m.aD[k] yb yn yc:=⟨v5,gd,zn (E5 RA) mR⟩
 refine qd p5 dJ (by show m.aD.length<=_;omega) fun h6 c6 p6 E6=>?_
 have g6:=g5.rs E6
 have wA:al RA h col h6 c6:=(ni.trans (E5 RA)).trans E6.ra
 have v76:=v7.keep wA.eS ⟨c7,v7.lt⟩
 have c76:c6 x7.block=none:=by rw[wA.cl _ v7.lt];exact c7
 have hb:=C.hb
 have WZ:(m.aD.eraseIdx k).length=m.aD.length - 1:=by rw[List.length_eraseIdx,if_pos dJ]
 have hub:er b k<=(m.aD.eraseIdx k).length:=by rw[WZ];unfold er;split <;> omega
 have fin:∀bb,((er b k:Nat):Int)=bb->ym.n16 (some w) f x7 bb id jK Kn Kr h6:=fun bb Th=>by
  subst Th
  refine CB p6 (by show m.op.length<=_;omega) (by show(m.aD.eraseIdx k).length<=_;omega) C.A.D.nd g6 v76 c76 Kf (by show 0<=gm m.op f;omega) (C.Tf B) hub fun h7 c7 p7 E7=>hk h7 c7 ?_ (wA.trans E7)
  unfold ny
  simp only[hid,wH,tL]
  exact p7
 refine bh (fun cP=>⟨aG (by omega) (by omega),fin _ ?_⟩) fun Eu=>fin _ ?_
 ·unfold er;rw[if_pos (by omega)];omega
 ·unfold er;rw[if_neg (by omega)]
end
section
variable {h h':H} {K:KV} {col col':cd} {w:Addr} {m:WM} {f:Int} {u v x j k n:Nat}
theorem yB (p:RW h col w m) (C:CI m u v x f j k n) (XW:br m.aD f=(k:Int)) (hn:n<m.op.length) (hu:u+4<=900000) (hv:v<=900000) {ah:aP} (hah:m.op.getD (j - 1) aI=ah)
  (hk:∀h' col',RW h' col' w (uD m f k j n)->al RA h col h' col'->K (.tuple ⟨[]⟩) h'):
  zC 211 [.pointer (some w),.int .i64 f,.agg ⟨aX ah⟩,.agg ⟨aX m.op[n]⟩] h K:=by
 have jZ:=C.A.D.lo
 have rB:=C.A.D.ln
 have jn:=C.A.D.ml
 have egn:m.op.getD n aI=m.op[n]:=aJ hn
 obtain⟨R,hR⟩:∃R,dQ m.op[n].1 f n 0 m m.op[n].1 k=R:=⟨_,rfl⟩
 have C2:=iQ m.op[n].1 n 0 m.op[n].1 C
 have B2:=mE (blk:=m.op[n].1) n 0 m.op[n].1 C ⟨n,Nat.le_refl _,hn,by rw[egn]⟩
 rw[hR] at C2 B2
 unfold uD at hk
 simp only[egn,hR,hah] at hk
 have wB:gm m.op m.op[n].1=(n:Int):=C.A.tM hn
 refine ym.ok _ _ _ _ _ _ _ _ _ _ _ _ (af fun x6 h1 v6 k1 e1 s1=>af fun x7 h2 v7 k2 e2 s2=>?_)
 have gI:=k1.trans k2
 have v6:Var h2 x6 77 (aX ah):=v6.kb k2
 have v7:Var h2 x7 77 (aX m.op[n]):=v7
 have p2:=p.kb gI
 have c6:col x6.block=none:=p.fresh _ (by omega)
 have c7:col x7.block=none:=p.fresh _ (by have:=k1.1;omega)
 obtain⟨t,T,W⟩:=p2.ex
 obtain⟨ob,oc,mb,mn,mc,vw,o,om⟩:=W.ex
 refine aa ⟨_,_,_,vw.cell 2 rfl,gM om.row (aN ?_)⟩
 rw[XW]
 refine⟨_,v7.cell 0 rfl,_,v7.cell 1 rfl,_,v7.cell 2 rfl,_,v7.cell 3 rfl,af fun bD h3 v3 k3 e3 s3=>aQ v3 (by show 4<=4;omega) fun h4 v4 k4 s4=>?_⟩
 have sx:KB h2 h4:=KB.step k3 k4 (by omega)
 refine Ka p2 sx (y:=m.op[n]) v4 (by omega) fun c4 g4 p4 E4=>?_
 have XX:=v6.keep E4.eS ⟨c6,v6.lt⟩
 have Ti:=v7.keep E4.eS ⟨c7,v7.lt⟩
 have c64:c4 x6.block=none:=by rw[E4.cl _ v6.lt];exact c6
 have c74:c4 x7.block=none:=by rw[E4.cl _ v7.lt];exact c7
 have Kg:al RA h col h4 c4:=(al.kb gI).trans E4
 refine⟨_,Ti.cell 0 rfl,gf p4 (by omega) (aN ?_)⟩
 rw[wB]
 refine⟨n,?_⟩
 refine nD (KE:=fun z0 z1 z6 z7 z9 OK h=>ym.n7 z0 z1 z6 z7 z9 OK (fun h=>K (.tuple ⟨[]⟩) h) (fun h=>K (.tuple ⟨[]⟩) h) h) Ti c74 (fun h5 c5 y p5 g5 hy E5=>?_) n 0 g4 p4 C (by omega) hv (by omega) hR (.refl _ _ _)
 have W0:=XX.keep E5.eS ⟨c64,XX.lt⟩
 have JM:=Kg.trans E5
 obtain⟨t5,T5,W5⟩:=p5.ex
 have hlo5:=C2.A.D.lo
 refine⟨_,W0.cell 0 rfl,_,W0.cell 1 rfl,_,W0.cell 2 rfl,_,W0.cell 3 rfl,iw (x:=ah) T5 C2.A.D.G W5 (by omega) fun h6 k6=>lG ?_⟩
 have g6:=g5.kb k6
 have T6:=T5.kb k6
 have W6:=W5.kb k6
 obtain⟨_,_,_,_,_,XY,_,_⟩:=W6.ex
 refine aa ⟨_,XY.cell 0 rfl,_,g6.v.cell 0 rfl,Fe T6 W6 C2.A.D.G fun h7 c7' T7 W7 E7=>ag ?_⟩
 refine dm (K:=fun _=>ym.n9 (some w) f x7 (R.2.2:Int) (fun h=>K (.tuple ⟨[]⟩) h) (fun h=>K (.tuple ⟨[]⟩) h) h7) ?_
 have E47:al RA h4 c4 h7 c7':=(E5.trans (.kb k6)).trans E7.ra
 have XZ:=Ti.keep E47.eS ⟨c74,Ti.lt⟩
 have c77:c7' x7.block=none:=by rw[E47.cl _ Ti.lt];exact c74
 have C3:=C2.put (cv R.1.ns R.1.op R.1.fo ah).1 (cv R.1.ns R.1.op R.1.fo ah).2 R.2.1
 rw[hy] at T7
 have p7:RW h7 c7' w {R.1 with ns:=(cV R.1.ns (cv R.1.ns R.1.op R.1.fo ah).1 (cv R.1.ns R.1.op R.1.fo ah).2 R.2.1).1}:=⟨t5,T7,W7⟩
 exact Fc p7 C3 B2 (by omega) hv XZ c77 fun h8 c8 p8 E8=>hk h8 c8 p8 ((Kg.trans E47).trans E8)
end
theorem Ic {α:Type} {a:α} {l:List α} {p:α->Bool}:cK (a::l) p=if p a=true then 0 else if cK l p<0 then -1 else cK l p+1:=by
 unfold cK
 rw[List.findIdx?_cons]
 by_cases h:p a=true
 ·rw[if_pos h,if_pos h];rfl
 ·rw[if_neg h,if_neg h]
  cases l.findIdx? p with
  | none=>rfl
  | some i=>
   show((i+1:Nat):Int)=if(i:Int)<0 then(-1:Int) else(i:Int)+1
   rw[if_neg (by omega)];rfl
def vh (op:List aP) (s:Nat):Int:=if cK (op.drop s) fk<0 then -1 else cK (op.drop s) fk+(s:Int)
theorem Ie {op:List aP} {i:Nat} (hi:i<op.length):vh op i=if fk op[i]=true then(i:Int) else vh op (i+1):=by
 unfold vh
 rw[List.drop_eq_getElem_cons hi,Ic]
 by_cases h:fk op[i]=true
 ·rw[if_pos h,if_pos h,if_neg (by decide)];omega
 ·rw[if_neg h,if_neg h]
  by_cases h2:cK (op.drop (i+1)) fk<0
  ·rw[if_pos h2,if_pos (by decide),if_pos h2]
  ·rw[if_neg h2,if_neg (by omega),if_neg h2];omega
theorem Kh {op:List aP}:vh op op.length= -1:=by
 unfold vh
 rw[List.drop_length];rfl
section
variable {h h':H} {K:KV} {col col':cd} {w:Addr} {m:WM} {nm:Bs} {f:Int} {u v x j k n:Nat}
theorem rC {Kn:vP.T9} {Ke1:vP.T4} {Ke0:vP.T3} {Kr:vP.T0} {i0:Nat} {x6 x7 x8:Int} (p:RW h col w m) (eH:m.op.length<=900000) (hk:∀h',KB h h'->Kn (some w) nm x6 x7 x8 (i0:Int) (vh m.op (i0+1)) h'):
  ∀(j:Nat) {h2:H},i0+j<m.op.length->KB h h2->vP.Ki Kn Kn Ke1 Ke0 Kr (j+1) (some w) nm x6 x7 x8 (i0:Int) (vh m.op (i0+j+1)) ((i0+j:Nat):Int) h2
 | 0,h2,hj,k2=>by
  unfold vP.Ki LP vP.GR
  exact bX (by omega) (hk h2 k2)
 | j+1,h2,hj,k2=>by
  obtain⟨t,T,W⟩:=p.ex
  obtain⟨ob,oc,mb,mn,mc,v,o,om⟩:=(W.kb k2).ex
  unfold vP.Ki LP vP.GR
  obtain⟨i,hi⟩:∃i,i0+(j+1)=i:=⟨_,rfl⟩
  rw[hi] at hj ⊢
  have e0:((i:Int) - (1:Int))=((i0+j:Nat):Int):=by omega
  have jO:=Ie hj
  refine bQ (by omega) (aa ⟨_,_,_,v.cell 1 rfl,o.row.bn hj rfl fun q hA=>⟨_,hA.snd.fst.int.1,aa ⟨_,_,_,v.cell 1 rfl,o.row.bn hj rfl fun q2 sA=>?_⟩⟩⟩)
  refine⟨_,(sA.snd.dH (k:=2) rfl).fst.str.1,gv fun h3 k3=>ag (aR (fun hb=>⟨aG (by omega) (by omega),?_⟩) fun hb=>⟨aG (by omega) (by omega),?_⟩)⟩
  ·have hb:fk m.op[i]=true:=hb
   rw[if_pos hb] at jO
   have:=rC (Ke1:=Ke1) (Ke0:=Ke0) (Kr:=Kr) p eH hk j (h2:=h3) (by omega) (k2.trans k3)
   rw[show i0+j+1=i by omega,jO] at this
   rw[e0];exact this
  ·have hb:fk m.op[i]=false:=hb
   rw[if_neg (by rw[hb];decide)] at jO
   have:=rC (Ke1:=Ke1) (Ke0:=Ke0) (Kr:=Kr) p eH hk j (h2:=h3) (by omega) (k2.trans k3)
   rw[show i0+j+1=i by omega,jO] at this
   rw[e0];exact this
theorem zo {KE:vP.T3} {Kr:vP.T0} {R:WM × Bool} {h0:H} {mF:cd} (hE:∀h' col',RW h' col' w R.1->al RA h0 mF h' col'->R.2=true->KE h')
  (hK:∀h' col',RW h' col' w R.1->al RA h0 mF h' col'->Kr R.2 h'):∀(r i:Nat) {m:WM} {u:Nat} {h:H} {col:cd},RW h col w m->AI m u v x->MW m->
   u+4*r<=900000->v<=900000->r+i=8->eU nm r m=R->al RA h0 mF h col->vP.gJ KE KE Kr (r+1) (some w) nm (i:Int) h
 | 0,i,m,u,h,col,p,A,M,hu,hv,hi,hR,E0=>by
  unfold vP.gJ LP vP.ix
  refine bX (by omega) ?_
  subst hR
  exact hE h col p E0 rfl
 | r+1,i,m,u,h,col,p,A,M,hu,hv,hi,hR,E0=>by
  unfold vP.gJ LP vP.ix
  refine bQ (by omega) ?_
  obtain⟨t,T,W⟩:=p.ex
  obtain⟨ob,oc,mb,mn,mc,vw,o,om⟩:=W.ex
  have jZ:=A.D.lo
  have jn:=A.D.ml
  have hmn:=om.len
  unfold eU at hR
  refine aa ⟨_,_,_,vw.cell 2 rfl,qM om.row (aN ?_)⟩
  refine bh (fun hn=>?_) fun hn=>?_
  ·rw[if_pos hn] at hR
   subst hR
   exact hK h col p E0
  rw[if_neg hn] at hR
  obtain⟨k,ek,dJ,Ig⟩:=mu (by omega:0<=fC m.aD nm)
  have wH:(fC m.aD nm).toNat=k:=by rw[ek];rfl
  rw[wH] at hR
  rw[ek]
  have A2:=A.round dJ Ig
  have M2:=M.round A dJ Ig
  have tL:m.aD.getD k noMark=m.aD[k]:=aJ dJ
  obtain⟨F,hF⟩:∃F,(m.aD.getD k noMark).1=F:=⟨_,rfl⟩
  have hFk:m.aD[k].1=F:=by rw[<-tL];exact hF
  have XW:br m.aD F=(k:Int):=by rw[<-hFk];exact MI.find M dJ (by rw[<-tL];exact Ig)
  obtain⟨S2,Fg⟩:∃S2,jv m k=S2:=⟨_,rfl⟩
  rw[Fg] at A2 M2 hR
  unfold jv at Fg
  simp only[] at Fg
  rw[hF] at Fg Ig
  refine aa ⟨_,_,_,vw.cell 2 rfl,om.row.bn (i:=k) dJ rfl fun q hA=>⟨_,hA.fst.int.1,?_⟩⟩
  rw[hFk]
  refine gf p (by omega) (aN ?_)
  refine bh (fun eJ=>?_) fun eJ=>?_
  ·rw[if_pos eJ] at Fg
   subst Fg
   rw[if_neg (by simp)] at hR
   subst hR
   exact qd p dJ (by omega) fun h4 c4 p4 E4=>hK h4 c4 p4 (E0.trans E4.ra)
  rw[if_neg eJ] at Fg
  obtain⟨i1,ei⟩:=Int.eq_ofNat_of_zero_le (by omega:0<=gm m.op F)
  have Tl:(gm m.op F).toNat=i1:=by rw[ei];rfl
  rw[Tl] at Fg
  rw[ei]
  have bM:i1<m.op.length:=by have:=(lH (l:=m.op) (p:=fun x=>decide (x.1=F))).1;have h2:(cK m.op fun x=>decide (x.1=F))=(i1:Int):=ei;omega
  refine vi p (by omega) (fun y hy=>by have:=A.yC y hy;omega) bM fun h4 k4=>ag (aR (fun hs=>?_) fun hs=>?_)
  rotate_left
  ·rw[hs,if_pos rfl] at Fg
   subst Fg
   rw[if_neg (by simp)] at hR
   subst hR
   exact aE (hK h4 col (p.kb k4) (E0.trans (.kb k4)))
  rw[hs,if_neg (by simp)] at Fg
  refine aF ?_
  have p4:=p.kb k4
  have E4:=E0.trans (al.kb (S:=RA) (col:=col) k4)
  obtain⟨t4,T4,W4⟩:=p4.ex
  obtain⟨OL,OM,Tm,Kj,Kk,yD,o4,Tn⟩:=W4.ex
  refine aa ⟨_,_,_,yD.cell 1 rfl,aG (by omega) (by omega),m.op.length - 1 - i1+1,?_⟩
  have e1:((m.op.length:Int) - (1:Int))=((i1+(m.op.length - 1 - i1):Nat):Int):=by omega
  rw[e1]
  have yE:vh m.op (i1+(m.op.length - 1 - i1)+1)= -1:=by rw[show i1+(m.op.length - 1 - i1)+1=m.op.length by omega];exact Kh
  rw[<-yE]
  refine rC (Kn:=fun z0 z1 z6 z7 z8 z9 ON h=>vP.n22 z0 z1 z6 z7 z8 z9 ON (fun z0 z1 z6 h=>vP.Ao z0 z1 z6 (vP.gJ KE KE Kr (r+1)) KE Kr h) (fun z0 z1 z6 h=>vP.Ao z0 z1 z6 (vP.gJ KE KE Kr (r+1)) KE Kr h) KE Kr h) p4 (by omega) (fun h5 k5=>?_) (m.op.length - 1 - i1) (by omega) (KB.refl h4)
  have p5:=p4.kb k5
  have E5:=E4.trans (al.kb (S:=RA) (col:=col) k5)
  by_cases RF:cK (m.op.drop (i1+1)) fk<0
  ·rw[if_pos RF] at Fg
   subst Fg
   rw[if_neg (by simp)] at hR
   subst hR
   have hb:vh m.op (i1+1)= -1:=by unfold vh;rw[if_pos RF]
   rw[hb]
   refine bQ (by decide) (aF (gg p5 fun h6 c6 p6 E6=>?_))
   have Kl:(cX m (i1:Int)).aD=m.aD:=rfl
   exact qd p6 (by rw[Kl];exact dJ) (by rw[Kl];omega) fun h7 c7 p7 E7=>hK h7 c7 p7 ((E5.trans E6.ra).trans E7.ra)
  ·rw[if_neg RF] at Fg
   subst Fg
   rw[if_pos rfl] at hR
   obtain⟨fY,hjs,_⟩:=fD (l:=m.op.drop (i1+1)) (p:=fk) (by omega)
   rw[List.length_drop] at fY
   obtain⟨j,ej⟩:=Int.eq_ofNat_of_zero_le (by omega:0<=cK (m.op.drop (i1+1)) fk)
   have ejn:(cK (m.op.drop (i1+1)) fk).toNat=j:=by rw[ej];rfl
   rw[ejn] at fY hR A2 M2
   obtain⟨n,vQ⟩:∃n,j+(i1+1)=n:=⟨_,rfl⟩
   rw[vQ] at hR A2 M2
   have hb:vh m.op (i1+1)=(n:Int):=by unfold vh;rw[if_neg RF,ej];omega
   rw[hb]
   have Eu:n<m.op.length:=by omega
   have C:CI m u v x F i1 k n:=by
    have:=A.begin (n:=n) dJ (by rw[hF];exact Ig) (by rw[hF];omega) (by rw[hF,Tl];omega) (by omega)
    rw[hF,Tl] at this
    exact this
   have yF:=C.h0
   refine bX (by omega) (aE ?_)
   obtain⟨WQ,oc5,Xz,WR,XA,BY,o5,Jt⟩:=(W4.kb k5).ex
   have e3:((i1:Int) - (1:Int))=((i1 - 1:Nat):Int):=by omega
   have Ax:i1 - 1<m.op.length:=by omega
   refine aa ⟨_,_,_,BY.cell 1 rfl,aG (by omega) (by omega),?_⟩
   rw[e3]
   refine o5.row.bn (i:=i1 - 1) Ax rfl fun q hA=>df hA fun ow=>aa ⟨_,_,_,BY.cell 1 rfl,o5.row.bn (i:=n) Eu rfl fun q2 sA=>df sA fun ow2=>?_⟩
   refine yB p5 C XW Eu (by omega) hv (ah:=m.op[i1 - 1]) (aJ Ax) fun h6 c6 p6 E6=>⟨aG (by omega) (by omega),?_⟩
   have e4:((i:Int)+(1:Int))=((i+1:Nat):Int):=rfl
   rw[e4]
   exact zo hE hK r (i+1) p6 A2 M2 (by omega) hv (by omega) hR (E5.trans E6)
theorem Az (p:RW h col w m) (A:AI m u v x) (M:MW m) (hu:u+32<=900000) (hv:v<=900000) (hk:∀h' col',RW h' col' w (runM m nm).1->al RA h col h' col'->K (.bool (runM m nm).2) h'):
  zC 175 [.pointer (some w),S nm] h K:=by
 obtain⟨t,T,W⟩:=p.ex
 have jZ:=A.D.lo
 have rB:=A.D.ln
 have jn:=A.D.ml
 obtain⟨R,hR⟩:∃R,runM m nm=R:=⟨_,rfl⟩
 rw[hR] at hk
 refine vP.ok _ _ _ _ (eV W A.D.ne (by omega) fun h1 k1=>jx (x:=dR m.op) <| af fun a2 h2 v2 k2 e2 s2=>aQ v2 (by show 4<=4;omega) fun h3 v3 k3 s3=>?_)
 have qy:KB h h3:=k1.trans (KB.step k2 k3 (by omega))
 have p3:=p.kb qy
 have v3:Var h3 a2 77 (aX (dR m.op)):=v3
 have rest:eU nm 8 m=R->vP.n4 (some w) nm (fun y h=>K (.bool y) h) (fun y h=>K (.bool y) h) h3:=fun hr=>
  ⟨9,zo (fun h' c' p' E' e=>by have:=hk h' c' p' E';rw[e] at this;exact this) (fun h' c' p' E'=>hk h' c' p' E') 8 0 p3 A M (by omega) hv rfl hr (.kb qy)⟩
 obtain⟨ob,oc,mb,mn,mc,vw,o,om⟩:=(W.kb qy).ex
 unfold runM at hR
 have no:(uE (dR m.op) nm=true->0<=br m.aD (dR m.op).1)->eU nm 8 m=R:=fun hc=>by
  rw[if_neg (fun⟨h1,h2⟩=>by have:=hc h1;omega)] at hR
  exact hR
 have nn:¬(uE (dR m.op) nm=true)->eU nm 8 m=R:=fun hc=>no fun h=>absurd h hc
 refine⟨_,v3.cell 1 rfl,bh (fun e1=>⟨_,v3.cell 2 rfl,bh (fun e2=>aa ⟨_,_,_,vw.cell 2 rfl,_,v3.cell 0 rfl,gM om.row (aN (bh (fun e3=>?_) fun e3=>aE ?_))⟩) fun e2=>aE ?_⟩) fun e1=>aE ?_⟩
 ·have hi:uE (dR m.op) nm=true:=by unfold uE;rw[decide_eq_true e1,decide_eq_true e2];rfl
  rw[if_pos ⟨hi,e3⟩] at hR
  refine aF (aa ⟨_,_,_,vw.cell 1 rfl,aG (by omega) (by omega),?_⟩)
  subst hR
  exact gg p3 fun h5 c5 p5 E5=>hk h5 c5 p5 ((al.kb qy).trans E5.ra)
 ·exact rest (no fun _=>by omega)
 ·exact rest (nn fun h=>e2 (by unfold uE at h;simp only[Bool.and_eq_true,decide_eq_true_eq] at h;exact h.2))
 ·exact rest (nn fun h=>e1 (by unfold uE at h;simp only[Bool.and_eq_true,decide_eq_true_eq] at h;exact h.1))
end
section
variable {Z:Nat->Prop} {h h':H} {K:KV} {col col':cd} {w:Addr} {m:WM}
theorem yx (p:RW h col w m) (G:aV m.ns) (bI:0<m.op.length) (eH:m.op.length<1000000) (AA:m.ns.length<1000000) {tx:Bs} (Fh:tx.length<=maxLen)
  (hk:∀h' col',RW h' col' w (uF m tx)->al RS h col h' col'->K (.tuple ⟨[]⟩) h'):
  zC 45 [.pointer (some w),S tx] h K:=by
 obtain⟨t,T,W⟩:=p.ex
 refine Xer.ok _ _ _ _ ?_
 refine eV W bI (by omega) fun h2 k2=>?_
 refine jx (x:=dR m.op) ?_
 refine iw (x:=dR m.op) (T.kb k2) G (W.kb k2) (by omega) fun h3 k3=>lG ?_
 have fX:=k2.trans k3
 obtain⟨ob,oc,mb,mn,mc,vw,ow,X0⟩:=(W.kb fX).ex
 have G4:aV (bF m.ns (bG 3 0 [] [] tx)).1:=G.bF _ _ _ _ _
 have tail:∀h4 c4,dD h4 c4 1 t (bF m.ns (bG 3 0 [] [] tx)).1->Ext 1 h3 col h4 c4->zC 104 [.pointer (some t),.int .i64 (cv m.ns m.op m.fo (dR m.op)).1,.int .i64 (cv m.ns m.op m.fo (dR m.op)).2,.int .i64 (bF m.ns (bG 3 0 [] [] tx)).2] h4 fun v40 yG=>au v40 fun X1=>cond X1 (K (.tuple ⟨[]⟩) yG) (K (.tuple ⟨[]⟩) yG):=fun h4 c4 T4 E4=>by
  refine GS T4 G4 fun h5 c5 T5 E5=>ag ?_
  have CC:al (fun s=>s=1) h3 col h4 c4:=E4.p rfl
  have Km:al (fun s=>s=1) h4 c4 h5 c5:=E5.p rfl
  have W5:=((W.kb fX).ext CC (by decide)).ext Km (by decide)
  have fin:K (.tuple ⟨[]⟩) h5:=hk h5 c5 ⟨t,T5,W5⟩ ((al.kb fX).trans ((CC.trans Km).mono fun s hs=>.inl hs))
  exact dm (K:=fun _=>K (.tuple ⟨[]⟩) h5) fin
 refine⟨aa (aa ⟨_,vw.cell 0 rfl,wI (T.kb fX) (sF (A:=fun _=>True)) (by decide) ⟨by decide,by decide⟩ ⟨by decide,by decide⟩ (by decide) Fh AA fun h4 c4 T4 E4=>aN ?_⟩),
  aa ⟨_,vw.cell 0 rfl,aa ⟨_,vw.cell 0 rfl,wI (T.kb fX) (sF (A:=fun _=>True)) (by decide) ⟨by decide,by decide⟩ ⟨by decide,by decide⟩ (by decide) Fh AA fun h4 c4 T4 E4=>aN (tail h4 c4 T4 E4)⟩⟩⟩
 obtain⟨OL,OM,Tm,Kj,Kk,yD,_,_⟩:=((W.kb fX).ext (S:=fun s=>s=1) (E4.p rfl) (by decide)).ex
 exact⟨_,yD.cell 0 rfl,tail h4 c4 T4 E4⟩
end
section
variable {B:Nat->Prop} {h:H} {K:KV} {col:cd} {a w:Addr} {mm:MM} {u v x:Nat} {t:bJ} {b:OA} {n c:Nat} {ns:List Bs} {s:Bs}
theorem pX (C:CR h col a w mm u v x) (rn:Row cL B h b n c ns) (sc:Int) (hk:∀h',KB h h'->K (.bool (lg mm.w.op sc ns)) h'):zC 114 [.pointer (some a),.int .u8 sc,.slice b n c] h K:=by
 obtain⟨t,T,W⟩:=C.p.ex
 obtain⟨ob,oc,mb,mn,mc,vw,o,om⟩:=W.ex
 exact Xfb.ok _ _ _ _ _ _ _ (aa ⟨_,C.V.cell 0 rfl,aa ⟨_,_,_,vw.cell 1 rfl,nq o.row C.WS rn fun h1 k1=>ag (dm (K:=fun b=>K (.bool b) h1) (hk h1 k1))⟩⟩)
theorem tP (C:CR h col a w mm u v x) (hu:u<=890000) (T:fj h col t b n c) {sp:Int} (hsp:bc .u8 sp) (hk:∀h' c',CR h' c' a w {mm with w:=bt mm.w sp t.2.1 t.2.2.1} (u+1) v x->al RX h col h' c'->K (.int .i64 mm.w.ns.length) h'):zC 103 [.pointer (some w),.int .u8 sp,.agg ⟨aT (bP t b n c)⟩] h K:=by
 have jZ:=C.s.A.D.lo
 have rB:=C.s.A.D.ln
 have hn:=T.s.1
 exact ox C.p C.s.A.D.G C.s.A.D.ne (by omega) (by omega) T.r T.nh T.attrs hsp T.k (by show t.2.1.length<=_;omega) fun h2 c2 p2 E2=>hk h2 c2 (C.ra p2 E2.ra (C.s.insert sp hn t.2.2.1)) E2.ra.rx
theorem sj (C:CR h col a w mm u v x) (hu:u<=890000) (T:fj h col t b n c) (hk:∀h' c',CR h' c' a w {mm with w:=fe mm.w t} (u+1) v x->al RX h col h' c'->K (.int .i64 mm.w.ns.length) h'):zC 110 [.pointer (some a),.agg ⟨aT (bP t b n c)⟩] h K:=
 Xe7.ok _ _ _ _ (T.new C.f fun a1 h1 l1 k1 _=>aa ⟨_,(C.cY k1).V.cell 0 rfl,l1.ld (tP (C.cY k1) hu l1.T zf fun h2 c2 C2 E2=>aN (hk h2 c2 C2 ((al.kb k1).trans E2)))⟩)
theorem AB (C:CR h col a w mm u v x) (i:Int) (hk:jb h col a w K {mm with w:=cX mm.w i} u v x):zC 61 [.pointer (some w),.int .i64 i] h K:=
 gg C.p fun h2 c2 p2 E2=>hk h2 c2 (C.ra p2 E2.ra (C.s.close i)) E2.ra.rx
theorem ze (C:CR h col a w mm u v x) (hu:u<=890000) (hk:jb h col a w K {mm with w:=sv mm.w} u v x):zC 39 [.pointer (some a)] h K:=by
 obtain⟨t,T,W⟩:=C.p.ex
 obtain⟨ob,oc,mb,mn,mc,vw,o,om⟩:=W.ex
 have jZ:=C.s.A.D.lo
 exact Xfa.ok _ _ _ (aa ⟨_,C.V.cell 0 rfl,aa ⟨_,C.V.cell 0 rfl,aa ⟨_,_,_,vw.cell 1 rfl,aG (by omega) (by omega),AB C _ hk⟩⟩⟩)
theorem An (C:CR h col a w mm u v x) (hu:u<=880000) (T:fj h col t b n c) (hk:jb h col a w K {mm with w:=jr mm.w t} (u+1) v x):zC 107 [.pointer (some a),.agg ⟨aT (bP t b n c)⟩] h K:=
 Xfg.ok _ _ _ _ (T.new C.f fun a1 h1 l1 k1 _=>l1.ld (sj (C.cY k1) (by omega) l1.T fun h2 c2 C2 E2=>aN (ze C2 (by omega) fun h3 c3 C3 E3=>hk h3 c3 C3 ((al.kb k1).trans (E2.trans E3)))))
theorem uz (C:CR h col a w mm u v x) (hu:u<=800000) (hv:v<=10000) (hk:jb h col a w K {mm with w:=aU mm.w} (u+v) v x):zC 44 [.pointer (some w)] h K:=by
 have jZ:=C.s.A.D.lo
 have rB:=C.s.A.D.ln
 have jn:=C.s.A.D.ml
 exact tS C.p C.s.A.D.G C.s.A.D.ne (by omega) (by omega) C.s.A.D.mw.w fun h2 c2 p2 E2=>hk h2 c2 (C.ra p2 E2.ra C.s.uG) E2.ra.rx
theorem j3 (C:CR h col a w mm u v x) (ex:Bs) (hk:jb h col a w K {mm with w:=wJ mm.w ex} u v x):zC 115 [.pointer (some a),S ex] h K:=by
 obtain⟨t,T,W⟩:=C.p.ex
 obtain⟨ob,oc,mb,mn,mc,vw,o,om⟩:=W.ex
 exact Xe6.ok _ _ _ _ (aa ⟨_,C.V.cell 0 rfl,aa ⟨_,C.V.cell 0 rfl,aa ⟨_,_,_,vw.cell 1 rfl,mG o.row fun h1 k1=>aN ⟨k1.ext,AB (C.cY k1) _ fun h2 c2 C2 E2=>hk h2 c2 C2 ((al.kb k1).trans E2)⟩⟩⟩⟩)
theorem XI (C:CR h col a w mm u v x) (rn:Row cL B h b n c ns) (hk:jb h col a w K {mm with w:=upW mm.w ns} u v x):zC 116 [.pointer (some a),.slice b n c] h K:=by
 obtain⟨t,T,W⟩:=C.p.ex
 obtain⟨ob,oc,mb,mn,mc,vw,o,om⟩:=W.ex
 exact Xfe.ok _ _ _ _ _ _ (aa ⟨_,C.V.cell 0 rfl,aa ⟨_,C.V.cell 0 rfl,aa ⟨_,_,_,vw.cell 1 rfl,pr o.row rn fun h1 k1=>aN ⟨k1.ext,AB (C.cY k1) _ fun h2 c2 C2 E2=>hk h2 c2 C2 ((al.kb k1).trans E2)⟩⟩⟩⟩)
theorem EO (C:CR h col a w mm u v x) (ex:Bs) (hs:s.length<=4000) {Q:H->Prop} (hk:∀h' c',CR h' c' a w {mm with w:=wv mm.w ex [s]} u v x->al RX h col h' c'->Q h'):
  zC 115 [.pointer (some a),S ex] h fun _ h7=>aw h7 #[S s] 9 fun a8 h9=>zC 116 [.pointer (some a),.slice (some a8) 1 1] h9 fun _ eF=>Q eF:=
 j3 C ex fun h1 c1 C1 E1=>eN hs fun a2 h2 r2 k2=>XI (C1.cY k2) r2 fun h3 c3 C3 E3=>hk h3 c3 C3 (E1.trans ((al.kb k2).trans E3))
theorem pf (C:CR h col a w mm u v x) (sc:Int) (ex:Bs) (hs:s.length<=4000) {Q:H->Prop} (hk:∀h' c',CR h' c' a w {mm with w:=dF mm.w sc ex [s]} u v x->al RX h col h' c'->Q h'):
  aw h #[S s] 9 fun a1 h2=>zC 114 [.pointer (some a),.int .u8 sc,.slice (some a1) 1 1] h2 fun v3 h4=>au v3 fun b5=>cond b5 (zC 115 [.pointer (some a),S ex] h4 fun _ h7=>aw h7 #[S s] 9 fun a8 h9=>zC 116 [.pointer (some a),.slice (some a8) 1 1] h9 fun _ eF=>Q eF) (Q h4):=by
 unfold dF at hk
 refine eN hs fun a1 h1 r1 k1=>pX (C.cY k1) r1 sc fun h2 k2=>ag (aR (fun e=>?_) fun e=>?_)
 ·have e:lg mm.w.op sc [s]=true:=e
  rw[if_pos e] at hk
  exact EO ((C.cY k1).cY k2) ex hs fun h3 c3 C3 E3=>hk h3 c3 C3 ((al.kb (k1.trans k2)).trans E3)
 ·have e:lg mm.w.op sc [s]=false:=e
  rw[if_neg (by rw[e];decide)] at hk
  exact hk h2 col ((C.cY k1).cY k2) (.kb (k1.trans k2))
theorem mv (C:CR h col a w mm u v x) (hk:jb h col a w K {mm with w:=pW mm.w} u v x):zC 109 [.pointer (some a)] h K:=
 Xff.ok _ _ _ (pf C 2 [112] (s:=[112]) (by decide) (Q:=fun h=>K (.tuple ⟨[]⟩) h) hk)
theorem jq (C:CR h col a w mm u v x) (hu:u<=890000) {a1:Addr} (l:LT h col a1 t b n c) {Q:Int->H->Prop} (hk:∀h' c',CR h' c' a w {mm with w:=fe mm.w t} (u+1) v x->al RX h col h' c'->Q (mm.w.ns.length:Int) h'):
  bL h a1 fun t15=>zC 110 [.pointer (some a),.agg ⟨aT t15⟩] h fun oT fF=>aL .i64 oT fun i18=>Q i18 fF:=
 l.ld (sj C hu l.T fun h2 c2 C2 E2=>aN (hk h2 c2 C2 E2))
theorem kr (C:CR h col a w mm u v x) (hu:u<=890000) {a1:Addr} (l:LT h col a1 t b n c) {Q:Int->H->Prop} (hk:∀h' c',CR h' c' a w {mm with w:=dN mm.w t} (u+1) v x->al RX h col h' c'->Q (mm.w.ns.length:Int) h'):
  zC 109 [.pointer (some a)] h fun np dA=>bL dA a1 fun t15=>zC 110 [.pointer (some a),.agg ⟨aT t15⟩] dA fun oT fF=>aL .i64 oT fun i18=>Q i18 fF:=
 mv C fun h2 c2 C2 E2=>jq C2 hu (l.ext E2) fun h3 c3 C3 E3=>by
  have:=hk h3 c3 C3 (E2.trans E3)
  rwa[<-RG mm.w] at this
theorem pg (C:CR h col a w mm u v x) (hu:u<=800000) (hv:v<=10000) {a1:Addr} (l:LT h col a1 t b n c) {Q:Int->H->Prop} (hk:∀h' c' i,CR h' c' a w {mm with w:=gY mm.w t} (u+v+1) v x->al RX h col h' c'->Q i h'):
  ae (some a) fun a87=>∃p88,cell h (a87.add 0)=some (.pointer p88)/\(zC 44 [.pointer p88] h fun v89 OO=>bL OO a1 fun t91=>zC 110 [.pointer (some a),.agg ⟨aT t91⟩] OO fun X2 Ih=>aL .i64 X2 fun i94=>Q i94 Ih):=
 aa ⟨_,C.V.cell 0 rfl,uz C hu hv fun h2 c2 C2 E2=>jq C2 (by omega) (l.ext E2) fun h3 c3 C3 E3=>hk h3 c3 _ C3 (E2.trans E3)⟩
theorem JT (C:CR h col a w mm u v x) (T:fj h col t b n c) (rd:Int) (hk:jb h col a w K (mm.fv mm.w t rd) u v x):zC 166 [.pointer (some a),.agg ⟨aT (bP t b n c)⟩,.int .u8 rd] h K:=
 Xfr.ok _ _ _ _ _ (T.new C.f fun a1 h1 l1 k1 _=>aa ⟨_,(C.cY k1).V.cell 1 rfl,aa ((C.cY k1).H3 (mm2:={mm with back:=mm.mode}) rfl rfl (by decide) fun h2 C2 E2=>aa (C2.H3 (mm2:={mm with back:=mm.mode,mode:=1}) rfl rfl (by decide) fun h3 C3 E3=>aa (C3.H3 (mm2:={mm with back:=mm.mode,mode:=1,read:=rd}) rfl rfl (by decide) fun h4 C4 E4=>⟨_,(((l1.ext E2).ext E3).ext E4).nm,aa (C4.H3 (mm2:=mm.fv mm.w t rd) rfl rfl (by decide) fun h5 C5 E5=>hk h5 _ C5 ((al.kb k1).trans (E2.trans (E3.trans (E4.trans E5)))))⟩)))⟩)
theorem GC (C:CR h col a w mm u v x) (hu:u<=880000) (T:fj h col t b n c) (rd:Int) (hk:jb h col a w K (mm.fv (fe mm.w t) t rd) (u+1) v x):zC 108 [.pointer (some a),.agg ⟨aT (bP t b n c)⟩,.int .u8 rd] h K:=
 Xfo.ok _ _ _ _ _ (T.new C.f fun a1 h1 l1 k1 _=>jq (C.cY k1) (by omega) l1 fun h2 c2 C2 E2=>(l1.ext E2).ld (JT C2 (l1.ext E2).T rd fun h3 c3 C3 E3=>hk h3 c3 C3 ((al.kb k1).trans (E2.trans E3))))
theorem GU (C:CR h col a w mm u v x) (hv:v<=100000):∃mb mn mc,cell h (w.add 2)=some (.slice mb mn mc)/\∀(y:aS) (ab:OA) (an ac:Nat) (Q:H->Prop),cG (bT col h) h y ab an ac->
  (∀h' c',RW h' c' w {mm.w with aD:=fp mm.w.aD y}->al RA h col h' c'->Q h')->
  zC 207 [.slice mb mn mc,.agg ⟨[.int .i64 y.1,S y.2.1,.slice ab an ac]⟩] h fun v h2=>aA v fun b n c=>bH h h2/\aZ (w.add 2) [.slice b n c] 0 h2 Q:=by
 obtain⟨t,T,W⟩:=C.p.ex
 obtain⟨ob,oc,mb,mn,mc,vw,o,om⟩:=W.ex
 have jn:=C.s.A.D.ml
 have hl:=om.len
 obtain⟨xs,he,hc,_⟩:=om.parts
 refine⟨_,_,_,vw.cell 2 rfl,fun y ab an ac Q hR hk=>?_⟩
 refine yH om.row he hc (fun k hk=>hk.2) hR (by omega) fun b' n' c' h2 o2 k2=>aC ⟨k2.ext,dZ W C.f k2 o2 fun h3 W3 E3 f3 _=>?_⟩
 exact hk h3 _ ⟨t,T.cJ (Z:=fun k=>k=3) (by decide) E3 f3,W3⟩ (E3.mono fun s hs=>.inl (.inr hs))
theorem To (C:CR h col a w mm u v x) (hv:v<=100000) (T:fj h col t b n c) {id:Int} (hid:bc .i64 id) {u1 v1:Nat} (s1:MS {mm.w with aD:=fp mm.w.aD (id,t.2.1,t.2.2.1)} u1 v1 x) (hk:jb h col a w K {mm with w:={mm.w with aD:=fp mm.w.aD (id,t.2.1,t.2.2.1)}} u1 v1 x):zC 206 [.pointer (some a),.int .i64 id,.agg ⟨aT (bP t b n c)⟩] h K:=by
 refine Xfm.ok (some a) id (bP t b n c) K h (T.new C.f fun a4 h4 l4 k4 _=>?_)
 have C4:=C.cY k4
 obtain⟨mb,mn,mc,e2,push⟩:=GU C4 hv
 have hR:cG (bT col h4) h4 (id,t.2.1,t.2.2.1) b n c:=jI (m:=(id,t.2.1,t.2.2.1)) l4.T.r T.z hid (by have:=T.s.1;show t.2.1.length<=_;simp only[maxLen];omega)
 have fin:=push _ b n c (fun h=>K (.tuple ⟨[]⟩) h) hR fun h5 c5 p5 E5=>hk h5 c5 (C4.ra p5 E5 s1) ((al.kb k4).trans E5.rx)
 exact aa ⟨_,C4.V.cell 0 rfl,aa ⟨_,C4.V.cell 0 rfl,aa ⟨_,_,_,e2,_,l4.nm,_,_,_,l4.V.cell 2 rfl,fin⟩⟩⟩
theorem oZ (C:CR h col a w mm u v x) (hu:u<=800000) (hv:v<=10000) (T:fj h col t b n c) (hk:jb h col a w K {mm with w:=iq mm.w t} (u+v+1) (v+1) x):zC 172 [.pointer (some a),.agg ⟨aT (bP t b n c)⟩] h K:=by
 have rB:=C.s.uG.A.D.ln
 refine Xfj.ok _ _ _ _ (T.new C.f fun a1 h1 l1 k1 _=>aa ⟨_,(C.cY k1).V.cell 0 rfl,uz (C.cY k1) hu hv fun h2 c2 C2 E2=>(l1.ext E2).ld (sj C2 (by omega) (l1.ext E2).T fun h3 c3 C3 E3=>aN (((l1.ext E2).ext E3).ld ?_))⟩)
 exact To C3 (by omega) ((l1.ext E2).ext E3).T (id:=((aU mm.w).ns.length:Int)) (aG (by omega) (by omega)) (C.s.format T.s) fun h4 c4 C4 E4=>hk h4 c4 C4 ((al.kb k1).trans (E2.trans (E3.trans E4)))
theorem JS (C:CR h col a w mm u v x) (hv:v<=10000) (hk:jb h col a w K {mm with w:=vR mm.w} u (v+1) x):zC 173 [.pointer (some a)] h K:=by
 obtain⟨mb,mn,mc,e2,push⟩:=GU C (by omega)
 refine Xe8.ok _ _ _ (aa ⟨_,C.V.cell 0 rfl,aa ⟨_,C.V.cell 0 rfl,aa ⟨_,_,_,e2,?_⟩⟩⟩)
 exact push (-1,[],[]) none 0 0 _ (jI (m:=(-1,[],[])) ⟨rfl,Nat.le_refl _,Nat.zero_le _,fun i x hx=>by simp at hx⟩ (fun _=>rfl) (aG (by decide) (by decide)) (by decide)) fun h4 c4 p4 E4=>hk h4 c4 (C.ra p4 E4 C.s.wK) E4.rx
theorem EJ (C:CR h col a w mm u v x) (hu:u<=800000) (hv:v<=10000) (hk:jb h col a w K {mm with w:=bV mm.w s} (u+32) v x):zC 122 [.pointer (some a),S s] h K:=by
 refine Xfi.ok _ _ _ _ (aa ⟨_,C.V.cell 0 rfl,Az C.p C.s.A C.s.M (by omega) (by omega) fun h2 c2 p2 E2=>?_⟩)
 have C2:=C.ra p2 E2 (C.s.run s)
 unfold bV at hk
 refine ag (aR (fun e=>?_) fun e=>?_)
 ·rw[if_pos e] at hk
  exact hk h2 c2 C2 E2.rx
 ·rw[if_neg (by rw[e];decide)] at hk
  have jZ:=C2.s.A.D.lo
  exact aa ⟨_,C2.V.cell 0 rfl,mz C2.p (by omega) fun h3 c3 p3 E3=>hk h3 c3 (C2.ra p3 E3.ra (C2.s.close _)) (E2.rx.trans E3.ra.rx)⟩
theorem oY (r:Row cL B h b n c ns) (hk:K (.bool (bm ns s)) h):zC 106 [.slice b n c,S s] h K:=by
 refine Tp.ok _ _ _ _ _ _ ?_
 have hl:=r.len
 have hm:n<=maxLen:=Nat.le_trans r.cap r.max
 simp only[maxLen] at hm
 refine⟨n+1,?_⟩
 have key:∀k i,i+k=n->(∀j (h1:j<ns.length),j<i->ns[j]≠s)->
   Tp.cR (fun h=>K (.bool false) h) (fun h=>K (.bool false) h) (fun y4 h=>K (.bool y4) h) (k+1) b n c s (i:Int) h:=by
  intro k
  induction k with
  | zero=>
   intro i hi bq
   unfold Tp.cR LP Tp.bS
   refine bX (by omega) ?_
   have:bm ns s=false:=decide_eq_false fun hm=>by
    obtain⟨j,hj,e⟩:=List.mem_iff_getElem.1 hm
    exact absurd e (bq j hj (by omega))
   rwa[this] at hk
  | succ k ih=>
   intro i hi bq
   unfold Tp.cR LP Tp.bS
   refine bQ (by omega) (r.bn (i:=i) (by omega) rfl fun a hA=>RH hA fun _=>bh (fun e=>?_) fun e=>⟨aG (by omega) (by omega),ih (i+1) (by omega) fun j h1 hj=>?_⟩)
   ·have:bm ns s=true:=decide_eq_true (by rw[<-e];exact List.getElem_mem _)
    rwa[this] at hk
   ·by_cases e2:j<i
    ·exact bq j h1 e2
    ·have:j=i:=by omega
     subst this
     exact e
 exact key n 0 (by omega) fun j _ hj=>absurd hj (Nat.not_lt_zero _)
theorem vM {Q:KV} (hk:∀a h',Row cL (fun _=>True) h' (some a) 6 6 yw->KB h h'->Q (.slice (some a) 6 6) h'):zC 111 [] h Q:=
 Xfu.ok _ _ (oX (ws:=yw) rfl (by decide) (by decide) fun a1 h1 r1 k1=>hk a1 h1 r1 k1)
theorem XF (C:CR h col a w mm u v x) (hu:u<=890000) (rn:Row cL B h b n c ns) (hk:∀h',KB h h'->K (.bool (Es mm.w ns)) h'):zC 112 [.pointer (some a),.slice b n c] h K:=by
 obtain⟨t,T,W⟩:=C.p.ex
 have jZ:=C.s.A.D.lo
 refine Xe5.ok _ _ _ _ _ _ (aa ⟨_,C.V.cell 0 rfl,eV W C.s.A.D.ne (by omega) fun h1 k1=>jx (x:=dR mm.w.op) <| af fun a2 h2 v2 k2 e2 s2=>aQ v2 (by show 4<=4;omega) fun h3 v3 k3 s3=>?_⟩)
 have qy:KB h h3:=k1.trans (KB.step k2 k3 (by omega))
 have v3:Var h3 a2 77 (aX (dR mm.w.op)):=v3
 refine⟨_,v3.cell 1 rfl,bh (fun e=>⟨_,v3.cell 2 rfl,oY (rn.kb qy) (ag (dm (K:=fun b=>K (.bool b) h3) ?_))⟩) fun e=>?_⟩
 ·have:=hk h3 qy
  unfold Es at this;rwa[decide_eq_true e,Bool.true_and] at this
 ·have:=hk h3 qy
  unfold Es at this;rwa[decide_eq_false e,Bool.false_and] at this
theorem JQ (C:CR h col a w mm u v x) (hu:u<=880000) (T:fj h col t b n c) {b2:OA} {n2 c2:Nat} (rn:Row cL B h b2 n2 c2 ns) (hk:jb h col a w K {mm with w:=dN (qU mm.w ns) t} (u+1) v x):zC 113 [.pointer (some a),.agg ⟨aT (bP t b n c)⟩,.slice b2 n2 c2] h K:=by
 unfold qU at hk
 refine Xfk.ok _ _ _ _ _ _ _ (T.new C.f fun a1 h1 l1 k1 _=>?_)
 have C1:=C.cY k1
 obtain⟨tr,T1,W1⟩:=C1.p.ex
 obtain⟨ob,oc,mb,mn,mc,vw,o,om⟩:=W1.ex
 have jZ:=C.s.A.D.lo
 refine aa ⟨_,C1.V.cell 0 rfl,aa ⟨_,_,_,vw.cell 1 rfl,yI o.row (rn.kb k1) fun h2 k2=>aN (bh (fun e=>aF ?_) fun e=>aE ?_)⟩⟩
 ·have e:0<=qV mm.w.op ns:=e
  obtain⟨k,ek⟩:=Int.eq_ofNat_of_zero_le e
  have hr:=rD ns mm.w.op mm.w.op.length
  have dJ:k<mm.w.op.length:=by have:qV mm.w.op ns<(mm.w.op.length:Int):=hr.2;omega
  rw[if_pos e] at hk
  have en:zp mm.w ns=mm.w.op[k].2.2.1:=by unfold zp;rw[ek];show(mm.w.op.getD k aI).2.2.1=_;rw[aJ dJ]
  rw[en] at hk
  rw[ek]
  refine aa ⟨_,(C1.cY k2).V.cell 0 rfl,aa ⟨_,_,_,(vw.kb k2).cell 1 rfl,(o.kb k2).row.bn (i:=k) dJ rfl fun q hA=>⟨_,(hA.snd.dH (k:=2) rfl).fst.str.1,?_⟩⟩⟩
  exact EO (C1.cY k2) _ (C.s.A.yC _ (List.getElem_mem dJ)) fun h3 c3 C3 E3=>kr C3 (by omega) ((l1.kb k2).ext E3) (Q:=fun _ h=>K (.tuple ⟨[]⟩) h) fun h4 c4 C4 E4=>hk h4 c4 C4 ((al.kb (k1.trans k2)).trans (E3.trans E4))
 ·rw[if_neg e] at hk
  exact kr (C1.cY k2) (by omega) (l1.kb k2) (Q:=fun _ h=>K (.tuple ⟨[]⟩) h) fun h4 c4 C4 E4=>hk h4 c4 C4 ((al.kb (k1.trans k2)).trans E4)
end
end Go.Proofs
