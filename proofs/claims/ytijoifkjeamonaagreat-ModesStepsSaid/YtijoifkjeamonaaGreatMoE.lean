import Derived.Test.YtijoifkjeamonaaGreatHc
import Derived.Test.YtijoifkjeamonaaGreatMoB
import Derived.Test.YtijoifkjeamonaaGreatAaG
import Derived.Test.YtijoifkjeamonaaGreatTxJ
import Derived.Test.YtijoifkjeamonaaGreatDrB
import Derived.Test.YtijoifkjeamonaaGreatDrF
import Derived.Test.YtijoifkjeamonaaGreatTxI
namespace Go.Proofs
open Go Go.Sh
set_option linter.unusedVariables false
set_option maxRecDepth 100000
def RA (s:Nat):Prop:=RS s∨s=5
structure ot (h:H) (col:bY) (a:Addr) (y:aP):Prop where
 v:Var h a 77 (aW y)
 c:col a.block=some (5,0)
section
variable {Z:Nat->Prop} {h h':H} {K:KV} {col col':bY} {w x6 x7 bD:Addr} {m:WM} {f:Int} {bl y:aP} {u v x j b q:Nat}
theorem ot.ext (g:ot h col bD y) (e:al Z h col h' col') (hz:¬Z 5):ot h' col' bD y:=
 ⟨g.v.keep e.sk.w ⟨g.v.lt,fun s p hs e2=>by rw[g.c] at e2;cases e2;exact hz hs⟩,by rw[e.cl _ g.v.lt];exact g.c⟩
theorem ot.rs (g:ot h col bD y) (e:al RS h col h' col'):ot h' col' bD y:=g.ext e (by unfold RS;omega)
theorem ot.kb (g:ot h col bD y) (k:KB h h'):ot h' col bD y:=g.ext (Z:=fun _=>False) (.kb k) id
theorem al.ra (e:al RS h col h' col'):al RA h col h' col':=e.mono fun s hs=>.inl hs
theorem YB (g:ot h col bD y) (p:RW h col w m) {y2:aP} {Q:H->Prop} (hk:∀h',ot h' col bD y2->RW h' col w m->al RA h col h' col->Q h'):bc bD (aW y2) 0 h Q:=by
 refine aQ g.v (by show 4<=4;omega) fun h3 v3 k3 s3=>?_
 have E:al (fun s=>s=5) h col h3 col:=al.kx k3 g.c rfl
 exact hk h3 ⟨v3,g.c⟩ (p.ext E (by decide) (by decide) fun k hk=>p.fresh k (by omega)) (E.mono fun s hs=>.inr hs)
theorem mX {KE:yi.T5} {Kr:yi.T0} {R:WM × Int × Nat} {h0:H} {mi:bY} (v7:Var h0 x7 77 (aW bl)) (c7:mi x7.block=none)
  (hE:∀h' col' y,RW h' col' w R.1->ot h' col' bD y->y.1=R.2.1->al RA h0 mi h' col'->KE (some w) f x6 x7 (R.2.2:Nat) bD h'):∀(q n:Nat) {m:WM} {u v x b:Nat} {y:aP} {h:H} {col:bY},ot h col bD y->RW h col w m->CI m u v x f j b q->
   u+(3 - n)<=900000->v<=900000->n+q<=1000000->dN bl.1 f q n m y.1 b=R->al RA h0 mi h col->yi.uy KE KE Kr q (some w) f x6 x7 (b:Int) bD (q:Int) ((n+1:Nat):Int) h
 | 0,n,m,u,v,x,b,y,h,col,g,p,C,hu,hv,hn,hR,E0=>absurd C.hj (by omega)
 | q+1,n,m,u,v,x,b,y,h,col,g,p,C,hu,hv,hn,hR,E0=>by
  obtain⟨t,T,W⟩:=p.ex
  obtain⟨ob,oc,mb,mn,mc,vw,o,om⟩:=W.ex
  have hq:q<m.op.length:=by have:=C.hq;omega
  have jQ:=C.A.D.lo
  have qF:=C.A.D.ln
  have jR:=C.A.D.ml
  have hb:=C.hb
  have Fe:(((q+1:Nat):Int)) - (1:Int)=(q:Int):=by omega
  have Ey:(((n+1:Nat):Int))+(1:Int)=((n+1+1:Nat):Int):=by omega
  have eg:m.op.getD q aI=m.op[q]:=aJ hq
  unfold dN at hR
  simp only[] at hR
  rw[eg] at hR
  unfold yi.uy LP yi.zy
  refine⟨aF (by omega) (by omega),?_⟩
  dsimp only[aA]
  rw[Fe]
  refine aa ⟨_,_,_,vw.cell 1 rfl,o.row.bj (i:=q) hq rfl fun qa hA=>cT hA fun ow=>af fun ax h1 RZ k1 e1 s1=>aQ RZ (by show 4<=4;omega) fun h2 vx k2 s2=>?_⟩
  have gy:KB h h2:=KB.step k1 k2 (by omega)
  have cax:col ax.block=none:=p.fresh _ (by omega)
  have vx:Var h2 ax 77 (aW m.op[q]):=vx
  have p2:=p.kb gy
  have g2:=g.kb gy
  have zo:al RA h0 mi h2 col:=E0.trans (.kb gy)
  refine⟨_,vx.cell 0 rfl,bf (fun ef=>?_) fun ef=>?_⟩
  ·rw[if_pos ef] at hR
   subst hR
   exact hE h2 col y p2 g2 rfl zo
  rw[if_neg ef] at hR
  have TJ:(m.op.getD q aI).1≠f:=by rw[eg];exact ef
  have v2:=vw.kb gy
  refine aa ⟨_,_,_,v2.cell 2 rfl,_,vx.cell 0 rfl,gH (om.kb gy).row (aO ?_)⟩
  have CM:∀(m2:WM) (b2:Nat) h4 fL i,i<0->RW h4 fL w m2->ot h4 fL bD y->al RA h2 col h4 fL->CI m2 u v x f j b2 (q+1)->m2.op=m.op->dN bl.1 f q (n+1) (gr m2 m.op[q].1) y.1 b2=R->
    yi.n28 (some w) f x6 x7 (b2:Int) bD (q:Int) ((n+1:Nat):Int) ax i (fun z0 z1 z6 z7 z9 OR OU z12 h=>bd .i64 (z12+(1:Int))/\yi.uy KE KE Kr q z0 z1 z6 z7 z9 OR OU (z12+(1:Int)) h) (fun z0 z1 z6 z7 z9 OR OU z12 h=>bd .i64 (z12+(1:Int))/\yi.uy KE KE Kr q z0 z1 z6 z7 z9 OR OU (z12+(1:Int)) h) KE Kr h4:=fun m2 b2 h4 fL i hi p4 g4 E4 C2 ho YC=>by
   have vx4:Var h4 ax 77 (aW m.op[q]):=vx.keep E4.eR ⟨cax,vx.lt⟩
   have aek:=C2.A.D.lo
   have Xz:m2.op.getD q aI=m.op[q]:=by rw[ho];exact eg
   refine bK hi ⟨_,vx4.cell 0 rfl,iU p4 (by omega) C2.A.D.nd fun h5 rz p5 E5=>⟨aF (by omega) (by omega),?_⟩⟩
   have C3:=C2.uz (by rw[Xz];exact ef)
   rw[Xz] at C3
   rw[Ey]
   exact mX v7 c7 hE q (n+1) (g4.rs E5) p5 C3 (by omega) hv (by omega) YC ((zo.trans E4).trans E5.ra)
  by_cases hk:0<=bp m.aE m.op[q].1
  ·obtain⟨_,dJ,Xs⟩:=gj hk
   obtain⟨k,ek⟩:=Int.eq_ofNat_of_zero_le hk
   have wv:(bp m.aE m.op[q].1).toNat=k:=by rw[ek];rfl
   rw[wv] at dJ hR
   rw[ek]
   have AN:0<=bp m.aE (m.op.getD q aI).1:=by rw[eg];exact hk
   by_cases YD:n<3
   ·-- it is copied
    rw[if_pos ⟨hk,YD⟩] at hR
    refine bK (by omega) (cg (by omega) (aC (cg (by omega) ?_)))
    obtain⟨t3,T3,W3⟩:=p2.ex
    obtain⟨ob3,oc3,mb3,mn3,mc3,OQ,o3,Az⟩:=W3.ex
    refine aa ⟨_,OQ.cell 0 rfl,_,vx.cell 0 rfl,GS T3 W3 C.A.D.B (by omega) fun h4 fL T4 W4 E4=>aO ?_⟩
    obtain⟨A1,ec,hcl,_⟩:=C.A.copy (List.getElem_mem hq) (C.A.OO hq (C.pos TJ))
    obtain⟨c,hc⟩:∃c,(bg m.ns m.op[q].1).2=c:=⟨_,rfl⟩
    rw[hc] at ec hR ⊢
    have YE:bd .i64 c:=by rw[ec];exact aF (by omega) (by omega)
    have g4:=g2.rs E4
    have f4:bh h4 fL:=T4.fresh
    obtain⟨OS,OT,Th,Ks,Kt,yE,o4,Ti⟩:=W4.ex
    obtain⟨qo,rfl⟩:=sy o4.row hq
    obtain⟨qm,rfl⟩:=sy Ti.row dJ
    have ael:=Ti.len
    refine aa ⟨_,_,_,yE.cell 1 rfl,⟨by omega,by omega⟩,aa ?_⟩
    refine uA W4 f4 (yE.cell 1 rfl) (i:=q) hq YE fun h5 W5 E5 f5 KK=>?_
    have c5:cell h5 (w.add 2)=some (.slice (some qm) Ks Kt):=by
     have hw:h5[w.block]? =h4[w.block]? :=KK _ (by rw[W4.col];intro e;cases e)
     have:=yE.cell 2 (x:=.slice (some qm) Ks Kt) rfl
     unfold cell at this ⊢
     rw[br] at this ⊢
     rw[hw];exact this
    refine aa ⟨_,_,_,c5,⟨by omega,by omega⟩,aa ?_⟩
    rw[show Int.toNat (k:Int)=k from rfl]
    refine oZ W5 f5 c5 (i:=k) dJ YE fun h6 W6 E6 f6 c6=>?_
    have YF:al RS h4 fL h6 fL:=(E5.mono fun s hs=>.inr hs).trans (E6.mono fun s hs=>.inr hs)
    have T6:=(T4.cf (Z:=fun k=>k=3) (by decide) E5 f5).cf (Z:=fun k=>k=3) (by decide) E6 f6
    have g6:=g4.rs YF
    have Ax:al RA h0 mi h6 fL:=(zo.trans E4.ra).trans YF.ra
    have v76:Var h6 x7 77 (aW bl):=v7.keep Ax.eR ⟨c7,v7.lt⟩
    have tG:m.aE.getD k noMark=m.aE[k]:=aJ dJ
    have p6:RW h6 fL w {m with ns:=(bg m.ns m.op[q].1).1,op:=m.op.set q (c,m.op[q].2),aE:=m.aE.set k (c,m.aE[k].2)}:=⟨t3,T6,W6⟩
    obtain⟨_,_,_,_,_,Yk,_,_⟩:=W6.ex
    have KL:∀(b2:Nat),b2=(if y.1=bl.1 then k+1 else b)->
      yi.n33 (some w) f x6 x7 (b2:Int) bD (q:Int) ((n+1:Nat):Int) c (fun z0 z1 z6 z7 z9 OR OU z12 h=>bd .i64 (z12+(1:Int))/\yi.uy KE KE Kr q z0 z1 z6 z7 z9 OR OU (z12+(1:Int)) h) (fun z0 z1 z6 z7 z9 OR OU z12 h=>bd .i64 (z12+(1:Int))/\yi.uy KE KE Kr q z0 z1 z6 z7 z9 OR OU (z12+(1:Int)) h) KE Kr h6:=fun b2 AO=>by
     refine aa ⟨_,Yk.cell 0 rfl,_,g6.v.cell 0 rfl,EY T6 W6 A1.D.G fun h8 YG T8 W8 E8=>ag ?_⟩
     have C2:=C.copy TJ AN y.1 (b':=b2) (by rw[eg,wv,AO];split;exact .inl rfl;exact .inr rfl)
     simp only[eg,wv,hc,tG] at C2
     simp only[tG] at hR
     obtain⟨_,_,_,_,_,vw8,o8,_⟩:=W8.ex
     have hq8:q<(m.op.set q (c,m.op[q].2)).length:=by rw[List.length_set];exact hq
     have p8:RW h8 YG w {m with ns:=(cV (bg m.ns m.op[q].1).1 c (-1) y.1).1,op:=m.op.set q (c,m.op[q].2),aE:=m.aE.set k (c,m.aE[k].2)}:=⟨t3,T8,W8⟩
     refine aR (fun _=>?_) fun _=>?_
     all_goals
      refine aa ⟨_,_,_,vw8.cell 1 rfl,o8.row.bj (i:=q) hq8 rfl fun qa hA=>?_⟩
      rw[List.getElem_set_self] at hA
      refine cT hA fun ow=>YB (g6.rs E8) p8 (y2:=(c,m.op[q].2)) fun h9 g9 p9 E9=>⟨aF (by omega) (by omega),?_⟩
      rw[Ey]
      exact mX (Kr:=Kr) v7 c7 hE q (n+1) g9 p9 C2 (by omega) hv (by omega) (by rw[AO];exact hR) ((Ax.trans E8.ra).trans E9)
    refine⟨_,g6.v.cell 0 rfl,_,v76.cell 0 rfl,bf (fun el=>⟨aF (by omega) (by omega),KL (k+1) (by rw[if_pos el])⟩) fun el=>KL b (by rw[if_neg el])⟩
   ·-- it is no more
    rw[if_neg (fun h=>YD h.2),if_pos hk] at hR
    refine bK (by omega) (bK (by omega) (aD ?_))
    refine pK p2 dJ (by omega) fun h4 fL p4 E4=>?_
    have C2:=C.bX TJ AN
    rw[eg,wv] at C2
    have fin:=fun bb (Te:((ed b k:Nat):Int)=bb)=>Te▸CM (bX m k) (ed b k) h4 fL (-1) (by decide) p4 (g2.rs E4) E4.ra C2 rfl hR
    refine bf (fun cR=>⟨aF (by omega) (by omega),fin _ ?_⟩) fun Ew=>fin _ ?_
    ·unfold ed;rw[if_pos (by omega)];omega
    ·unfold ed;rw[if_neg (by omega)]
  ·rw[if_neg (fun h=>hk h.1),if_neg hk] at hR
   exact cg (by omega) (aC (CM m b h2 col _ (by omega) p2 g2 (.refl _ _ _) C rfl hR))
end
abbrev nk (w:Addr) (mm:MM):List Value:=[.pointer (some w),.int .u8 mm.mode,.int .u8 mm.back,.int .i64 mm.fm,.bool mm.skip,.int .u8 mm.read,S mm.nm,S []]
structure CG (Wp:H->bY->Addr->WM->Prop) (ty z:Nat) (h:H) (col:bY) (a w:Addr) (mm:MM) (u v x:Nat):Prop where
 V:Var h a ty (nk w mm)
 O:col a.block=some (z,0)
 p:Wp h col w mm.w
 f:bh h col
 L:kS h col
 s:MS mm.w u v x
def PX (s:Nat):Prop:=PA s∨s=6
def RX (s:Nat):Prop:=RA s∨s=7
abbrev CP:=CG PW 37 6
abbrev CR:=CG RW 52 7
theorem al.px {h h':H} {col col':bY} (e:al PA h col h' col'):al PX h col h' col':=e.mono fun s hs=>.inl hs
theorem al.rx {h h':H} {col col':bY} (e:al RA h col h' col'):al RX h col h' col':=e.mono fun s hs=>.inl hs
abbrev j8 (h:H) (col:bY) (a w:Addr) (K:KV) (mm:MM) (u v x:Nat):Prop:=∀h' c',CP h' c' a w mm u v x->al PX h col h' c'->K (.tuple ⟨[]⟩) h'
abbrev iW (h:H) (col:bY) (a w:Addr) (K:KV) (mm:MM) (u v x:Nat):Prop:=∀h' c',CR h' c' a w mm u v x->al RX h col h' c'->K (.tuple ⟨[]⟩) h'
section
variable {Z:Nat->Prop} {h h' h1:H} {col col' c1:bY} {a w:Addr} {mm:MM} {m1:WM} {u v x u1 v1 x1:Nat}
theorem CG.act {Wp:H->bY->Addr->WM->Prop} {ty z:Nat} (C:CG Wp ty z h col a w mm u v x) (p1:Wp h1 c1 w m1) (f1:bh h1 c1) (E:al Z h col h1 c1) (hz:¬Z z) (s1:MS m1 u1 v1 x1):CG Wp ty z h1 c1 a w {mm with w:=m1} u1 v1 x1:=
 ⟨C.V.keep E.sk.w ⟨C.V.lt,fun s p hs e2=>by rw[C.O] at e2;cases e2;exact hz hs⟩,by rw[E.cl _ C.V.lt];exact C.O,p1,f1,C.L.ext E,s1⟩
theorem CG.pa (C:CP h col a w mm u v x) (p1:PW h1 c1 w m1) (E:al PA h col h1 c1) (s1:MS m1 u1 v1 x1):CP h1 c1 a w {mm with w:=m1} u1 v1 x1:=C.act p1 p1.fresh E (by unfold PA PS;omega) s1
theorem CG.ra (C:CR h col a w mm u v x) (p1:RW h1 c1 w m1) (E:al RA h col h1 c1) (s1:MS m1 u1 v1 x1):CR h1 c1 a w {mm with w:=m1} u1 v1 x1:=C.act p1 p1.fresh E (by unfold RA RS;omega) s1
theorem CG.cU (C:CP h col a w mm u v x) (k:KB h h'):CP h' col a w mm u v x:=C.act (Z:=fun _=>False) (C.p.kb k) (C.f.kb k) (.kb k) id C.s
theorem CG.da (C:CR h col a w mm u v x) (k:KB h h'):CR h' col a w mm u v x:=C.act (Z:=fun _=>False) (C.p.kb k) (C.f.kb k) (.kb k) id C.s
theorem CG.mono {Wp:H->bY->Addr->WM->Prop} {ty z:Nat} (C:CG Wp ty z h col a w mm u v x) (h1:u<=u1):CG Wp ty z h col a w mm u1 v x:=⟨C.V,C.O,C.p,C.f,C.L,C.s.mono h1 (Nat.le_refl _) (Nat.le_refl _)⟩
theorem CG.nT {Wp:H->bY->Addr->WM->Prop} {ty z:Nat} (C:CG Wp ty z h col a w mm u v x) (h1:u<=u1) (h2:v<=v1) (h3:x<=x1):CG Wp ty z h col a w mm u1 v1 x1:=⟨C.V,C.O,C.p,C.f,C.L,C.s.mono h1 h2 h3⟩
theorem CG.rX {Wp:H->bY->Addr->WM->Prop} {ty z:Nat} (C:CG Wp ty z h col a w mm u v x) (h1:u<=u1) (h2:v<=v1):CG Wp ty z h col a w mm u1 v1 x:=C.nT h1 h2 (Nat.le_refl _)
theorem CG.st {Wp:H->bY->Addr->WM->Prop} {ty z:Nat} (C:CG Wp ty z h col a w mm u v x) (hW:∀h',al (fun s=>s=z) h col h' col->bh h' col->Wp h' col w mm.w) {i:Nat} {v1:Value} {mm2:MM} (e:jq (nk w mm) i [v1]=nk w mm2) (ew:mm2.w=mm.w) (hi:i<8) {Q:H->Prop}
  (hk:∀h',CG Wp ty z h' col a w mm2 u v x->al (fun s=>s=z) h col h' col->Q h'):bc (a.add i) [v1] 0 h Q:=by
 refine cv (m:=i) (i:=0) C.V (by show i+0+1<=8;omega) fun h3 v3 k3 s3=>?_
 have E:al (fun s=>s=z) h col h3 col:=al.kx k3 C.O rfl
 have f3:bh h3 col:=fun k hk=>C.f k (by omega)
 rw[Nat.add_zero,e] at v3
 exact hk h3 ⟨v3,C.O,by rw[ew];exact hW h3 E f3,f3,C.L.ext E,by rw[ew];exact C.s⟩ E
theorem CG.Fi (C:CP h col a w mm u v x) {i:Nat} {v1:Value} {mm2:MM} (e:jq (nk w mm) i [v1]=nk w mm2) (ew:mm2.w=mm.w) (hi:i<8) {Q:H->Prop}
  (hk:∀h',CP h' col a w mm2 u v x->al PX h col h' col->Q h'):bc (a.add i) [v1] 0 h Q:=
 C.st (fun h' E f=>C.p.ext E (by decide) (by decide) f) e ew hi fun h' C' E=>hk h' C' (E.mono fun s hs=>.inr hs)
theorem CG.H9 (C:CR h col a w mm u v x) {i:Nat} {v1:Value} {mm2:MM} (e:jq (nk w mm) i [v1]=nk w mm2) (ew:mm2.w=mm.w) (hi:i<8) {Q:H->Prop}
  (hk:∀h',CR h' col a w mm2 u v x->al RX h col h' col->Q h'):bc (a.add i) [v1] 0 h Q:=
 C.st (fun h' E f=>C.p.ext E (by decide) (by decide) f) e ew hi fun h' C' E=>hk h' C' (E.mono fun s hs=>.inr hs)
end
theorem zf:bd .u8 (0:Int):=⟨by decide,by decide⟩
@[reducible] def bR (x:cm) (b:OA) (n c:Nat):Tk:=⟨x.1,x.2.1,b,n,c,x.2.2.2.1,x.2.2.2.2⟩
structure fc (h:H) (col:bY) (t:cm) (b:OA) (n c:Nat):Prop where
 r:Row aY (bT col h) h b n c t.2.2.1
 z:b=none->c=0
 k:bd .u8 t.1
 s:qh t
structure LT (h:H) (col:bY) (a:Addr) (t:cm) (b:OA) (n c:Nat):Prop where
 V:Var h a 45 (aT (bR t b n c))
 O:col a.block=none
 T:fc h col t b n c
section
variable {Z:Nat->Prop} {h h':H} {col col':bY} {a:Addr} {t:cm} {b:OA} {n c:Nat}
theorem fc.ext (T:fc h col t b n c) (e:al Z h col h' col'):fc h' col' t b n c:=⟨e.row T.r,T.z,T.k,T.s⟩
theorem fc.kb (T:fc h col t b n c) (k:KB h h'):fc h' col t b n c:=T.ext (Z:=fun _=>False) (.kb k)
theorem LT.ext (l:LT h col a t b n c) (e:al Z h col h' col'):LT h' col' a t b n c:=⟨l.V.keep e.eR ⟨l.O,l.V.lt⟩,by rw[e.cl _ l.V.lt];exact l.O,l.T.ext e⟩
theorem LT.kb (l:LT h col a t b n c) (k:KB h h'):LT h' col a t b n c:=l.ext (Z:=fun _=>False) (.kb k)
theorem LT.ld (l:LT h col a t b n c) {K:Tk->Prop} (hk:K (bR t b n c)):bJ h a K:=⟨_,l.V.cell 0 rfl,_,l.V.cell 1 rfl,_,_,_,l.V.cell 2 rfl,_,l.V.cell 3 rfl,_,l.V.cell 4 rfl,hk⟩
theorem LT.nm (l:LT h col a t b n c):cell h (a.add 1)=some (S t.2.1):=l.V.cell 1 rfl
theorem fc.new (T:fc h col t b n c) (f:bh h col) {Q:Addr->H->Prop} (hk:∀a h',LT h' col a t b n c->KB h h'->h.size<=a.block->Q a h'):aw h ⟨aT (bR t b n c)⟩ 45 Q:=
 af fun a h1 v1 k1 e1 s1=>hk a h1 ⟨v1,f _ (by omega),T.kb k1⟩ k1 (by omega)
theorem fc.nil (h:H) (col:bY) {k:Int} (hk:bd .u8 k) {nm:Bs} (hn:nm.length<=4000):fc h col (se k nm) none 0 0:=⟨⟨rfl,Nat.le_refl _,Nat.zero_le _,fun i x hx=>by simp at hx⟩,fun _=>rfl,hk,⟨hn,(by decide:([]:List bw).length<=500),(fun a ha=>nomatch ha),(by decide:([]:Bs).length<=4000)⟩⟩
theorem fc.attrs (T:fc h col t b n c):rB t.2.2.1:=fun y hy=>by have:=(T.s.2.2.1 y hy).2;omega
theorem fc.mQ (T:fc h col t b n c):n<=1000000:=by have:=T.r.len;have:=T.s.2.1;omega
theorem eM {s:Bs} (hs:s.length<=4000) {Q:Addr->H->Prop} (hk:∀a h',Row cN (fun _=>True) h' (some a) 1 1 [s]->KB h h'->Q a h'):aw h #[S s] 9 Q:=
 af (cs:=[S s]) fun a h1 v1 k1 e1 s1=>hk a h1 (v1.wJ (E:=cN) (A:=fun _=>True) (x:=s) ⟨rfl,by simp only[maxLen];omega⟩ trivial) k1
theorem oL {ws:List Bs} {k:Nat} (hn:ws.length=k) (hs:tI ws=true) (hl:Nat.ble ws.length maxLen=true) {Q:Addr->H->Prop} (hk:∀a h',Row cN (fun _=>True) h' (some a) k k ws->KB h h'->Q a h'):aw h (sW ws) 9 Q:=
 af (cs:=ws.map S) fun a h1 v1 k1 e1 s1=>hk a h1 (hn▸(iM (ws:=ws) v1 hs hl)) k1
end
section
variable {h h2:H} {col cJ:bY} {s ty:Nat} {w t:Addr} {op TL:List aP} {mk mk':List aS} {fo:Bool} {hi:Int} {b b':OA} {n c n' c':Nat} {Q:H->Prop}
theorem CN (W:bq h col s ty w t op mk fo hi) (hc:cell h (w.add 2)=some (.slice b n c)) (g:dW h h2 b) (jr:∀k,k<h.size->cJ k=col k) (f2:bh h2 cJ) (o2:du aX h2 cJ (s,2) 79 b' n' c' mk')
  (hk:∀h3,bq h3 cJ s ty w t op mk' fo hi->al (fun k=>k=s) h col h3 cJ->bh h3 cJ->Q h3):bc (w.add 2) [.slice b' n' c'] 0 h2 Q:=by
 obtain⟨ob,oc,mb,mn,mc,v,o,om⟩:=W.ex
 have e1:some (Value.slice b n c)=some (.slice mb mn mc):=hc.symm.trans (v.cell 2 rfl)
 cases e1
 have YH:∀q,b=some q->q.block≠w.block:=fun q e e2=>by have:=om.col q e;rw[e2,W.col] at this;cases this
 have v2:=v.keep g.keep.w ⟨v.lt,fun q e=>YH q e⟩
 have zz:cJ w.block=some (s,0):=by rw[jr _ v.lt];exact W.col
 have oo:du bo h2 cJ (s,1) 77 ob op.length oc op:=o.keep g.keep.w jr fun k hk hc=>⟨hk,fun q e e2=>by
  have h5:=om.col q e
  rw[e2] at h5
  rcases hc with hc | hc
  ·rw[h5] at hc;cases hc
  ·rw[h5] at hc;cases hc⟩
 refine cv (m:=2) (i:=0) v2 (by show 2+0+1<=5;omega) fun h3 v3 k3 s3=>?_
 have bL:∀k,(cJ k=none∨∃p,p≠0/\cJ k=some (s,p))->k≠w.block:=fun k hc e=>by
  subst e
  rcases hc with hc | ⟨p,hp,hc⟩
  ·rw[zz] at hc;cases hc
  ·rw[zz] at hc;cases hc;exact hp rfl
 have o3:=oo.keep (h':=h3) (col':=cJ) k3.w (fun _ _=>rfl) fun k hk hc=>bL k (hc.imp id fun h=>⟨1,by decide,h⟩)
 have Az:=o2.keep (h':=h3) (col':=cJ) k3.w (fun _ _=>rfl) fun k hk hc=>bL k (hc.imp id fun h=>⟨2,by decide,h⟩)
 have E1:al (fun k=>k=s) h col h2 cJ:=⟨⟨g.size,fun k hk=>g.vM k hk.1 fun a ea e2=>hk.2 s 2 rfl (by rw[<-e2];exact om.col a ea)⟩,jr⟩
 exact hk h3 ⟨⟨ob,oc,b',n',c',v3,o3,Az⟩,zz,W.rh⟩ (E1.trans (al.kx k3 zz rfl)) fun k hk=>f2 k (by rw[<-s3];exact hk)
theorem Fo (W:bq h col s ty w t op mk fo hi) (hc:cell h (w.add 1)=some (.slice b n c)) (g:dW h h2 b) (jr:∀k,k<h.size->cJ k=col k) (f2:bh h2 cJ) (o2:du bo h2 cJ (s,1) 77 b' n' c' TL)
  (hk:∀h3,bq h3 cJ s ty w t TL mk fo hi->al (fun k=>k=s) h col h3 cJ->bh h3 cJ->Q h3):bc (w.add 1) [.slice b' n' c'] 0 h2 Q:=by
 obtain⟨ob,oc,mb,mn,mc,v,o,om⟩:=W.ex
 have e1:some (Value.slice b n c)=some (.slice ob op.length oc):=hc.symm.trans (v.cell 1 rfl)
 cases e1
 have YH:∀q,b=some q->q.block≠w.block:=fun q e e2=>by have:=o.col q e;rw[e2,W.col] at this;cases this
 have v2:=v.keep g.keep.w ⟨v.lt,fun q e=>YH q e⟩
 have zz:cJ w.block=some (s,0):=by rw[jr _ v.lt];exact W.col
 have oo:du aX h2 cJ (s,2) 79 mb mn mc mk:=om.keep g.keep.w jr fun k hk hc=>⟨hk,fun q e e2=>by
  have h5:=o.col q e
  rw[e2] at h5
  rcases hc with hc | hc
  ·rw[h5] at hc;cases hc
  ·rw[h5] at hc;cases hc⟩
 have hl:=o2.len
 subst hl
 refine cv (m:=1) (i:=0) v2 (by show 1+0+1<=5;omega) fun h3 v3 k3 s3=>?_
 have bL:∀k,(cJ k=none∨∃p,p≠0/\cJ k=some (s,p))->k≠w.block:=fun k hc e=>by
  subst e
  rcases hc with hc | ⟨p,hp,hc⟩
  ·rw[zz] at hc;cases hc
  ·rw[zz] at hc;cases hc;exact hp rfl
 have o3:=o2.keep (h':=h3) (col':=cJ) k3.w (fun _ _=>rfl) fun k hk hc=>bL k (hc.imp id fun h=>⟨1,by decide,h⟩)
 have Az:=oo.keep (h':=h3) (col':=cJ) k3.w (fun _ _=>rfl) fun k hk hc=>bL k (hc.imp id fun h=>⟨2,by decide,h⟩)
 have E1:al (fun k=>k=s) h col h2 cJ:=⟨⟨g.size,fun k hk=>g.vM k hk.1 fun a ea e2=>hk.2 s 1 rfl (by rw[<-e2];exact o.col a ea)⟩,jr⟩
 exact hk h3 ⟨⟨b',c',mb,mn,mc,v3,o3,Az⟩,zz,W.rh⟩ (E1.trans (al.kx k3 zz rfl)) fun k hk=>f2 k (by rw[<-s3];exact hk)
end
section
variable {Z:Nat->Prop} {h h':H} {K:KV} {col col':bY} {a w:Addr} {m:WM} {nm:Bs} {f:Int} {bl:aP} {u v x j b q:Nat}
theorem al.jA (E:al Z h col h' col') {y:aS} {ab:OA} {an ac:Nat} (hR:cI (bT col h) h y ab an ac):cI (bT col' h') h' y ab an ac:=by
 have hi:=hR.inv
 exact Go.Proofs.jA (E.row hi.1) hi.2.1 hi.2.2.1 hi.2.2.2
theorem Is (g:qn h col a w nm f bl (b:Nat)) (p:PW h col w m) (jR:m.aE.length<=900000) (hb:b<=m.aE.length) (hc:∃q c,cell h (w.add 2)=some (.slice q m.aE.length c)/\m.aE.length+1<=c) {y:aS} {x4:Addr} {yb:OA} {yn yc:Nat}
  (vx:Var h x4 79 [.int .i64 y.1,S y.2.1,.slice yb yn yc]) (hR:cI (bT col h) h y yb yn yc) {id:Int} {Kn:Oh.T0}
  (hk:∀h' col',PW h' col' w {m with aE:=cP m.aE b y}->al PS h col h' col'->Oh.n9 (some a) id Kn Kn h'):Oh.n8 (some a) id x4 Kn Kn h:=by
 obtain⟨t,cp,T,W⟩:=p.ex
 obtain⟨ob,oc,mb,mn,mc,vw,o,om⟩:=W.ex
 obtain⟨q,c,nX,hroom⟩:=hc
 have e1:some (Value.slice q m.aE.length c)=some (.slice mb mn mc):=nX.symm.trans (vw.cell 2 rfl)
 cases e1
 have ins:∀{Q:OA->Nat->Nat->H->Prop},(∀b' c' h2 cJ,du aX h2 cJ (2,2) 79 b' (m.aE.length+1) c' (cP m.aE b y)->dW h h2 mb->(∀k,k<h.size->cJ k=col k)->bh h2 cJ->Q b' (m.aE.length+1) c' h2)->
   aw h #[(.int .i64 y.1),(S y.2.1),(.slice yb yn yc)] 79 fun TM KM=>bG h KM/\(zC 240 [(.slice mb m.aE.length mc),(.int .i64 (b:Int)),(.slice (some TM) 1 1)] KM fun It AP=>aB It fun KN KO KP=>Q KN KO KP AP):=fun {Q} hQ=>by
  refine af fun a1 h1 v1 k1 e1 s1=>⟨k1.ext,?_⟩
  have E1:al (fun _=>False) h col h1 col:=.kb k1
  refine yK (om.kb k1) (p.fresh.kb k1) hb hroom (E1.jA hR) v1 (p.fresh _ (by omega)) (by omega) fun b' c' h2 cJ o2 g2 nj f2=>aH ?_
  refine hQ b' c' h2 cJ o2 ⟨Nat.le_trans k1.1 g2.size,fun k hk bL=>?_⟩ (fun k hk=>nj k (Nat.lt_of_lt_of_le hk k1.1)) f2
  exact(g2.vM k (Nat.lt_of_lt_of_le hk k1.1) bL).trans (k1.2 k hk)
 have fin:∀b' c' h2 cJ,du aX h2 cJ (2,2) 79 b' (m.aE.length+1) c' (cP m.aE b y)->dW h h2 mb->(∀k,k<h.size->cJ k=col k)->bh h2 cJ->bc (w.add 2) [.slice b' (m.aE.length+1) c'] 0 h2 fun h3=>Oh.n9 (some a) id Kn Kn h3:=fun b' c' h2 cJ o2 g2 nj f2=>
  CN W (vw.cell 2 rfl) g2 nj f2 o2 fun h3 W3 E3 f3=>hk h3 cJ ⟨t,cp,T.cf (S:=fun k=>k=2) (by decide) E3 f3,W3⟩ (E3.mono fun s hs=>.inr hs)
 have bL:∀q,mb=some q->q.block≠a.block:=fun q e e2=>by have:=om.col q e;rw[e2,g.c] at this;cases this
 refine⟨?_,?_⟩
 ·refine aa (aa ⟨_,g.v.cell 0 rfl,aa ⟨_,_,_,vw.cell 2 rfl,aa ⟨_,g.v.cell 7 rfl,_,vx.cell 0 rfl,_,vx.cell 1 rfl,_,_,_,vx.cell 2 rfl,ins fun b' c' h2 cJ o2 g2 nj f2=>?_⟩⟩⟩)
  have va2:=g.v.keep g2.keep.w ⟨g.v.lt,fun q e=>bL q e⟩
  exact⟨_,va2.cell 0 rfl,aa (fin b' c' h2 cJ o2 g2 nj f2)⟩
 ·exact aa ⟨_,g.v.cell 0 rfl,aa ⟨_,g.v.cell 0 rfl,aa ⟨_,_,_,vw.cell 2 rfl,aa ⟨_,g.v.cell 7 rfl,_,vx.cell 0 rfl,_,vx.cell 1 rfl,_,_,_,vx.cell 2 rfl,ins fun b' c' h2 cJ o2 g2 nj f2=>aa (fin b' c' h2 cJ o2 g2 nj f2)⟩⟩⟩⟩
theorem zA {h0:H} (g0:qn h0 col a w nm f bl (b:Nat)) (p0:PW h0 col w m) (eD:m.op.length<=900000) (hf:0<gh m.op f) {y:aP} (hy:gG y) {x5:Addr} (k0:KB h0 h) (vx:Var h x5 77 (aW y)) (hx5:h0.size<=x5.block) {id:Int} (hid:bd .i64 id) {Kn:Oh.T0}
  (hk:∀h' col',PW h' col' w {m with op:=cP (bt m.op f) ((gh (bt m.op f) bl.1)+1).toNat (id,y.2)}->al PS h0 col h' col'->Kn h'):Oh.rZ (some a) id x5 Kn Kn h:=by
 refine cv (m:=0) (i:=0) vx (by show 0+0+1<=4;omega) fun h1 RZ kx1 s1=>?_
 have k01:KB h0 h1:=KB.step k0 kx1 hx5
 have p1:=p0.kb k01
 have g1:=g0.kb k01
 have RZ:Var h1 x5 77 (aW (id,y.2)):=RZ
 have cx:col x5.block=none:=p0.fresh _ hx5
 have XA:gG (id,y.2):=⟨hid,hy.2⟩
 refine aa ⟨_,g1.v.cell 0 rfl,aa ⟨_,g1.v.cell 2 rfl,lq p1 (by omega) fun h2 cJ p2 E2 hcap=>?_⟩⟩
 obtain⟨qb,qc,nX,hroom⟩:=hcap hf
 have g2:=g1.ps E2
 have vx2:Var h2 x5 77 (aW (id,y.2)):=RZ.keep E2.eR ⟨cx,RZ.lt⟩
 have Xq:(bt m.op f).length<=m.op.length:=by
  unfold bt
  by_cases hq:0<cM m.op (fun x=>decide (x.1=f))
  ·rw[if_pos hq,List.length_eraseIdx];split <;> omega
  ·rw[if_neg hq];exact Nat.le_refl _
 obtain⟨t,cp,T,W⟩:=p2.ex
 obtain⟨ob,oc,mb,mn,mc,vw,o,om⟩:=W.ex
 have e1:some (Value.slice qb (bt m.op f).length qc)=some (.slice ob (bt m.op f).length oc):=nX.symm.trans (vw.cell 1 rfl)
 cases e1
 have wk:=ll (l:=bt m.op f) (p:=fun x=>decide (x.1=bl.1))
 obtain⟨i,hi⟩:∃i:Nat,gh (bt m.op f) bl.1+1=(i:Int):=⟨(gh (bt m.op f) bl.1+1).toNat,by
  have h1:=wk.2
  show cM (bt m.op f) (fun x=>decide (x.1=bl.1))+1=((cM (bt m.op f) (fun x=>decide (x.1=bl.1))+1).toNat:Int)
  omega⟩
 have hiw:gh (gr m f).op bl.1+1=(i:Int):=hi
 have bQ:i<=(bt m.op f).length:=by have:=wk.1;have h2:cM (bt m.op f) (fun x=>decide (x.1=bl.1))+1=(i:Int):=hi;omega
 have vL:(gh (bt m.op f) bl.1+1).toNat=i:=by rw[hi];rfl
 rw[vL] at hk
 have bL:∀q,qb=some q->q.block≠a.block:=fun q e e2=>by have:=o.col q e;rw[e2,g2.c] at this;cases this
 have fin:∀b' c' h3 col3,du bo h3 col3 (2,1) 77 b' ((bt m.op f).length+1) c' (cP (bt m.op f) i (id,y.2))->dW h2 h3 qb->(∀k,k<h2.size->col3 k=cJ k)->bh h3 col3->bc (w.add 1) [.slice b' ((bt m.op f).length+1) c'] 0 h3 fun h4=>Kn h4:=fun b' c' h3 col3 o3 g3 B5 f3=>
  Fo W (vw.cell 1 rfl) g3 B5 f3 o3 fun h4 W4 E4 f4=>hk h4 col3 ⟨t,cp,T.cf (S:=fun k=>k=2) (by decide) E4 f4,W4⟩ (((al.kb k01).trans E2).trans (E4.mono fun s hs=>.inr hs))
 have call:∀{Q:OA->Nat->Nat->H->Prop} {h5:H} {a22:Addr},KB h2 h5->Var h5 a22 77 (aW (id,y.2))->cJ a22.block=none->(∀b' c' h3 col3,du bo h3 col3 (2,1) 77 b' ((bt m.op f).length+1) c' (cP (bt m.op f) i (id,y.2))->dW h2 h3 qb->(∀k,k<h2.size->col3 k=cJ k)->bh h3 col3->Q b' ((bt m.op f).length+1) c' h3)->
   zC 241 [(.slice qb (bt m.op f).length qc),(.int .i64 (i:Int)),(.slice (some a22) 1 1)] h5 fun v24 iF=>aB v24 fun AQ AR AT=>Q AQ AR AT iF:=fun {Q h5 a22} k5 v5 c5 hQ=>
  yL (o.kb k5) (p2.fresh.kb k5) bQ hroom XA.r v5 c5 (by omega) fun b' c' h3 col3 o3 g3 B5 f3=>aH (hQ b' c' h3 col3 o3 ⟨Nat.le_trans k5.1 g3.size,fun k hk bL=>(g3.vM k (Nat.lt_of_lt_of_le hk k5.1) bL).trans (k5.2 k hk)⟩ (fun k hk=>B5 k (Nat.lt_of_lt_of_le hk k5.1)) f3)
 have va2:∀{h3:H} {col3:bY},dW h2 h3 qb->Var h3 a 168 (AU w nm f bl b):=fun g3=>g2.v.keep g3.keep.w ⟨g2.v.lt,fun q e=>bL q e⟩
 refine⟨⟨?_,?_⟩,?_,?_⟩
 ·refine aa (aa ⟨_,g2.v.cell 0 rfl,aa ⟨_,_,_,vw.cell 1 rfl,aa ⟨_,o0 g2.v 3 0 rfl,gY (m:=(id,y.2)) vx2 (gS g2 p2 fun h3 k3=>aO ⟨k3.ext,?_⟩)⟩⟩⟩)
  rw[hiw]
  exact⟨aF (by omega) (by omega),af fun a22 h4 v4 k4 e4 s4=>⟨k4.ext,call (k3.trans k4) v4 (p2.fresh _ (by have:=k3.1;omega)) fun b' c' h5 rz o5 g5 JG f5=>⟨_,(va2 (col3:=rz) g5).cell 0 rfl,aa (fin b' c' h5 rz o5 g5 JG f5)⟩⟩⟩
 ·refine aa (aa ⟨_,g2.v.cell 0 rfl,aa ⟨_,_,_,vw.cell 1 rfl,aa ⟨_,o0 g2.v 3 0 rfl,gY (m:=(id,y.2)) vx2 (af fun a22 h4 v4 k4 e4 s4=>⟨k4.ext,gS (g2.kb k4) (p2.kb k4) fun h3 k3=>aO ⟨k3.ext,?_⟩⟩)⟩⟩⟩)
  rw[hiw]
  exact⟨aF (by omega) (by omega),call (k4.trans k3) (v4.kb k3) (p2.fresh _ (by omega)) fun b' c' h5 rz o5 g5 JG f5=>⟨_,(va2 (col3:=rz) g5).cell 0 rfl,aa (fin b' c' h5 rz o5 g5 JG f5)⟩⟩
 ·refine aa ⟨_,g2.v.cell 0 rfl,aa ⟨_,g2.v.cell 0 rfl,aa ⟨_,_,_,vw.cell 1 rfl,aa ⟨_,o0 g2.v 3 0 rfl,gY (m:=(id,y.2)) vx2 (gS g2 p2 fun h3 k3=>aO ⟨k3.ext,?_⟩)⟩⟩⟩⟩
  rw[hiw]
  exact⟨aF (by omega) (by omega),af fun a22 h4 v4 k4 e4 s4=>⟨k4.ext,call (k3.trans k4) v4 (p2.fresh _ (by have:=k3.1;omega)) fun b' c' h5 rz o5 g5 JG f5=>aa (fin b' c' h5 rz o5 g5 JG f5)⟩⟩
 ·refine aa ⟨_,g2.v.cell 0 rfl,aa ⟨_,g2.v.cell 0 rfl,aa ⟨_,_,_,vw.cell 1 rfl,aa ⟨_,o0 g2.v 3 0 rfl,gY (m:=(id,y.2)) vx2 (af fun a22 h4 v4 k4 e4 s4=>⟨k4.ext,gS (g2.kb k4) (p2.kb k4) fun h3 k3=>aO ⟨k3.ext,?_⟩⟩)⟩⟩⟩⟩
  rw[hiw]
  exact⟨aF (by omega) (by omega),call (k4.trans k3) (v4.kb k3) (p2.fresh _ (by omega)) fun b' c' h5 rz o5 g5 JG f5=>aa (fin b' c' h5 rz o5 g5 JG f5)⟩
theorem CO (g:qn h col a w nm f bl (b:Nat)) (p:PW h col w m) (C:CI m u v x f j b q) (hu:u+1<=900000) (hv:v<=900000)
  (hk:∀h' col',PW h' col' w (mW m f bl.1 b)->qn h' col' a w nm f bl (ed b (bp m.aE f).toNat:Nat)->al PA h col h' col'->K (.tuple ⟨[]⟩) h'):
  zC 227 [.pointer (some a)] h K:=by
 obtain⟨t,cp,T,W⟩:=p.ex
 obtain⟨_,_,_,_,_,vw,_,_⟩:=W.ex
 have jQ:=C.A.D.lo
 have qF:=C.A.D.ln
 have jR:=C.A.D.ml
 have fU:j<m.op.length:=Nat.lt_of_lt_of_le C.hj C.hq
 have eg:m.op.getD j aI=m.op[j]:=aJ fU
 have tu:m.op[j].1=f:=by have:=C.hf;rwa[eg] at this
 have Yh:0<=f:=by rw[<-tu];exact(C.A.D.ids _ (List.getElem_mem fU)).1
 have wk:gh m.op f=(j:Int):=by rw[<-tu];exact C.A.tF fU
 refine Oh.ok _ _ _ (aa ⟨_,g.v.cell 0 rfl,aa ⟨_,vw.cell 0 rfl,aa ⟨_,g.v.cell 2 rfl,G3 T W (by omega) fun h1 c1 aen T1 W1 E1=>aO ?_⟩⟩⟩)
 obtain⟨A1,ec,hcl,_⟩:=C.A.copy (List.getElem_mem fU) (C.A.OO fU C.h0)
 rw[tu] at A1 ec hcl
 have ht1:∀{h':H} {col':bY} {ns':List ay},bq h' col' 2 42 w t m.op m.aE m.fo m.hi->cell h' (w.add 0)=some (.pointer (some t)):=fun W=>by obtain⟨_,_,_,_,_,v,_,_⟩:=W.ex;exact v.cell 0 rfl
 obtain⟨id,hid⟩:∃id,(bg m.ns f).2=id:=⟨_,rfl⟩
 rw[hid] at ec ⊢
 have Kl:bd .i64 id:=by rw[ec];exact aF (by omega) (by omega)
 have g1:=g.ps E1
 refine aa ⟨_,g1.v.cell 0 rfl,aa ⟨_,ht1 (ns':=[]) W1,aa ⟨_,o0 g1.v 3 0 rfl,O4 T1 W1 A1.D.G fun h2 c2 T2 W2 E2=>ag ?_⟩⟩⟩
 have A2:=A1.move bl.1 id
 have g2:=g1.ps E2
 refine dm (K:=fun _=>Oh.n3 (some a) id (fun h=>K (.tuple ⟨[]⟩) h) (fun h=>K (.tuple ⟨[]⟩) h) h2) ?_
 refine aa ⟨_,g2.v.cell 0 rfl,aa ⟨_,ht1 (ns':=[]) W2,aa ⟨_,o0 g2.v 3 0 rfl,Fp T2 W2 A2.D.G fun h3 c3 T3 W3 E3=>ag ?_⟩⟩⟩
 have g3:=g2.ps E3
 refine dm (K:=fun _=>Oh.n4 (some a) id (fun h=>K (.tuple ⟨[]⟩) h) (fun h=>K (.tuple ⟨[]⟩) h) h3) ?_
 have mT:=(E1.trans E2).trans E3
 have p3:PW h3 c3 w {m with ns:=(cV (dn (bg m.ns f).1 bl.1 id).1 bl.1 (-1) id).1}:=⟨t,aen,T3,W3⟩
 obtain⟨ob3,oc3,mb3,mn3,mc3,OQ,o3,Az⟩:=W3.ex
 have Td:0<=bp m.aE f:=(pJ Yh).2 C.hm
 obtain⟨_,dJ,_⟩:=gj Td
 obtain⟨k,ek⟩:=Int.eq_ofNat_of_zero_le Td
 have wv:(bp m.aE f).toNat=k:=by rw[ek];rfl
 rw[wv] at dJ
 have ae2:=Az.len
 refine aa ⟨_,g3.v.cell 0 rfl,aa ⟨_,_,_,OQ.cell 2 rfl,aa ⟨_,g3.v.cell 2 rfl,rC Az.row fun h4 k4=>aO ?_⟩⟩⟩
 rw[ek]
 obtain⟨xs,he,XB,_⟩:=(Az.kb k4).parts
 obtain⟨am,yb,yn,yc,eb,m0,m1,m2,mR⟩:=j5 he XB dJ
 subst eb
 have g4:=g3.kb k4
 refine aa ⟨_,g4.v.cell 0 rfl,aa ⟨_,_,_,(OQ.kb k4).cell 2 rfl,⟨by omega,by omega⟩,aa ?_⟩⟩
 rw[Int.toNat_natCast]
 refine⟨_,m0,_,m1,_,_,_,m2,af fun x4 h5 v5 k5 e5 s5=>aQ v5 (by show 3<=3;omega) fun h6 v6 k6 s6=>cv (m:=0) (i:=0) v6 (by show 0+0+1<=3;omega) fun h7 v7 k7 s7=>?_⟩
 have k47:KB h4 h7:=KB.step (KB.step k5 k6 (by omega)) k7 (by omega)
 have k37:=k4.trans k47
 have v7:Var h7 x4 79 [.int .i64 id,S m.aE[k].2.1,.slice yb yn yc]:=v7
 have cx4:c3 x4.block=none:=p3.fresh _ (by have:=k4.1;omega)
 have mR7:cI (bT c3 h7) h7 m.aE[k] yb yn yc:=(al.kb (S:=fun _=>False) k47).jA mR
 have mR7:cI (bT c3 h7) h7 (id,m.aE[k].2) yb yn yc:=by
  have hi:=mR7.inv
  exact Go.Proofs.jA (m:=(id,m.aE[k].2)) hi.1 hi.2.1 Kl hi.2.2.2
 refine jG (g3.kb k37) (p3.kb k37) rfl (by have:=C.hb;omega) dJ (by show m.aE.length<=_;omega) fun h8 c8 p8 g8 E8 hc8=>?_
 have Xt:(m.aE.eraseIdx k).length=m.aE.length - 1:=by rw[List.length_eraseIdx,if_pos dJ]
 obtain⟨q8,qc8,hc8,hr8⟩:=hc8
 have hr8:m.aE.length<=qc8:=hr8
 have hub:ed b k<=m.aE.length - 1:=by have:=C.hb;unfold ed;split <;> omega
 refine Is (y:=(id,m.aE[k].2)) g8 p8 (by show(m.aE.eraseIdx k).length<=_;omega) (by show ed b k<=(m.aE.eraseIdx k).length;omega) ⟨q8,qc8,by show cell h8 (w.add 2)=some (.slice q8 (m.aE.eraseIdx k).length qc8);rw[Xt];exact hc8,by show(m.aE.eraseIdx k).length+1<=qc8;omega⟩ (v7.keep E8.eR ⟨cx4,v7.lt⟩) (E8.jA mR7) fun h9 c9 p9 E9=>?_
 have g9:=g8.ps E9
 have E09:al PA h col h9 c9:=((mT.pa.trans (.kb k37)).trans E8).trans E9.pa
 have tG:m.aE.getD k noMark=m.aE[k]:=aJ dJ
 have ke:∀h' col',PW h' col' w {m with ns:=(cV (dn (bg m.ns f).1 bl.1 id).1 bl.1 (-1) id).1,aE:=cP (m.aE.eraseIdx k) (ed b k) (id,m.aE[k].2),op:=cP (bt m.op f) ((gh (bt m.op f) bl.1)+1).toNat (id,m.op[j].2)}->al PS h9 c9 h' col'->K (.tuple ⟨[]⟩) h':=fun h' col' p' E'=>hk h' col' (by
  unfold mW
  simp only[hid,wv,tG,wk,Int.toNat_natCast,eg]
  exact p') (by rw[wv];exact g9.ps E') (E09.trans E'.pa)
 obtain⟨t9,YI,T9,W9⟩:=p9.ex
 obtain⟨ob9,oc9,mb9,mn9,mc9,vw9,o9,om9⟩:=W9.ex
 have G5:gG m.op[j]:=W9.YJ _ (List.getElem_mem fU)
 refine⟨?_,?_⟩
 ·refine aa ⟨_,g9.v.cell 0 rfl,aa ⟨_,_,_,vw9.cell 1 rfl,aa ⟨_,g9.v.cell 2 rfl,gS g9 p9 fun df wK=>aO ⟨wK.ext,?_⟩⟩⟩⟩
  dsimp only[bX]
  rw[wk]
  refine(o9.kb wK).row.bj (i:=j) fU rfl fun qa hA=>cT hA fun ow=>af fun x5 eG v11 R5 e11 ve=>⟨R5.ext,aQ v11 (by show 4<=4;omega) fun eL v12 tK jU=>?_⟩
  have TN:KB h9 eL:=KB.step (wK.trans R5) tK (by have:=wK.1;omega)
  exact zA (y:=m.op[j]) g9 p9 (by show m.op.length<=_;omega) (by show 0<gh m.op f;rw[wk];have:=C.h0;omega) G5 TN v12 (by have:=wK.1;omega) Kl ke
 ·refine aa ⟨_,g9.v.cell 0 rfl,aa ⟨_,_,_,vw9.cell 1 rfl,aa ⟨_,g9.v.cell 2 rfl,af fun x5 eG v11 R5 e11 ve=>⟨R5.ext,gS (g9.kb R5) (p9.kb R5) fun df wK=>aO ⟨wK.ext,?_⟩⟩⟩⟩⟩
  dsimp only[bX]
  rw[wk]
  refine((o9.kb R5).kb wK).row.bj (i:=j) fU rfl fun qa hA=>cT hA fun ow=>aQ (v11.kb wK) (by show 4<=4;omega) fun eL v12 tK jU=>?_
  have TN:KB h9 eL:=KB.step (R5.trans wK) tK (by omega)
  exact zA (y:=m.op[j]) g9 p9 (by show m.op.length<=_;omega) (by show 0<gh m.op f;rw[wk];have:=C.h0;omega) G5 TN v12 (by omega) Kl ke
end
section
variable {h h':H} {K:KV} {col col':bY} {a w:Addr} {m:WM} {nm:Bs} {f bk:Int} {bl:aP} {u v x:Nat}
theorem AI.names (A:AI m u v x):∀y ∈ m.op,y.2.2.1.length<=1000000000:=fun y hy=>by have:=A.yD y hy;omega
theorem CQ (L:kS h col) (g:qn h col a w nm f bl bk) (p:PW h col w m) (A:AI m u v x) (hu:u+4<=900000) (hv:v<=900000) {k:Nat} (dJ:k<m.aE.length) (h0:0<=(m.aE.getD k noMark).1)
  (hk:∀h' col' f' bl' bk',PW h' col' w (jl m k).1->qn h' col' a w nm f' bl' bk'->al PA h col h' col'->K (.bool (jl m k).2) h'):
  zC 202 [.pointer (some a),.int .i64 (k:Int)] h K:=by
 have jQ:=A.D.lo
 have qF:=A.D.ln
 have jR:=A.D.ml
 obtain⟨t,cp,T,W⟩:=p.ex
 obtain⟨ob,oc,mb,mn,mc,vw,o,om⟩:=W.ex
 have hmn:=om.len
 have tG:m.aE.getD k noMark=m.aE[k]:=aJ dJ
 obtain⟨xs,he,XB,_⟩:=om.parts
 obtain⟨am,yb,yn,yc,eb,m0,m1,m2,mR⟩:=j5 he XB dJ
 subst eb
 obtain⟨F,hF⟩:∃F,(m.aE.getD k noMark).1=F:=⟨_,rfl⟩
 have hFk:m.aE[k].1=F:=by rw[<-tG];exact hF
 rw[hFk] at m0
 refine Xag.ok _ _ _ _ (aa ⟨_,g.v.cell 0 rfl,aa ⟨_,_,_,vw.cell 2 rfl,⟨by omega,by omega⟩,aa ?_⟩⟩)
 rw[Int.toNat_natCast]
 refine⟨_,m0,aa (KQ g p (i:=2) (by show 2+1<=8;omega) fun h1 v1 c1 p1 E1 _=>aa ?_)⟩
 have g1:qn h1 col a w nm F bl bk:=⟨v1,c1⟩
 refine KQ g1 p1 (i:=7) (by show 7+1<=8;omega) fun h2 v2 c2 p2 E2 _=>aa ?_
 have g2:qn h2 col a w nm F bl (k:Nat):=⟨v2,c2⟩
 have zo:=E1.trans E2
 refine⟨_,g2.v.cell 2 rfl,gS g2 p2 fun h3 k3=>aO ?_⟩
 have p3:=p2.kb k3
 have g3:=g2.kb k3
 have mT:=zo.trans (.kb k3)
 unfold jl at hk
 simp only[] at hk
 rw[hF] at hk h0
 refine bf (fun eI=>?_) fun eI=>?_
 ·rw[if_pos eI] at hk
  exact jG g3 p3 rfl (by omega) dJ (by omega) fun h4 c4 p4 g4 E4 _=>hk h4 c4 _ _ _ p4 g4 (mT.trans E4)
 rw[if_neg eI] at hk
 obtain⟨i,ei⟩:=Int.eq_ofNat_of_zero_le (by omega:0<=gh m.op F)
 have Tg:(gh m.op F).toNat=i:=by rw[ei];rfl
 rw[Tg] at hk
 rw[ei]
 have bQ:i<m.op.length:=by have:=(ll (l:=m.op) (p:=fun x=>decide (x.1=F))).1;have h2:(cM m.op fun x=>decide (x.1=F))=(i:Int):=ei;omega
 refine AV (L.ext mT) g3 p3 (by omega) A.names bQ fun h4 k4=>ag (aR (fun hs=>?_) fun hs=>?_)
 rotate_left
 ·rw[hs,if_pos rfl] at hk
  exact hk h4 col _ _ _ (p3.kb k4) (g3.kb k4) (mT.trans (.kb k4))
 rw[hs,if_neg (by simp)] at hk
 have p4:=p3.kb k4
 have g4:=g3.kb k4
 have Km:=mT.trans (.kb k4)
 obtain⟨t4,su,T4,W4⟩:=p4.ex
 obtain⟨OS,OT,Th,Ks,Kt,yE,o4,Ti⟩:=W4.ex
 have hcap:=o4.cap
 have ry:=hcap.2
 simp only[maxLen] at ry
 have e1:((i:Int)+(1:Int))=((i+1:Nat):Int):=rfl
 refine aa ⟨_,g4.v.cell 0 rfl,aa ⟨_,_,_,yE.cell 1 rfl,aF (by omega) (by omega),⟨by omega,by omega,by omega⟩,?_⟩⟩
 rw[e1]
 have r0:Row bo (rS h4.size) h4 (if OT=i+1 then OS else Option.map (fun q=>q.add ((i+1)*4)) OS) (m.op.length - (i+1)) (OT - (i+1)) ((m.op.take m.op.length).drop (i+1)):=o4.row.sub (lo:=i+1) (hi:=m.op.length) (by omega) (Nat.le_refl _) rfl
 rw[List.take_length] at r0
 refine dI (p:=fi) r0 (fun y h5 next hy k5 hR hn=>?_) fun h5 k5=>aO ?_
 ·have e:fQ Tryz.prog 4 (.func (.func 225) ⟨[]⟩ ⟨[]⟩) ⟨[.agg ⟨[.int .i64 y.1,.int .u8 y.2.1,S y.2.2.1,.int .u8 y.2.2.2]⟩]⟩ h5 next=
    zC 225 [.agg ⟨[.int .i64 y.1,.int .u8 y.2.1,S y.2.2.1,.int .u8 y.2.2.2]⟩] h5 fun v h'=>au v fun b=>cond b (next (.bool true) h') (next (.bool false) h'):=by kernel_rfl
  rw[e]
  have hym:y ∈ m.op:=List.mem_of_mem_drop hy
  refine Xah.ok _ _ _ _ _ _ (af fun a8 h8 v8 k8 e8 _=>⟨_,v8.cell 1 rfl,_,v8.cell 2 rfl,fJ ((L.ext (Km.trans (.kb k5))).ml.kb k8) (by have:=A.names y hym;omega) (ag ?_)⟩)
  have:=hn h8 k8
  exact aR (fun eb=>by have eb:fi y=true:=eb;rw[eb] at this;exact this) fun eb=>by have eb:fi y=false:=eb;rw[eb] at this;exact this
 have p5:=p4.kb k5
 have g5:=g4.kb k5
 have Ko:=Km.trans (.kb k5)
 have B4:=yE.kb k5
 refine bf (fun RQ=>?_) fun RQ=>?_
 ·rw[if_pos RQ] at hk
  refine aa ⟨_,g5.v.cell 0 rfl,np p5 fun h6 c6 p6 E6=>?_⟩
  have Ku:(cZ m (i:Int)).aE=m.aE:=rfl
  exact jG (g5.ps E6) p6 rfl (by omega) (by rw[Ku];exact dJ) (by rw[Ku];omega) fun h7 c7 p7 g7 E7 _=>hk h7 c7 _ _ _ p7 g7 ((Ko.trans E6.pa).trans E7)
 rw[if_neg RQ] at hk
 obtain⟨fU,hjs,_⟩:=fy (l:=m.op.drop (i+1)) (p:=fi) (by omega)
 rw[List.length_drop] at fU
 obtain⟨j,ej⟩:=Int.eq_ofNat_of_zero_le (by omega:0<=cM (m.op.drop (i+1)) fi)
 have ejn:(cM (m.op.drop (i+1)) fi).toNat=j:=by rw[ej];rfl
 rw[ejn] at fU hk
 rw[ej]
 have e2:((j:Int)+((i:Int)+(1:Int)))=((j+(i+1):Nat):Int):=rfl
 obtain⟨n,hn⟩:∃n,j+(i+1)=n:=⟨_,rfl⟩
 have Ew:n<m.op.length:=by omega
 have vL:i<n:=by omega
 have C:CI m u v x F i k n:=by
  have:=A.begin (n:=n) dJ (by rw[hF];exact h0) (by rw[hF];omega) (by rw[hF,Tg];exact vL) (by omega)
  rw[hF,Tg] at this
  exact this
 rw[hn] at hk
 refine⟨aF (by omega) (by omega),?_⟩
 rw[e2,hn]
 have yG:=C.h0
 refine⟨aF (by omega) (by omega),aa ⟨_,g5.v.cell 0 rfl,aa ⟨_,_,_,B4.cell 1 rfl,(o4.kb k5).row.bj (i:=n) Ew rfl fun qa hA=>cT hA fun ow=>aa ?_⟩⟩⟩
 refine KQ g5 p5 (i:=3) (by show 3+4<=8;omega) fun h6 v6 c6 p6 E6 _=>?_
 have g6:qn h6 col a w nm F m.op[n] (k:Nat):=⟨v6,c6⟩
 have Ax:=Ko.trans E6
 obtain⟨t6,ads6,T6,W6⟩:=p6.ex
 obtain⟨ob6,oc6,mb6,mn6,mc6,Yk,o6,om6⟩:=W6.ex
 have e3:((i:Int) - (1:Int))=((i - 1:Nat):Int):=by omega
 refine aa ⟨_,g6.v.cell 0 rfl,aa ⟨_,_,_,Yk.cell 1 rfl,aF (by omega) (by omega),?_⟩⟩
 rw[e3]
 have Ay:i - 1<m.op.length:=by omega
 refine o6.row.bj (i:=i - 1) Ay rfl fun qa hA=>cT hA fun ow2=>af fun x21 h7 v7 k7 e7 s7=>aQ v7 (by show 4<=4;omega) fun h8 v8 k8 s8=>?_
 have k68:KB h6 h8:=KB.step k7 k8 (by omega)
 have v8:Var h8 x21 77 (aW m.op[i - 1]):=v8
 have cx:col x21.block=none:=p6.fresh _ (by omega)
 refine CS (L.ext (Ax.trans (.kb k68))) (g6.kb k68) (p6.kb k68) C (by omega) hv fun h9 c9 p9 g9 E9=>aO ?_
 have C9:=iL m.op[n].1 n 0 m.op[n].1 C
 have egn:m.op.getD n aI=m.op[n]:=aJ Ew
 have egi:m.op.getD (i - 1) aI=m.op[i - 1]:=aJ Ay
 unfold ur at hk
 simp only[egn,egi] at hk
 obtain⟨R,hR⟩:∃R,dN m.op[n].1 F n 0 m m.op[n].1 k=R:=⟨_,rfl⟩
 rw[hR] at C9 p9 g9 ⊢
 rw[hR] at hk
 have v9:=v8.keep E9.eR ⟨cx,v8.lt⟩
 have E09:=(Ax.trans (.kb k68)).trans E9
 obtain⟨t9,YI,T9,W9⟩:=p9.ex
 have hlo9:=C9.A.D.lo
 have hln9:=C9.A.D.ln
 refine aa ⟨_,g9.v.cell 0 rfl,gY (m:=m.op[i - 1]) v9 (lr (x:=m.op[i - 1]) T9 W9 (by omega) fun df wK=>lk ?_)⟩
 have g10:=g9.kb wK
 have W10:=W9.kb wK
 have R6:=T9.kb wK
 obtain⟨_,_,_,_,_,aes,_,_⟩:=W10.ex
 refine aa ⟨_,g10.v.cell 0 rfl,aa ⟨_,aes.cell 0 rfl,Fp R6 W10 C9.A.D.G fun eG c11 T11 W11 E11=>ag ?_⟩⟩
 have g11:=g10.ps E11
 have aet:=(E09.trans (.kb wK)).trans E11.pa
 have C11:=C9.put (cy R.1.ns R.1.op R.1.fo m.op[i - 1]).1 (cy R.1.ns R.1.op R.1.fo m.op[i - 1]).2 R.2.1
 have Fq:PW eG c11 w {R.1 with ns:=(cV R.1.ns (cy R.1.ns R.1.op R.1.fo m.op[i - 1]).1 (cy R.1.ns R.1.op R.1.fo m.op[i - 1]).2 R.2.1).1}:=⟨t9,YI,T11,W11⟩
 refine dm (K:=fun _=>zC 227 [.pointer (some a)] eG fun v49 YK=>K (.bool true) YK) ?_
 exact CO g11 Fq C11 (by omega) hv fun eL c12 p12 g12 E12=>hk eL c12 _ _ _ p12 g12 (aet.trans E12)
end
section
variable {h h':H} {K:KV} {col col':bY} {a w:Addr} {m:WM} {nm:Bs} {f bk:Int} {bl:aP} {u v x:Nat}
theorem CT {KE:Oi.T3} {Kr:Oi.T0} {R:WM × Bool} {h0:H} {mi:bY} (L:kS h0 mi) (hE:∀h' col',PW h' col' w R.1->al PA h0 mi h' col'->R.2=true->KE h')
  (hF:∀h' col',PW h' col' w R.1->al PA h0 mi h' col'->R.2=false->Kr false h'):∀(r i:Nat) {m:WM} {u:Nat} {h:H} {col:bY} {f:Int} {bl:aP} {bk:Int},qn h col a w nm f bl bk->PW h col w m->AI m u v x->
   u+4*r<=900000->v<=900000->r+i=8->eS nm r m=R->al PA h0 mi h col->Oi.gz KE KE Kr (r+1) (some w) nm (some a) (i:Int) h
 | 0,i,m,u,h,col,f,bl,bk,g,p,A,hu,hv,hi,hR,E0=>by
  unfold Oi.gz LP Oi.iq
  refine cg (by omega) (aC ?_)
  subst hR
  exact hE h col p E0 rfl
 | r+1,i,m,u,h,col,f,bl,bk,g,p,A,hu,hv,hi,hR,E0=>by
  unfold Oi.gz LP Oi.iq
  refine bK (by omega) (aD ?_)
  obtain⟨t,cp,T,W⟩:=p.ex
  obtain⟨ob,oc,mb,mn,mc,vw,o,om⟩:=W.ex
  have jQ:=A.D.lo
  have jR:=A.D.ml
  unfold eS at hR
  refine aa ⟨_,_,_,vw.cell 2 rfl,wE (fun k hk=>hk) om.row fun h1 k1=>aO ?_⟩
  have E1:=E0.trans (.kb k1)
  refine bf (fun hn=>?_) fun hn=>?_
  ·rw[if_pos hn] at hR
   subst hR
   exact hF h1 col (p.kb k1) E1 rfl
  rw[if_neg hn] at hR
  obtain⟨k,ek,hk,Ij⟩:=mq (by omega:0<=fA m.aE nm)
  have wv:(fA m.aE nm).toNat=k:=by rw[ek];rfl
  rw[wv] at hR
  rw[ek]
  refine CQ (L.ext E1) (g.kb k1) (p.kb k1) A (by omega) hv hk Ij fun h2 c2 f2 bl2 bk2 p2 g2 E2=>ag ?_
  have A2:=A.round hk Ij
  have zo:=E1.trans E2
  refine aR (fun hb=>?_) fun hb=>?_
  ·rw[hb,if_pos rfl] at hR
   refine⟨aF (by omega) (by omega),?_⟩
   have e1:((i:Int)+(1:Int))=((i+1:Nat):Int):=rfl
   rw[e1]
   exact CT L hE hF r (i+1) g2 p2 A2 (by omega) hv (by omega) hR zo
  ·rw[hb,if_neg (by simp)] at hR
   subst hR
   exact hE h2 c2 p2 zo rfl
theorem Iu (L:kS h col) (p:PW h col w m) (A:AI m u v x) (hu:u+32<=900000) (hv:v<=900000) (hk:∀h' col',PW h' col' w (runM m nm).1->al PA h col h' col'->K (.bool (runM m nm).2) h'):
  zC 160 [.pointer (some w),S nm] h K:=by
 obtain⟨t,cp,T,W⟩:=p.ex
 have jQ:=A.D.lo
 have qF:=A.D.ln
 have jR:=A.D.ml
 obtain⟨R,hR⟩:∃R,runM m nm=R:=⟨_,rfl⟩
 rw[hR] at hk
 refine Oi.ok _ _ _ _ (eN W A.D.ne (by omega) fun h1 k1=>jm (x:=dP m.op) <| af fun a2 h2 v2 k2 e2 s2=>aQ v2 (by show 4<=4;omega) fun h3 v3 k3 s3=>?_)
 have rq:KB h h3:=k1.trans (KB.step k2 k3 (by omega))
 have p3:=p.kb rq
 have v3:Var h3 a2 77 (aW (dP m.op)):=v3
 have rest:∀h4,KB h h4->eS nm 8 m=R->Oi.n3 (some w) nm (fun y h=>K (.bool y) h) (fun y h=>K (.bool y) h) h4:=fun h4 k4 hr=>by
  refine af fun a9 h9 v9 k9 e9 s9=>?_
  have k09:=k4.trans k9
  have ib:h.size<=a9.block:=by have:=k4.1;omega
  have E9:al PA h col h9 (cr col a9.block (4,0)):=⟨k09.less fun k hk=>hk.1,fun k hk=>dG (by omega)⟩
  have f9:bh h9 (cr col a9.block (4,0)):=(p.fresh.kb k09).cr v9.lt
  have p9:PW h9 (cr col a9.block (4,0)) w m:=p.ext (Z:=fun _=>False) ⟨k09.less fun k hk=>hk.1,fun k hk=>dG (by omega)⟩ id id f9
  have g9:qn h9 (cr col a9.block (4,0)) a9 w nm 0 (0,0,[],0) 0:=⟨v9,fX⟩
  refine⟨9,?_⟩
  exact CT L (fun h' c' p' E' e=>by have:=hk h' c' p' E';rw[e] at this;exact this) (fun h' c' p' E' e=>by have:=hk h' c' p' E';rw[e] at this;exact this) 8 0 g9 p9 A (by omega) hv rfl hr E9
 obtain⟨ob,oc,mb,mn,mc,vw,o,om⟩:=(W.kb rq).ex
 unfold runM at hR
 have no:(uv (dP m.op) nm=true->0<=bp m.aE (dP m.op).1)->eS nm 8 m=R:=fun hc=>by
  rw[if_neg (fun⟨h1,h2⟩=>by have:=hc h1;omega)] at hR
  exact hR
 have nn:¬(uv (dP m.op) nm=true)->eS nm 8 m=R:=fun hc=>no fun h=>absurd h hc
 refine⟨_,v3.cell 1 rfl,bf (fun e1=>⟨_,v3.cell 2 rfl,bf (fun e2=>aa ⟨_,_,_,vw.cell 2 rfl,_,v3.cell 0 rfl,rC om.row fun h4 k4=>aO (bf (fun e3=>?_) fun e3=>aC ?_)⟩) fun e2=>aC ?_⟩) fun e1=>aC ?_⟩
 ·have hi:uv (dP m.op) nm=true:=by unfold uv;rw[decide_eq_true e1,decide_eq_true e2];rfl
  rw[if_pos ⟨hi,e3⟩] at hR
  have jH:=rq.trans k4
  have e5:((m.op.length:Int) - (1:Int))=(m.op.length:Int) - 1:=rfl
  refine aD (aa ⟨_,_,_,(vw.kb k4).cell 1 rfl,aF (by omega) (by omega),?_⟩)
  subst hR
  exact np (p.kb jH) fun h5 c5 p5 E5=>hk h5 c5 p5 ((al.kb jH).trans E5.pa)
 ·exact rest h4 (rq.trans k4) (no fun _=>by omega)
 ·exact rest h3 rq (nn fun h=>e2 (by unfold uv at h;simp only[Bool.and_eq_true,decide_eq_true_eq] at h;exact h.2))
 ·exact rest h3 rq (nn fun h=>e1 (by unfold uv at h;simp only[Bool.and_eq_true,decide_eq_true_eq] at h;exact h.1))
end
section
variable {B:Nat->Prop} {h:H} {K:KV} {col:bY} {a w:Addr} {mm:MM} {u v x:Nat} {t:cm} {b:OA} {n c:Nat} {ns:List Bs} {s:Bs}
theorem CG.Xw {Wp:H->bY->Addr->WM->Prop} {ty z:Nat} (C:CG Wp ty z h col a w mm u v x):∀y ∈ mm.w.op,y.2.2.1.length<=9000000000000000000:=fun y hy=>by have:=C.s.A.yD y hy;omega
theorem AF (C:CP h col a w mm u v x) (rn:Row cN B h b n c ns) (sc:Int) (hk:∀h',KB h h'->K (.bool (kQ mm.w.op sc ns)) h'):zC 149 [.pointer (some a),.int .u8 sc,.slice b n c] h K:=by
 obtain⟨t,cp,T,W⟩:=C.p.ex
 obtain⟨ob,oc,mb,mn,mc,vw,o,om⟩:=W.ex
 exact Xb3.ok _ _ _ _ _ _ _ (aa ⟨_,C.V.cell 0 rfl,aa ⟨_,_,_,vw.cell 1 rfl,nh C.L.ml (fun k hk=>hk) o.row C.Xw rn fun h1 k1=>ag (dm (K:=fun b=>K (.bool b) h1) (hk h1 k1))⟩⟩)
theorem ga (C:CP h col a w mm u v x) (hu:u<=890000) (T:fc h col t b n c) (hk:j8 h col a w K {mm with w:=fe mm.w t} (u+1) v x):zC 143 [.pointer (some a),.agg ⟨aT (bR t b n c)⟩] h K:=by
 have jQ:=C.s.A.D.lo
 have qF:=C.s.A.D.ln
 have hn:=T.s.1
 refine Xb4.ok _ _ _ _ (T.new C.f fun a1 h1 l1 k1 _=>aa ⟨_,(C.cU k1).V.cell 0 rfl,l1.ld (sr (C.L.kb k1) (C.p.kb k1) C.s.A.D.G C.s.A.D.ne (by omega) (by omega) l1.T.r T.z T.mQ T.attrs zf T.k (by show t.2.1.length<=_;omega) fun h2 c2 p2 E2=>aO ?_)⟩)
 exact hk h2 c2 ((C.cU k1).pa p2 E2.pa (C.s.ins T.s)) ((al.kb k1).trans E2.pa.px)
theorem AW (C:CP h col a w mm u v x) (i:Int) (hk:j8 h col a w K {mm with w:=cZ mm.w i} u v x):zC 57 [.pointer (some w),.int .i64 i] h K:=
 np C.p fun h2 c2 p2 E2=>hk h2 c2 (C.pa p2 E2.pa (C.s.close i)) E2.pa.px
theorem Cz (C:CP h col a w mm u v x) (hu:u<=890000) (hk:j8 h col a w K {mm with w:=sh mm.w} u v x):zC 37 [.pointer (some a)] h K:=by
 obtain⟨t,cp,T,W⟩:=C.p.ex
 obtain⟨ob,oc,mb,mn,mc,vw,o,om⟩:=W.ex
 have jQ:=C.s.A.D.lo
 exact Xcg.ok _ _ _ (aa ⟨_,C.V.cell 0 rfl,aa ⟨_,C.V.cell 0 rfl,aa ⟨_,_,_,vw.cell 1 rfl,aF (by omega) (by omega),AW C _ hk⟩⟩⟩)
theorem AJ (C:CP h col a w mm u v x) (hu:u<=880000) (T:fc h col t b n c) (hk:j8 h col a w K {mm with w:=jk mm.w t} (u+1) v x):zC 67 [.pointer (some a),.agg ⟨aT (bR t b n c)⟩] h K:=
 Xbn.ok _ _ _ _ (T.new C.f fun a1 h1 l1 k1 _=>l1.ld (ga (C.cU k1) (by omega) l1.T fun h2 c2 C2 E2=>Cz C2 (by omega) fun h3 c3 C3 E3=>hk h3 c3 C3 ((al.kb k1).trans (E2.trans E3))))
theorem zu (C:CP h col a w mm u v x) (hu:u<=800000) (hv:v<=10000) (hk:j8 h col a w K {mm with w:=aU mm.w} (u+v) v x):zC 40 [.pointer (some w)] h K:=by
 have jQ:=C.s.A.D.lo
 have qF:=C.s.A.D.ln
 have jR:=C.s.A.D.ml
 exact wL C.L C.p C.s.A.D.G C.s.A.D.ne (by omega) (by omega) C.s.A.D.mw.w fun h2 c2 p2 E2=>hk h2 c2 (C.pa p2 E2.pa C.s.ux) E2.pa.px
theorem AH (C:CP h col a w mm u v x) (hu:u<=800000) (hv:v<=10000) (T:fc h col t b n c) (hk:j8 h col a w K {mm with w:=jk (aU mm.w) t} (u+v+1) v x):zC 83 [.pointer (some a),.agg ⟨aT (bR t b n c)⟩] h K:=
 Xbh.ok _ _ _ _ (T.new C.f fun a1 h1 l1 k1 _=>aa ⟨_,(C.cU k1).V.cell 0 rfl,zu (C.cU k1) hu hv fun h2 c2 C2 E2=>(l1.ext E2).ld (AJ C2 (by omega) (l1.ext E2).T fun h3 c3 C3 E3=>hk h3 c3 C3 ((al.kb k1).trans (E2.trans E3)))⟩)
theorem jT (C:CP h col a w mm u v x) (ex:Bs) (hk:j8 h col a w K {mm with w:=wy mm.w ex} u v x):zC 150 [.pointer (some a),S ex] h K:=by
 obtain⟨t,cp,T,W⟩:=C.p.ex
 obtain⟨ob,oc,mb,mn,mc,vw,o,om⟩:=W.ex
 exact Xb2.ok _ _ _ _ (aa ⟨_,C.V.cell 0 rfl,aa ⟨_,C.V.cell 0 rfl,aa ⟨_,_,_,vw.cell 1 rfl,sA C.L.ml (fun k hk=>hk) o.row C.Xw fun h1 k1=>aO ⟨k1.ext,AW (C.cU k1) _ fun h2 c2 C2 E2=>hk h2 c2 C2 ((al.kb k1).trans E2)⟩⟩⟩⟩)
theorem O0 (C:CP h col a w mm u v x) (rn:Row cN B h b n c ns) (hk:j8 h col a w K {mm with w:=upW mm.w ns} u v x):zC 151 [.pointer (some a),.slice b n c] h K:=by
 obtain⟨t,cp,T,W⟩:=C.p.ex
 obtain⟨ob,oc,mb,mn,mc,vw,o,om⟩:=W.ex
 exact Xcq.ok _ _ _ _ _ _ (aa ⟨_,C.V.cell 0 rfl,aa ⟨_,C.V.cell 0 rfl,aa ⟨_,_,_,vw.cell 1 rfl,nY (fun k hk=>hk) o.row rn fun h1 k1=>aO ⟨k1.ext,AW (C.cU k1) _ fun h2 c2 C2 E2=>hk h2 c2 C2 ((al.kb k1).trans E2)⟩⟩⟩⟩)
theorem Fg (C:CP h col a w mm u v x) (ex:Bs) (hs:s.length<=4000) {Q:H->Prop} (hk:∀h' c',CP h' c' a w {mm with w:=wc mm.w ex [s]} u v x->al PX h col h' c'->Q h'):
  zC 150 [.pointer (some a),S ex] h fun _ h7=>aw h7 #[S s] 9 fun a8 h9=>zC 151 [.pointer (some a),.slice (some a8) 1 1] h9 fun _ eG=>Q eG:=
 jT C ex fun h1 c1 C1 E1=>eM hs fun a2 h2 r2 k2=>O0 (C1.cU k2) r2 fun h3 c3 C3 E3=>hk h3 c3 C3 (E1.trans ((al.kb k2).trans E3))
theorem mv (C:CP h col a w mm u v x) (hk:j8 h col a w K {mm with w:=pW mm.w} u v x):zC 145 [.pointer (some a)] h K:=by
 unfold pW at hk
 refine Xbl.ok _ _ _ (eM (by decide) fun a1 h1 r1 k1=>AF (C.cU k1) r1 2 fun h2 k2=>ag (aR (fun e=>?_) fun e=>?_))
 ·have e:kQ mm.w.op 2 wP=true:=e
  rw[if_pos e] at hk
  exact Fg ((C.cU k1).cU k2) [112] (s:=[112]) (by decide) fun h3 c3 C3 E3=>hk h3 c3 C3 ((al.kb (k1.trans k2)).trans E3)
 ·have e:kQ mm.w.op 2 wP=false:=e
  rw[if_neg (by rw[e];decide)] at hk
  exact hk h2 col ((C.cU k1).cU k2) (.kb (k1.trans k2))
theorem ng (C:CP h col a w mm u v x) (hu:u<=880000) (T:fc h col t b n c) (hk:j8 h col a w K {mm with w:=dM mm.w t} (u+1) v x):zC 71 [.pointer (some a),.agg ⟨aT (bR t b n c)⟩] h K:=
 Xbj.ok _ _ _ _ (T.new C.f fun a1 h1 l1 k1 _=>mv (C.cU k1) fun h2 c2 C2 E2=>(l1.ext E2).ld (ga C2 (by omega) (l1.ext E2).T fun h3 c3 C3 E3=>hk h3 c3 C3 ((al.kb k1).trans (E2.trans E3))))
theorem pL (C:CP h col a w mm u v x) (hu:u<=800000) (hv:v<=10000) (T:fc h col t b n c) (hk:j8 h col a w K {mm with w:=gO mm.w t} (u+v+1) v x):zC 93 [.pointer (some a),.agg ⟨aT (bR t b n c)⟩] h K:=
 Xce.ok _ _ _ _ (T.new C.f fun a1 h1 l1 k1 _=>aa ⟨_,(C.cU k1).V.cell 0 rfl,zu (C.cU k1) hu hv fun h2 c2 C2 E2=>(l1.ext E2).ld (ga C2 (by omega) (l1.ext E2).T fun h3 c3 C3 E3=>hk h3 c3 C3 ((al.kb k1).trans (E2.trans E3)))⟩)
theorem AY (C:CP h col a w mm u v x) (T:fc h col t b n c) (rd:Int) (hk:j8 h col a w K (mm.fp mm.w t rd) u v x):zC 144 [.pointer (some a),.agg ⟨aT (bR t b n c)⟩,.int .u8 rd] h K:=by
 refine Xcj.ok _ _ _ _ _ (T.new C.f fun a1 h1 l1 k1 _=>aa ⟨_,(C.cU k1).V.cell 1 rfl,aa ((C.cU k1).Fi (mm2:={mm with back:=mm.mode}) rfl rfl (by decide) fun h2 C2 E2=>aa (C2.Fi (mm2:={mm with back:=mm.mode,mode:=1}) rfl rfl (by decide) fun h3 C3 E3=>⟨aa (C3.Fi (mm2:={mm with back:=mm.mode,mode:=1,read:=rd}) rfl rfl (by decide) fun h4 C4 E4=>⟨_,(((l1.ext E2).ext E3).ext E4).nm,aa (C4.Fi (mm2:=mm.fp mm.w t rd) rfl rfl (by decide) fun h5 C5 E5=>hk h5 _ C5 ((al.kb k1).trans (E2.trans (E3.trans (E4.trans E5)))))⟩),_,((l1.ext E2).ext E3).nm,aa (C3.Fi (mm2:={mm with back:=mm.mode,mode:=1,read:=rd}) rfl rfl (by decide) fun h4 C4 E4=>aa (C4.Fi (mm2:=mm.fp mm.w t rd) rfl rfl (by decide) fun h5 C5 E5=>hk h5 _ C5 ((al.kb k1).trans (E2.trans (E3.trans (E4.trans E5))))))⟩))⟩)
theorem KH (C:CP h col a w mm u v x) (hu:u<=880000) (T:fc h col t b n c) (hk:j8 h col a w K (mm.fp (fe mm.w t) t 1) (u+1) v x):zC 68 [.pointer (some a),.agg ⟨aT (bR t b n c)⟩] h K:=
 Xck.ok _ _ _ _ (T.new C.f fun a1 h1 l1 k1 _=>l1.ld (ga (C.cU k1) (by omega) l1.T fun h2 c2 C2 E2=>(l1.ext E2).ld (AY C2 (l1.ext E2).T 1 fun h3 c3 C3 E3=>hk h3 c3 C3 ((al.kb k1).trans (E2.trans E3)))))
theorem RY (C:CP h col a w mm u v x) (hu:u<=880000) (T:fc h col t b n c) (hk:j8 h col a w K (mm.fp (fe mm.w t) t 2) (u+1) v x):zC 69 [.pointer (some a),.agg ⟨aT (bR t b n c)⟩] h K:=
 Xci.ok _ _ _ _ (T.new C.f fun a1 h1 l1 k1 _=>l1.ld (ga (C.cU k1) (by omega) l1.T fun h2 c2 C2 E2=>(l1.ext E2).ld (AY C2 (l1.ext E2).T 2 fun h3 c3 C3 E3=>hk h3 c3 C3 ((al.kb k1).trans (E2.trans E3)))))
theorem KI (C:CP h col a w mm u v x) (hu:u<=880000) (T:fc h col t b n c) (hk:j8 h col a w K (mm.fp (fe mm.w t) t 3) (u+1) v x):zC 70 [.pointer (some a),.agg ⟨aT (bR t b n c)⟩] h K:=
 Xcm.ok _ _ _ _ (T.new C.f fun a1 h1 l1 k1 _=>l1.ld (ga (C.cU k1) (by omega) l1.T fun h2 c2 C2 E2=>(l1.ext E2).ld (AY C2 (l1.ext E2).T 3 fun h3 c3 C3 E3=>hk h3 c3 C3 ((al.kb k1).trans (E2.trans E3)))))
end
abbrev YL:=Int × Int × Bs × List bw
abbrev YM (o:YL):cm:=(0,[],o.2.2.2,false,[])
def opW (o:YL):Nat:=o.2.2.1.length / 8+CL (YM o)
def KS (l:List YL):Prop:=l.length<=80/\∀o ∈ l,opW o<=300
section
variable {A:Nat->Prop} {h:H} {K:KV} {b:OA} {n c:Nat} {l:List YL}
theorem KS.op (L:KS l) {o:YL} (ho:o ∈ l):o.2.2.1.length<=4000/\o.2.2.2.length<=500/\∀a ∈ o.2.2.2,a.1.length<=4000/\a.2.length<=4000:=by
 have h:=L.2 o ho
 unfold opW at h
 obtain⟨_,_,h3,h4⟩:=wI (x:=YM o) (m:=300) (by omega)
 exact⟨by omega,Nat.le_trans h3 (by decide),fun a ha=>by have:=h4 a ha;omega⟩
end
section
variable {B:Nat->Prop} {h:H} {K:KV} {col:bY} {a w:Addr} {mm:MM} {u v x:Nat} {t:cm} {b:OA} {n c:Nat} {ns:List Bs} {s:Bs}
theorem KD (C:CP h col a w mm u v x) (sc:Int) (ex:Bs) (hs:s.length<=4000) (rn:Row cN B h b n c [s]) {Q:H->Prop} (hk:∀h' c',CP h' c' a w {mm with w:=dF mm.w sc ex [s]} u v x->al PX h col h' c'->Q h'):
  zC 149 [.pointer (some a),.int .u8 sc,.slice b n c] h fun v3 h4=>au v3 fun b5=>cond b5 (zC 150 [.pointer (some a),S ex] h4 fun _ h7=>aw h7 #[S s] 9 fun a8 h9=>zC 151 [.pointer (some a),.slice (some a8) 1 1] h9 fun _ eG=>Q eG) (Q h4):=by
 unfold dF at hk
 refine AF C rn sc fun h2 k2=>ag (aR (fun e=>?_) fun e=>?_)
 ·rw[if_pos e] at hk
  exact Fg (C.cU k2) ex hs fun h3 c3 C3 E3=>hk h3 c3 C3 ((al.kb k2).trans E3)
 ·rw[if_neg (by rw[e];decide)] at hk
  exact hk h2 col (C.cU k2) (.kb k2)
theorem AG (C:CP h col a w mm u v x) (hu:u<=800000) (hv:v<=10000) (T:fc h col t b n c) (hk:j8 h col a w K {mm with w:=bW mm.w t.2.1} (u+32) v x):zC 100 [.pointer (some a),.agg ⟨aT (bR t b n c)⟩] h K:=by
 refine Xb7.ok _ _ _ _ (T.new C.f fun a1 h1 l1 k1 _=>aa ⟨_,(C.cU k1).V.cell 0 rfl,_,l1.nm,Iu (C.L.kb k1) (C.cU k1).p C.s.A (by omega) (by omega) fun h2 c2 p2 E2=>?_⟩)
 have C2:=(C.cU k1).pa p2 E2 (C.s.run t.2.1)
 have zo:=(al.kb k1).trans E2.px
 unfold bW at hk
 refine ag (aR (fun e=>?_) fun e=>?_)
 ·rw[if_pos e] at hk
  exact hk h2 c2 C2 zo
 ·rw[if_neg (by rw[e];decide)] at hk
  have jQ:=C2.s.A.D.lo
  exact aa ⟨_,C2.V.cell 0 rfl,_,(l1.ext E2).nm,qP C2.L C2.p (by omega) (fun y hy=>by have:=C2.s.A.yD y hy;omega) fun h3 c3 p3 E3=>hk h3 c3 (C2.pa p3 E3.pa (C2.s.close _)) (zo.trans E3.pa.px)⟩
theorem Yw (C:CP h col a w mm u v x) (hu:u<=890000) (rn:Row cN B h b n c ns) (hk:∀h',KB h h'->K (.bool (Et mm.w ns)) h'):zC 146 [.pointer (some a),.slice b n c] h K:=by
 obtain⟨t,cp,T,W⟩:=C.p.ex
 have jQ:=C.s.A.D.lo
 refine Xb5.ok _ _ _ _ _ _ (aa ⟨_,C.V.cell 0 rfl,eN W C.s.A.D.ne (by omega) fun h1 k1=>jm (x:=dP mm.w.op) <| af fun a2 h2 v2 k2 e2 s2=>aQ v2 (by show 4<=4;omega) fun h3 v3 k3 s3=>?_⟩)
 have rq:KB h h3:=k1.trans (KB.step k2 k3 (by omega))
 have v3:Var h3 a2 77 (aW (dP mm.w.op)):=v3
 refine⟨_,v3.cell 1 rfl,bf (fun e=>⟨_,v3.cell 2 rfl,lu (rn.kb rq) (ag (dm (K:=fun b=>K (.bool b) h3) ?_))⟩) fun e=>?_⟩
 ·have:=hk h3 rq
  unfold Et at this;rwa[decide_eq_true e,Bool.true_and] at this
 ·have:=hk h3 rq
  unfold Et at this;rwa[decide_eq_false e,Bool.false_and] at this
theorem AK {Q:KV} (hk:∀a h',Row cN (fun _=>True) h' (some a) 6 6 yy->KB h h'->Q (.slice (some a) 6 6) h'):zC 147 [] h Q:=
 Xcw.ok _ _ (oL (ws:=yy) rfl (by decide) (by decide) fun a1 h1 r1 k1=>hk a1 h1 r1 k1)
theorem TE (C:CP h col a w mm u v x) (hu:u<=880000) (T:fc h col t b n c) (hk:j8 h col a w K {mm with w:=fe (rY mm.w) t} (u+1) v x):zC 72 [.pointer (some a),.agg ⟨aT (bR t b n c)⟩] h K:=by
 unfold rY at hk
 refine Xbz.ok _ _ _ _ (T.new C.f fun a1 h1 l1 k1 _=>mv (C.cU k1) fun h2 c2 C2 E2=>AK fun a3 h3 r3 k3=>aH (Yw (C2.cU k3) (by omega) r3 fun h4 k4=>?_))
 have C4:=(C2.cU k3).cU k4
 have E4:al PX h1 col h4 c2:=E2.trans (.kb (k3.trans k4))
 have Km:=(al.kb k1).trans E4
 refine ag (aR (fun e=>?_) fun e=>?_)
 ·have e:Et (pW mm.w) yy=true:=e
  rw[if_pos e] at hk
  exact Cz C4 (by omega) fun h5 c5 C5 E5=>((l1.ext E4).ext E5).ld (ga C5 (by omega) ((l1.ext E4).ext E5).T fun h6 c6 C6 E6=>hk h6 c6 C6 (Km.trans (E5.trans E6)))
 ·have e:Et (pW mm.w) yy=false:=e
  rw[if_neg (by rw[e];decide)] at hk
  exact(l1.ext E4).ld (ga C4 (by omega) (l1.ext E4).T fun h6 c6 C6 E6=>hk h6 c6 C6 (Km.trans E6))
theorem Yx (C:CP h col a w mm u v x) (hu:u<=880000) (T:fc h col t b n c) (hk:j8 h col a w K {mm with w:=dM mm.w t,skip:=true} (u+1) v x):zC 73 [.pointer (some a),.agg ⟨aT (bR t b n c)⟩] h K:=
 Xch.ok _ _ _ _ (T.new C.f fun a1 h1 l1 k1 _=>l1.ld (ng (C.cU k1) hu l1.T fun h2 c2 C2 E2=>aa (C2.Fi (mm2:={mm with w:=dM mm.w t,skip:=true}) rfl rfl (by decide) fun h3 C3 E3=>hk h3 _ C3 ((al.kb k1).trans (E2.trans E3)))))
theorem CE (C:CP h col a w mm u v x) (hu:u<=880000) (T:fc h col t b n c) (hk:j8 h col a w K {mm with w:=dM mm.w t,read:=4} (u+1) v x):zC 77 [.pointer (some a),.agg ⟨aT (bR t b n c)⟩] h K:=
 Xcf.ok _ _ _ _ (T.new C.f fun a1 h1 l1 k1 _=>l1.ld (ng (C.cU k1) hu l1.T fun h2 c2 C2 E2=>aa (C2.Fi (mm2:={mm with w:=dM mm.w t,read:=4}) rfl rfl (by decide) fun h3 C3 E3=>hk h3 _ C3 ((al.kb k1).trans (E2.trans E3)))))
theorem O2 (C:CP h col a w mm u v x) (hu:u<=880000) (T:fc h col t b n c) (hk:j8 h col a w K {mm with w:=dM mm.w t,mode:=2} (u+1) v x):zC 82 [.pointer (some a),.agg ⟨aT (bR t b n c)⟩] h K:=
 Xco.ok _ _ _ _ (T.new C.f fun a1 h1 l1 k1 _=>l1.ld (ng (C.cU k1) hu l1.T fun h2 c2 C2 E2=>aa (C2.Fi (mm2:={mm with w:=dM mm.w t,mode:=2}) rfl rfl (by decide) fun h3 C3 E3=>hk h3 _ C3 ((al.kb k1).trans (E2.trans E3)))))
theorem Fj (C:CP h col a w mm u v x) (hu:u<=880000) (T:fc h col t b n c) (hk:j8 h col a w K {mm.fp (fe mm.w t) t 1 with skip:=true} (u+1) v x):zC 86 [.pointer (some a),.agg ⟨aT (bR t b n c)⟩] h K:=
 Xcp.ok _ _ _ _ (T.new C.f fun a1 h1 l1 k1 _=>l1.ld (KH (C.cU k1) hu l1.T fun h2 c2 C2 E2=>aa (C2.Fi (mm2:={mm.fp (fe mm.w t) t 1 with skip:=true}) rfl rfl (by decide) fun h3 C3 E3=>hk h3 _ C3 ((al.kb k1).trans (E2.trans E3)))))
theorem GY (m:WM) (t:cm):(dP (fe m t).op).1=(m.ns.length:Int):=by
 have e:(fe m t).op=m.op++ [((m.ns.length:Int),0,t.2.1,dr 0 t.2.1 t.2.2.1)]:=rfl
 unfold dP
 rw[e,List.length_append,List.length_singleton,Nat.add_sub_cancel,List.getD_eq_getElem?_getD,List.getElem?_append_right (Nat.le_refl _),Nat.sub_self]
 rfl
theorem RR (m:WM):(pW m).ns=m.ns:=by
 unfold pW;split
 ·rfl
 ·rfl
theorem TF (C:CP h col a w mm u v x) (hu:u<=880000) (T:fc h col t b n c) (hk:j8 h col a w K (uh mm t) (u+1) v x):zC 74 [.pointer (some a),.agg ⟨aT (bR t b n c)⟩] h K:=by
 unfold uh at hk
 refine Xbv.ok _ _ _ _ (T.new C.f fun a1 h1 l1 k1 _=>aa ⟨_,(C.cU k1).V.cell 3 rfl,bf (fun e=>aD (l1.ld (ng (C.cU k1) hu l1.T fun h2 c2 C2 E2=>aa ⟨_,C2.V.cell 0 rfl,?_⟩))) fun e=>aC ?_⟩)
 ·rw[if_pos e] at hk
  obtain⟨tr,cp,T2,W2⟩:=C2.p.ex
  have jQ:=C2.s.A.D.lo
  refine eN W2 C2.s.A.D.ne (by omega) fun h3 k3=>jm (x:=dP _) (aa ((C2.cU k3).Fi (mm2:={mm with w:=dM mm.w t,fm:=(mm.w.ns.length:Int)}) ?_ rfl (by decide) fun h4 C4 E4=>hk h4 _ C4 ((al.kb k1).trans (E2.trans ((al.kb k3).trans E4)))))
  have ec:=GY (pW mm.w) t
  rw[RR] at ec
  show jq _ 3 [.int .i64 (dP (fe (pW mm.w) t).op).1]=_
  rw[ec]
  rfl
 ·rw[if_neg e] at hk
  exact hk h1 col ((C.cU k1).mono (Nat.le_succ _)) (.kb k1)
end
end Go.Proofs
