import Derived.Test.YtijoifkjeamonaaGreatHc
import Derived.Test.YtijoifkjeamonaaGreatMoE
import Derived.Test.YtijoifkjeamonaaGreatPcM
import Derived.Test.YtijoifkjeamonaaGreatTxA
namespace Go.Proofs
open Go Go.Sh
set_option linter.unusedVariables false
set_option maxRecDepth 100000
theorem rD (ns:List Bs) (l:List aP):∀k:Nat, -1<=eW (jf ns) (-1) l k/\eW (jf ns) (-1) l k<(k:Int)
 | 0=>⟨Int.le_refl _,by show(-1:Int)<0;omega⟩
 | k+1=>by
  have:=rD ns l k
  unfold eW
  split
  ·rename_i r e
   unfold jf at e
   split at e
   ·cases e;omega
   ·split at e
    ·cases e;omega
    ·cases e
  ·omega
section
variable {B:Nat->Prop} {h:H} {K:KV} {col:cd} {a w:Addr} {mm:MM} {u v x:Nat} {t:bJ} {b:OA} {n c:Nat} {ns:List Bs} {s:Bs}
theorem Ko (C:CP h col a w mm u v x) (hv:v<=100000):∃mb mn mc,cell h (w.add 2)=some (.slice mb mn mc)/\∀h1 (y:aS) (ab:OA) (an ac:Nat) (Q:H->Prop),KB h h1->cG (bT col h1) h1 y ab an ac->
  (∀h' c',PW h' c' w {mm.w with aD:=fp mm.w.aD y}->al PX h col h' c'->al PA h col h' c'->Q h')->
  zC 156 [.slice mb mn mc,.agg ⟨[.int .i64 y.1,S y.2.1,.slice ab an ac]⟩] h1 fun v h2=>aA v fun b n c=>bH h1 h2/\aZ (w.add 2) [.slice b n c] 0 h2 Q:=by
 obtain⟨t,ct,T,W⟩:=C.p.ex
 obtain⟨ob,oc,mb,mn,mc,vw,o,om⟩:=W.ex
 have jn:=C.s.A.D.ml
 have hl:=om.len
 refine⟨_,_,_,vw.cell 2 rfl,fun h1 y ab an ac Q k hR hk=>?_⟩
 obtain⟨xs,he,hc,_⟩:=(om.kb k).parts
 refine Fi (om.kb k).row he hc (fun k hk=>hk.2) om.nil hR (by omega) fun b' n' c' h2 o2 k2=>aC ⟨k2.ext,dZ (W.kb k) (C.f.kb k) k2 o2 fun h3 W3 E3 f3 _=>?_⟩
 have E:al PA h col h3 _:=(al.kb k).trans (E3.mono fun s hs=>.inl (.inr hs))
 exact hk h3 _ ⟨t,ct,(T.kb k).cJ (S:=fun k=>k=2) (by decide) E3 f3,W3⟩ E.px E
theorem pt (C:CP h col a w mm u v x) (hu:u<=800000) (hv:v<=10000) (T:fj h col t b n c) (hk:kD h col a w K {mm with w:=iq mm.w t} (u+v+1) (v+1) x):zC 92 [.pointer (some a),.agg ⟨aT (bP t b n c)⟩] h K:=by
 refine Xbw.ok _ _ _ _ (T.new C.f fun a1 h1 l1 k1 _=>l1.ld (qe (C.da k1) hu hv l1.T fun h2 c2 C2 E2=>?_))
 obtain⟨mb,mn,mc,e2,push⟩:=Ko C2 (by omega)
 have l2:=l1.ext E2
 have jZ:=C2.s.A.D.lo
 have rB:=C.s.uG.A.D.ln
 obtain⟨tr,ct,T2,W2⟩:=C2.p.ex
 refine aa ⟨_,C2.V.cell 0 rfl,aa ⟨_,C2.V.cell 0 rfl,aa ⟨_,_,_,e2,aa ⟨_,C2.V.cell 0 rfl,_,l2.nm,_,_,_,l2.V.cell 2 rfl,eO W2 C2.s.A.D.ne (by omega) fun h3 k3=>jx (x:=dR _) ⟨k3.ext,?_⟩⟩⟩⟩⟩
 have ec:(dR (fe (aU mm.w) t).op).1=((aU mm.w).ns.length:Int):=GV _ t
 have l3:=l2.kb k3
 have hR:cG (bT c2 h3) h3 (((aU mm.w).ns.length:Int),t.2.1,t.2.2.1) b n c:=jI (m:=(((aU mm.w).ns.length:Int),t.2.1,t.2.2.1)) l3.T.r T.z (aG (by omega) (by omega)) (by have:=T.s.1;show t.2.1.length<=_;simp only[maxLen];omega)
 have:=push h3 _ b n c _ k3 hR fun h4 c4 p4 E4 EA=>hk h4 c4 (C2.pa p4 EA (C.s.format T.s)) ((al.kb k1).trans (E2.trans E4))
 show hG _ _ ⟨[_,.agg ⟨[.int .i64 (dR (fe (aU mm.w) t).op).1,_,_]⟩]⟩ _ _
 rw[ec]
 exact this
theorem Kp (C:CP h col a w mm u v x) (hu:u<=800000) (hv:v<=10000) (T:fj h col t b n c) (hk:kD h col a w K {mm with w:=vR (gY mm.w t)} (u+v+1) (v+1) x):zC 81 [.pointer (some a),.agg ⟨aT (bP t b n c)⟩] h K:=by
 refine Xcc.ok _ _ _ _ (T.new C.f fun a1 h1 l1 k1 _=>l1.ld (qe (C.da k1) hu hv l1.T fun h2 c2 C2 E2=>?_))
 obtain⟨mb,mn,mc,e2,push⟩:=Ko C2 (by omega)
 refine aa ⟨_,C2.V.cell 0 rfl,aa ⟨_,C2.V.cell 0 rfl,aa ⟨_,_,_,e2,?_⟩⟩⟩
 exact push h2 (-1,[],[]) none 0 0 _ (KB.refl _) (jI (m:=(-1,[],[])) ⟨rfl,Nat.le_refl _,Nat.zero_le _,fun i x hx=>by simp at hx⟩ (fun _=>rfl) (aG (by decide) (by decide)) (by decide)) fun h4 c4 p4 E4 EA=>hk h4 c4 (C2.pa p4 EA (C.s.plain T.s).wK) ((al.kb k1).trans (E2.trans E4))
theorem Kq (C:CP h col a w mm u v x) (hu:u<=890000) (rn:Row cL B h b n c ns) (hk:kD h col a w K {mm with w:=qU mm.w ns} u v x):zC 148 [.pointer (some a),.slice b n c] h K:=by
 obtain⟨t,ct,T,W⟩:=C.p.ex
 obtain⟨ob,oc,mb,mn,mc,vw,o,om⟩:=W.ex
 have jZ:=C.s.A.D.lo
 unfold qU at hk
 refine Xb6.ok _ _ _ _ _ _ (aa ⟨_,C.V.cell 0 rfl,aa ⟨_,_,_,vw.cell 1 rfl,wL C.L.ml (fun k hk=>hk) o.row C.WS rn fun h1 k1=>aN (bh (fun e=>aF ?_) fun e=>aE ?_)⟩⟩)
 ·have e:0<=qV mm.w.op ns:=e
  obtain⟨k,ek⟩:=Int.eq_ofNat_of_zero_le e
  have hr:=rD ns mm.w.op mm.w.op.length
  have dJ:k<mm.w.op.length:=by have:qV mm.w.op ns<(mm.w.op.length:Int):=hr.2;omega
  rw[if_pos e] at hk
  have en:zp mm.w ns=mm.w.op[k].2.2.1:=by unfold zp;rw[ek];show(mm.w.op.getD k aI).2.2.1=_;rw[aJ dJ]
  rw[en] at hk
  rw[ek]
  refine aa ⟨_,(C.da k1).V.cell 0 rfl,aa ⟨_,_,_,(vw.kb k1).cell 1 rfl,(o.kb k1).row.bn (i:=k) dJ rfl fun q hA=>⟨_,(hA.snd.dH (k:=2) rfl).fst.str.1,?_⟩⟩⟩
  exact Fj (C.da k1) _ (C.s.A.yC _ (List.getElem_mem dJ)) fun h3 c3 C3 E3=>hk h3 c3 C3 ((al.kb k1).trans E3)
 ·rw[if_neg e] at hk
  exact hk h1 col (C.da k1) (.kb k1)
theorem adD (C:CP h col a w mm u v x) (hu:u<=880000) (T:fj h col t b n c) (hk:kD h col a w K {mm with w:=dN (qU mm.w OP) t} (u+1) v x):zC 75 [.pointer (some a),.agg ⟨aT (bP t b n c)⟩] h K:=
 Xb8.ok _ _ _ _ (T.new C.f fun a1 h1 l1 k1 _=>eN (by decide) fun a2 h2 r2 k2=>Kq ((C.da k1).da k2) (by omega) r2 fun h3 c3 C3 E3=>((l1.kb k2).ext E3).ld (nE C3 hu ((l1.kb k2).ext E3).T fun h4 c4 C4 E4=>hk h4 c4 C4 ((al.kb (k1.trans k2)).trans (E3.trans E4))))
theorem adE (C:CP h col a w mm u v x) (hu:u<=880000) (T:fj h col t b n c) (hk:kD h col a w K {mm with w:=dN (qU mm.w H4) t} (u+1) v x):zC 76 [.pointer (some a),.agg ⟨aT (bP t b n c)⟩] h K:=
 Xbm.ok _ _ _ _ (T.new C.f fun a1 h1 l1 k1 _=>oX (ws:=H4) rfl (by decide) (by decide) fun a2 h2 r2 k2=>Kq ((C.da k1).da k2) (by omega) r2 fun h3 c3 C3 E3=>((l1.kb k2).ext E3).ld (nE C3 hu ((l1.kb k2).ext E3).T fun h4 c4 C4 E4=>hk h4 c4 C4 ((al.kb (k1.trans k2)).trans (E3.trans E4))))
theorem Ks (C:CP h col a w mm u v x) (hu:u<=800000) (hv:v<=10000) (T:fj h col t b n c) (hk:kD h col a w K {mm with w:=gY (dF mm.w 0 [] gw) t} (u+v+1) v x):zC 78 [.pointer (some a),.agg ⟨aT (bP t b n c)⟩] h K:=by
 refine Xbk.ok _ _ _ _ (T.new C.f fun a1 h1 l1 k1 _=>eN (by decide) fun a2 h2 r2 k2=>?_)
 have fin:∀h3 c3,CP h3 c3 a w {mm with w:=dF mm.w 0 [] gw} u v x->al PX h2 col h3 c3->bL h3 a1 fun t14=>zC 93 [.pointer (some a),.agg ⟨aT t14⟩] h3 fun tN gX=>K (.tuple ⟨[]⟩) gX:=fun h3 c3 C3 E3=>
  ((l1.kb k2).ext E3).ld (qe C3 hu hv ((l1.kb k2).ext E3).T fun h4 c4 C4 E4=>hk h4 c4 C4 ((al.kb (k1.trans k2)).trans (E3.trans E4)))
 exact Kt ((C.da k1).da k2) 0 [] (s:=[98,117,116,116,111,110]) (by decide) r2 (Q:=fun h3=>bL h3 a1 fun t14=>zC 93 [.pointer (some a),.agg ⟨aT t14⟩] h3 fun tN gX=>K (.tuple ⟨[]⟩) gX) fin
theorem Tq (C:CP h col a w mm u v x) (hu:u<=700000) (hv:v<=10000) (T:fj h col t b n c) (hk:kD h col a w K {mm with w:=iq (si (aU mm.w) t.2.1) t} (u+2*v+33) (v+1) x):zC 80 [.pointer (some a),.agg ⟨aT (bP t b n c)⟩] h K:=by
 unfold si at hk
 refine Xcb.ok _ _ _ _ (T.new C.f fun a1 h1 l1 k1 _=>aa ⟨_,(C.da k1).V.cell 0 rfl,zq (C.da k1) (by omega) hv fun h2 c2 C2 E2=>⟨_,(l1.ext E2).nm,eN T.s.1 fun a3 h3 r3 k3=>AD (C2.da k3) r3 0 fun h4 k4=>?_⟩⟩)
 have C4:=(C2.da k3).da k4
 have E4:al PX h1 col h4 c2:=E2.trans (.kb (k3.trans k4))
 have l4:=l1.ext E4
 have Kg:=(al.kb k1).trans E4
 refine ag (aR (fun e=>?_) fun e=>?_)
 ·have e:lg (aU mm.w).op 0 [t.2.1]=true:=e
  rw[if_pos e] at hk
  exact l4.ld (AE C4 (by omega) hv l4.T fun h5 c5 C5 E5=>(l4.ext E5).ld (pt C5 (by omega) hv (l4.ext E5).T fun h6 c6 C6 E6=>hk h6 c6 (C6.mono (by omega)) (Kg.trans (E5.trans E6))))
 ·have e:lg (aU mm.w).op 0 [t.2.1]=false:=e
  rw[if_neg (by rw[e];decide)] at hk
  exact l4.ld (pt C4 (by omega) hv l4.T fun h6 c6 C6 E6=>hk h6 c6 (C6.mono (by omega)) (Kg.trans E6))
theorem OQ (C:CP h col a w mm u v x) (hu:u<=800000) (hv:v<=10000) (T:fj h col t b n c) (hk:kD h col a w K {mm with w:=jr (aU mm.w) (nr t)} (u+v+1) v x):zC 84 [.pointer (some a),.agg ⟨aT (bP t b n c)⟩] h K:=by
 refine Xb1.ok _ _ _ _ (T.new C.f fun a1 h1 l1 k1 g1=>ck (m:=1) (i:=0) l1.V (by show 1+0+1<=5;omega) fun h2 v2 k2 s2=>?_)
 have gI:KB h h2:=KB.step k1 k2 g1
 have l2:LT h2 col a1 (nr t) b n c:=⟨v2,l1.O,⟨(T.kb gI).r,T.z,T.k,(by decide:([105,109,103]:Bs).length<=4000),T.s.2⟩⟩
 exact l2.ld (AF (C.da gI) hu hv l2.T fun h3 c3 C3 E3=>hk h3 c3 C3 ((al.kb gI).trans E3))
theorem adF (C:CP h col a w mm u v x) (hu:u<=880000) (T:fj h col t b n c) (hk:kD h col a w K {mm with w:=jr (pW mm.w) t} (u+1) v x):zC 85 [.pointer (some a),.agg ⟨aT (bP t b n c)⟩] h K:=
 Xb0.ok _ _ _ _ (T.new C.f fun a1 h1 l1 k1 _=>mH (C.da k1) fun h2 c2 C2 E2=>(l1.ext E2).ld (AG C2 hu (l1.ext E2).T fun h3 c3 C3 E3=>hk h3 c3 C3 ((al.kb k1).trans (E2.trans E3))))
theorem X3 (C:CP h col a w mm u v x) (hu:u<=800000) (hv:v<=10000) (T:fj h col t b n c) (hk:kD h col a w K (mm.fv (fe (aU (pW mm.w)) t) t 2) (u+v+1) v x):zC 87 [.pointer (some a),.agg ⟨aT (bP t b n c)⟩] h K:=
 Xcr.ok _ _ _ _ (T.new C.f fun a1 h1 l1 k1 _=>mH (C.da k1) fun h2 c2 C2 E2=>aa ⟨_,C2.V.cell 0 rfl,zq C2 hu hv fun h3 c3 C3 E3=>((l1.ext E2).ext E3).ld (RI C3 (by omega) ((l1.ext E2).ext E3).T fun h4 c4 C4 E4=>hk h4 c4 C4 ((al.kb k1).trans (E2.trans (E3.trans E4))))⟩)
theorem Ku (C:CP h col a w mm u v x) (hu:u<=800000) (hv:v<=10000) (T:fj h col t b n c) (hk:kD h col a w K {mm with w:=gY (Ap mm.w) t} (u+v+1) v x):zC 88 [.pointer (some a),.agg ⟨aT (bP t b n c)⟩] h K:=by
 unfold Ap at hk
 refine Xcd.ok _ _ _ _ (T.new C.f fun a1 h1 l1 k1 _=>eN (by decide) fun a2 h2 r2 k2=>X4 ((C.da k1).da k2) (by omega) r2 fun h3 k3=>?_)
 have C3:=((C.da k1).da k2).da k3
 have l3:=(l1.kb k2).kb k3
 have ni:al PX h col h3 col:=.kb (k1.trans (k2.trans k3))
 refine ag (aR (fun e=>?_) fun e=>?_)
 ·have e:Es mm.w [[111,112,116,105,111,110]]=true:=e
  rw[if_pos e] at hk
  exact CD C3 (by omega) fun h4 c4 C4 E4=>(l3.ext E4).ld (qe C4 hu hv (l3.ext E4).T fun h5 c5 C5 E5=>hk h5 c5 C5 (ni.trans (E4.trans E5)))
 ·have e:Es mm.w [[111,112,116,105,111,110]]=false:=e
  rw[if_neg (by rw[e];decide)] at hk
  exact l3.ld (qe C3 hu hv l3.T fun h5 c5 C5 E5=>hk h5 c5 C5 (ni.trans E5))
theorem Tr (C:CP h col a w mm u v x) (hu:u<=880000) (T:fj h col t b n c) (hk:kD h col a w K {mm with w:=fe (jc mm.w t.2.1) t} (u+1) v x):zC 89 [.pointer (some a),.agg ⟨aT (bP t b n c)⟩] h K:=by
 unfold jc at hk
 refine Xcl.ok _ _ _ _ (T.new C.f fun a1 h1 l1 k1 _=>?_)
 obtain⟨ex,hex⟩:∃ex,JU t.2.1=ex:=⟨_,rfl⟩
 rw[hex] at hk
 have rest:aw h1 #[S [114,117,98,121]] 9 fun a1' h2=>zC 149 [.pointer (some a),.int .u8 0,.slice (some a1') 1 1] h2 fun v3 h4=>au v3 fun b5=>cond b5 (zC 150 [.pointer (some a),S ex] h4 fun v6 h7=>bL h7 a1 fun t8=>zC 143 [.pointer (some a),.agg ⟨aT t8⟩] h7 fun v9 cS=>K (.tuple ⟨[]⟩) cS) (bL h4 a1 fun t11=>zC 143 [.pointer (some a),.agg ⟨aT t11⟩] h4 fun v12 fi=>K (.tuple ⟨[]⟩) fi):=by
  refine eN (by decide) fun a2 h2 r2 k2=>AD ((C.da k1).da k2) r2 0 fun h3 k3=>?_
  have C3:=((C.da k1).da k2).da k3
  have l3:=(l1.kb k2).kb k3
  have ni:al PX h col h3 col:=.kb (k1.trans (k2.trans k3))
  refine ag (aR (fun e=>?_) fun e=>?_)
  ·have e:lg mm.w.op 0 Cr=true:=e
   rw[if_pos e] at hk
   exact j8 C3 ex fun h4 c4 C4 E4=>(l3.ext E4).ld (gh C4 (by omega) (l3.ext E4).T fun h5 c5 C5 E5=>hk h5 c5 C5 (ni.trans (E4.trans E5)))
  ·have e:lg mm.w.op 0 Cr=false:=e
   rw[if_neg (by rw[e];decide)] at hk
   exact l3.ld (gh C3 (by omega) l3.T fun h5 c5 C5 E5=>hk h5 c5 C5 (ni.trans E5))
 refine⟨_,l1.nm,bh (fun e=>?_) fun e=>⟨_,l1.nm,bh (fun e2=>?_) fun e2=>?_⟩⟩
 ·rw[show ex=[114,116,99] by rw[<-hex];unfold JU;rw[if_pos (.inl e)]] at rest;exact rest
 ·rw[show ex=[114,116,99] by rw[<-hex];unfold JU;rw[if_pos (.inr e2)]] at rest;exact rest
 ·rw[show ex=[] by rw[<-hex];unfold JU;rw[if_neg (fun h=>h.elim e e2)]] at rest;exact rest
theorem OR (C:CP h col a w mm u v x) (hu:u<=800000) (hv:v<=10000) (T:fj h col t b n c) (hk:kD h col a w K {mm with w:=iO mm.w t} (u+v+1) v x):zC 90 [.pointer (some a),.agg ⟨aT (bP t b n c)⟩] h K:=by
 unfold iO at hk
 simp only[] at hk
 refine Xbi.ok _ _ _ _ (T.new C.f fun a1 h1 l1 k1 _=>aa ⟨_,(C.da k1).V.cell 0 rfl,zq (C.da k1) hu hv fun h2 c2 C2 E2=>?_⟩)
 have l2:=l1.ext E2
 have jZ:=C2.s.A.D.lo
 have rB:=C2.s.A.D.ln
 have hn:=T.s.1
 obtain⟨sp,hsp⟩:∃sp,nt t.2.1=sp:=⟨_,rfl⟩
 rw[hsp] at hk
 have hr:bc .u8 sp:=by rw[<-hsp];unfold nt;split <;> exact⟨by decide,by decide⟩
 have rest:ae (some a) fun a1'=>∃p2,cell h2 (a1'.add 0)=some (.pointer p2)/\(bL h2 a1 fun t3=>zC 64 [.pointer p2,.int .u8 sp,.agg ⟨aT t3⟩] h2 fun v4 h5=>aL .i64 v4 fun i6=>∃b7,cell h5 (a1.add 3)=some (.bool b7)/\(cond b7 (zC 37 [.pointer (some a)] h5 fun v8 h9=>K (.tuple ⟨[]⟩) h9) (K (.tuple ⟨[]⟩) h5))):=by
  refine aa ⟨_,C2.V.cell 0 rfl,l2.ld (sG C2.L C2.p C2.s.A.D.G C2.s.A.D.ne (by omega) (by omega) l2.T.r T.z T.nh T.attrs hr T.k (by show t.2.1.length<=_;omega) fun h3 c3 p3 E3=>aN ⟨_,(l2.ext E3).V.cell 3 rfl,?_⟩)⟩
  have C3:=C2.pa p3 E3.pa (C2.s.insert sp hn t.2.2.1)
  have ni:=(al.kb k1).trans (E2.trans E3.pa.px)
  refine aR (fun e=>?_) fun e=>?_
  ·rw[if_pos e] at hk
   exact CD C3 (by omega) fun h4 c4 C4 E4=>hk h4 c4 C4 (ni.trans E4)
  ·have e:t.2.2.2.1=false:=e
   rw[if_neg (by rw[e];decide)] at hk
   exact hk h3 c3 C3 ni
 refine⟨_,l2.nm,bh (fun e=>?_) fun e=>?_⟩
 ·rw[show sp=1 by rw[<-hsp];unfold nt;rw[if_pos e]] at rest;exact rest
 ·rw[show sp=2 by rw[<-hsp];unfold nt;rw[if_neg e]] at rest;exact rest
end
section
variable {B:Nat->Prop} {h:H} {K:KV} {col:cd} {a w:Addr} {mm:MM} {u v x:Nat} {t:bJ} {b:OA} {n c:Nat} {ns:List Bs} {s:Bs}
theorem zr (m:WM) (id:Int) (h0:0<=id):(dM m id).aD=if 0<=cK m.aD (fun y=>decide (y.1=id)) then m.aD.eraseIdx (cK m.aD fun y=>decide (y.1=id)).toNat else m.aD:=by
 have e:br m.aD id=cK m.aD fun y=>decide (y.1=id):=by unfold br;rw[if_neg (by omega)]
 unfold dM
 rw[e]
 split
 ·rfl
 ·rfl
theorem Ts (C:CP h col a w mm u v x) (hu:u<=700000) (hv:v<=10000) (T:fj h col t b n c) (hk:kD h col a w K {mm with w:=iq (nj mm.w t.2.1) t} (u+v+33) (v+1) x):zC 79 [.pointer (some a),.agg ⟨aT (bP t b n c)⟩] h K:=by
 unfold nj at hk
 refine Xb9.ok _ _ _ _ (T.new C.f fun a1 h1 l1 k1 _=>?_)
 have C1:=C.da k1
 obtain⟨tr,ct,T1,W1⟩:=C1.p.ex
 obtain⟨ob,oc,mb,mn,mc,vw,o,om⟩:=W1.ex
 refine aa ⟨_,C1.V.cell 0 rfl,aa ⟨_,_,_,vw.cell 2 rfl,_,l1.nm,wM (fun k hk=>hk) om.row fun h2 k2=>aN (bh (fun e=>aF ?_) fun e=>aE ?_)⟩⟩
 ·have e:0<=fC mm.w.aD t.2.1:=e
  rw[if_pos e] at hk
  obtain⟨k,ek,dJ,h0⟩:=mu e
  have tL:mm.w.aD.getD k noMark=mm.w.aD[k]:=aJ dJ
  have eid:zd mm.w t.2.1=mm.w.aD[k].1:=by unfold zd;rw[ek,<-tL];rfl
  rw[eid] at hk
  rw[tL] at h0
  rw[ek]
  obtain⟨id,hid⟩:∃id,mm.w.aD[k].1=id:=⟨_,rfl⟩
  rw[hid] at hk h0
  have C2:=C1.da k2
  refine aa ⟨_,C2.V.cell 0 rfl,aa ⟨_,_,_,(vw.kb k2).cell 2 rfl,(om.kb k2).row.bn (i:=k) dJ rfl fun q hA=>⟨_,hA.fst.int.1,af fun a3 h3 v3 k3 e3 s3=>aQ v3 (by show 1<=1;omega) fun h4 v4 k4 s4=>?_⟩⟩⟩
  have hir:=hA.fst.int.2
  have v4:Var h4 a3 3 [.int .i64 id]:=by rw[<-hid];exact v4
  have sx:KB h2 h4:=KB.step k3 k4 (by omega)
  have ov:=k2.trans sx
  have C4:=C2.da sx
  have c3:col a3.block=none:=C2.f _ (by omega)
  refine(l1.kb ov).ld (AE C4 (by omega) hv (l1.kb ov).T fun h5 c5 C5 E5=>?_)
  have v5:=v4.keep E5.eS ⟨c3,v4.lt⟩
  have Tt:c5 a3.block=none:=by rw[E5.cl _ v4.lt];exact c3
  have l5:=(l1.kb ov).ext E5
  have JM:al PX h col h5 c5:=(al.kb (k1.trans ov)).trans E5
  obtain⟨tr,ct,T5,W5⟩:=C5.p.ex
  obtain⟨WQ,oc5,Xz,WR,XA,BY,o5,Jt⟩:=W5.ex
  have ad1:=C5.s.A.D.ml
  have SS:=Jt.len
  obtain⟨xs,he,hc,_⟩:=Jt.parts
  have hpw:=C5.s.M.1
  have h1p:∀i j (hi:i<(bV mm.w t.2.1).aD.length) (hj:j<(bV mm.w t.2.1).aD.length),decide ((bV mm.w t.2.1).aD[i].1=id)=true->decide ((bV mm.w t.2.1).aD[j].1=id)=true->i=j:=fun i j hi hj ei ej=>by
   have ei:=of_decide_eq_true ei
   have ej:=of_decide_eq_true ej
   have hp:=List.pairwise_iff_getElem.1 hpw
   rcases Nat.lt_trichotomy i j with cP | cP | cP
   ·exact absurd (ei.trans ej.symm) (hp i j hi hj cP (by rw[ei];exact h0))
   ·exact cP
   ·exact absurd (ej.trans ei.symm) (hp j i hj hi cP (by rw[ej];exact h0))
  have Xa:∀{h6:H} (v6:Var h6 a3 3 [.int .i64 id]) (h0':a3.block<h6.size),∀x h7 b' n' c' (next:KV),x ∈ (bV mm.w t.2.1).aD->SK (fun k=>k<h6.size) h6 h7->(∀h8,KB h7 h8->next (.bool (decide (x.1=id))) h8)->fT Tryz.prog 4 (.func (.func 154) ⟨[]⟩ ⟨[.pointer (some a3)]⟩) ⟨[.agg ⟨[.int .i64 x.1,S x.2.1,.slice b' n' c']⟩]⟩ h7 next:=fun {h6} v6 h0' x h7 b' n' c' next hx k67 hn=>by
   have e:fT Tryz.prog 4 (.func (.func 154) ⟨[]⟩ ⟨[.pointer (some a3)]⟩) ⟨[.agg ⟨[.int .i64 x.1,S x.2.1,.slice b' n' c']⟩]⟩ h7 next=
     zC 154 [.agg ⟨[.int .i64 x.1,S x.2.1,.slice b' n' c']⟩,.pointer (some a3)] h7 fun v h'=>au v fun b=>cond b (next (.bool true) h') (next (.bool false) h'):=by kernel_rfl
   rw[e]
   refine Xca.ok _ _ _ _ _ _ _ _ (af fun a8 h8 v8 k8 e8 _=>⟨_,v8.cell 0 rfl,_,((v6.keep k67.w h0').kb k8).dy rfl,?_⟩)
   have:=hn h8 k8
   refine bh (fun e=>?_) fun e=>?_
   ·rw[decide_eq_true e] at this;exact this
   ·rw[decide_eq_false e] at this;exact this
  have row:∀{Q:KV},(∀b' n' c' h7,bN aY (bT c5 h5) h7 h5.size 79 b' n' c' (dM (bV mm.w t.2.1) id).aD->KB h5 h7->Q (.slice b' n' c') h7)->zC 63 [.slice Xz WR XA] h5 fun oU fZ=>aA oU fun gQ gR gS=>zC 153 [.slice gQ gR gS,(.func (.func 154) ⟨[]⟩ ⟨[.pointer (some a3)]⟩)] fZ Q:=fun {Q} hQ=>
   fw (fun k hk=>hk.2) he hc SS Jt.cap.1 Jt.nil (by omega) fun b6 c6 h6 o6 k6=>aC (mI (p:=fun y=>decide (y.1=id)) o6 (fun k hk=>hk.2) k6.1 (by omega) h1p (fun x h7 b' n' c' next hx k7 hn=>Xa (h6:=h5) v5 v5.lt x h7 b' n' c' next hx (SK.trans (k6.less fun q hq=>hq) k7) hn) fun b' n' c' h7 o7 k7=>by
    have e:=zr (bV mm.w t.2.1) id h0
    refine hQ b' n' c' h7 ?_ (SK.trans k6 k7)
    rw[e];exact o7)
  have put:∀{Q:H->Prop} b' n' c' h7,bN aY (bT c5 h5) h7 h5.size 79 b' n' c' (dM (bV mm.w t.2.1) id).aD->KB h5 h7->(∀h8 c8,CP h8 c8 a w {mm with w:=dM (bV mm.w t.2.1) id} (u+32) v x->al PX h5 c5 h8 c8->Q h8)->aZ (w.add 2) [.slice b' n' c'] 0 h7 Q:=fun {Q} b' n' c' h7 o7 k7 hQ=>
   dZ W5 C5.f k7 o7 fun h8 W8 E8 f8 _=>by
    have XC:al PA h5 c5 h8 _:=E8.mono fun s hs=>.inl (.inr hs)
    have hmk:({bV mm.w t.2.1 with aD:=(dM (bV mm.w t.2.1) id).aD}:WM)=dM (bV mm.w t.2.1) id:=by unfold dM;split <;> rfl
    have p8:PW h8 (cw c5 h5 b' (2,2)) w (dM (bV mm.w t.2.1) id):=by
     rw[<-hmk];exact⟨tr,ct,T5.cJ (S:=fun k=>k=2) (by decide) E8 f8,W8⟩
    exact hQ h8 _ (C5.pa p8 XC (C5.s.EK id)) XC.px
  have fin:∀h8 c8,CP h8 c8 a w {mm with w:=dM (bV mm.w t.2.1) id} (u+32) v x->al PX h5 c5 h8 c8->ae (some a) fun a4=>∃p5,cell h8 (a4.add 0)=some (.pointer p5)/\(∃i6,cell h8 a3=some (.int .i64 i6)/\(zC 155 [.pointer p5,.int .i64 i6] h8 fun v7 h9=>bL h9 a1 fun t1=>zC 92 [.pointer (some a),.agg ⟨aT t1⟩] h9 fun v2 h3=>K (.tuple ⟨[]⟩) h3)):=fun h8 c8 C8 E8=>by
   have v8:=v5.keep E8.eS ⟨Tt,v5.lt⟩
   have jZ:=C8.s.A.D.lo
   refine aa ⟨_,C8.V.cell 0 rfl,_,v8.dy rfl,lI C8.p (by omega) fun h9 c9 p9 E9 _=>?_⟩
   have l9:=(l5.ext E8).ext E9
   have C9:=C8.pa p9 E9.pa (C8.s.drop id)
   exact l9.ld (pt C9 (by omega) hv l9.T fun cS On C10 E10=>hk cS On (C10.mono (by omega)) (JM.trans (E8.trans (E9.pa.px.trans E10))))
  refine⟨?_,?_⟩
  ·refine aa (aa ⟨_,C5.V.cell 0 rfl,aa ⟨_,_,_,BY.cell 2 rfl,row fun b' n' c' h7 o7 k7=>aC ⟨_,(C5.V.kb k7).cell 0 rfl,aa (put b' n' c' h7 o7 k7 fin)⟩⟩⟩)
  ·refine aa ⟨_,C5.V.cell 0 rfl,aa ⟨_,C5.V.cell 0 rfl,aa ⟨_,_,_,BY.cell 2 rfl,?_⟩⟩⟩
   exact fw (fun k hk=>hk.2) he hc SS Jt.cap.1 Jt.nil (by omega) fun b6 c6 h6 o6 k6=>aC ⟨k6.ext,mI (p:=fun y=>decide (y.1=id)) o6 (fun k hk=>hk.2) k6.1 (by omega) h1p (fun x h7 b' n' c' next hx k7 hn=>Xa (h6:=h5) v5 v5.lt x h7 b' n' c' next hx (SK.trans (k6.less fun q hq=>hq) k7) hn) fun b' n' c' h7 o7 k7=>aC (aa (put b' n' c' h7 (by rw[zr _ id h0];exact o7) (SK.trans k6 k7) fin))⟩
 ·have e:¬0<=fC mm.w.aD t.2.1:=e
  rw[if_neg e] at hk
  exact(l1.kb k2).ld (pt (C1.da k2) (by omega) hv (l1.kb k2).T fun h3 c3 C3 E3=>hk h3 c3 (C3.mono (by omega)) ((al.kb (k1.trans k2)).trans E3))
end
section
variable {B:Nat->Prop} {h:H} {K:KV} {col:cd} {a w:Addr} {mm:MM} {u v x:Nat} {t:bJ} {b:OA} {n c:Nat} {ns:List Bs} {s:Bs}
theorem Tu (C:CP h col a w mm u v x) (hu:u<=890000) {id:Int} (hk:∀h',KB h h'->K (.bool (qO mm.w id)) h'):zC 158 [.pointer (some a),.int .i64 id] h K:=by
 obtain⟨t,ct,T,W⟩:=C.p.ex
 obtain⟨ob,oc,mb,mn,mc,v,o,om⟩:=W.ex
 have jZ:=C.s.A.D.lo
 refine Tv.ok _ _ _ _ (af fun a1 h1 v1 k1 e1 s1=>aa ⟨_,(C.da k1).V.cell 0 rfl,aa ⟨_,_,_,(v.kb k1).cell 1 rfl,?_⟩⟩)
 refine dI (p:=fun x=>decide (x.1=id)) (o.kb k1).row (fun x h2 next hx k2 hR hn=>?_) fun h2 k2=>aN ?_
 ·have e:fT Tryz.prog 4 (.func (.func 200) ⟨[]⟩ ⟨[.pointer (some a1)]⟩) ⟨[.agg ⟨[.int .i64 x.1,.int .u8 x.2.1,S x.2.2.1,.int .u8 x.2.2.2]⟩]⟩ h2 next=
    zC 200 [.agg ⟨[.int .i64 x.1,.int .u8 x.2.1,S x.2.2.1,.int .u8 x.2.2.2]⟩,.pointer (some a1)] h2 fun v h'=>au v fun b=>cond b (next (.bool true) h') (next (.bool false) h'):=by kernel_rfl
  rw[e]
  refine Xby.ok _ _ _ _ _ _ _ (af fun a8 h8 v8 k8 e8 _=>⟨_,v8.cell 0 rfl,_,((v1.kb k2).kb k8).dy rfl,?_⟩)
  have:=hn h8 k8
  refine bh (fun e=>?_) fun e=>?_
  ·rw[decide_eq_true e] at this;exact this
  ·rw[decide_eq_false e] at this;exact this
 ·have gI:=k1.trans k2
  have hk:∀h',KB h2 h'->K (.bool (qO mm.w id)) h':=fun h' k'=>hk h' (gI.trans k')
  have hq:=lH (l:=mm.w.op) (p:=fun x=>decide (x.1=id))
  unfold qO at hk
  refine bh (fun e=>?_) fun e=>?_
  ·have:=hk h2 (KB.refl _)
   rwa[decide_eq_false (by show¬0<=cK _ _;omega),Bool.false_and] at this
  ·have e0:0<=gm mm.w.op id:=by show 0<=cK _ _;omega
   obtain⟨i,ei⟩:=Int.eq_ofNat_of_zero_le e0
   have hi:i<mm.w.op.length:=by have:gm mm.w.op id<(mm.w.op.length:Int):=hq.1;omega
   rw[decide_eq_true e0,Bool.true_and,ei] at hk
   rw[show(cK mm.w.op fun x=>decide (x.1=id))=(i:Int) from ei]
   have o2:=o.kb gI
   have hcap:=o2.cap
   have rE:=hcap.2
   simp only[maxLen] at rE
   have e1:((i:Int)+(1:Int))=((i+1:Nat):Int):=rfl
   refine aa ⟨_,(C.da gI).V.cell 0 rfl,aa ⟨_,_,_,(v.kb gI).cell 1 rfl,aG (by omega) (by omega),⟨by omega,by omega,by omega⟩,?_⟩⟩
   rw[e1]
   have r0:Row bp (rX h2.size) h2 (if oc=i+1 then ob else Option.map (fun q=>q.add ((i+1)*4)) ob) (mm.w.op.length - (i+1)) (oc - (i+1)) ((mm.w.op.take mm.w.op.length).drop (i+1)):=o2.row.sub (lo:=i+1) (hi:=mm.w.op.length) (by omega) (Nat.le_refl _) rfl
   rw[List.take_length] at r0
   have e2:Int.toNat (mm.w.op.length:Int) - Int.toNat ((i+1:Nat):Int)=mm.w.op.length - (i+1):=rfl
   have e3:oc - Int.toNat ((i+1:Nat):Int)=oc - (i+1):=rfl
   have e4:Int.toNat ((i+1:Nat):Int)=i+1:=rfl
   rw[e2,e3,e4]
   have vQ:=r0.len
   refine⟨mm.w.op.length - (i+1)+1,?_⟩
   have key:∀N j h3,j+N=mm.w.op.length - (i+1)->KB h2 h3->((mm.w.op.drop (i+1)).take j).all pd=true->
     Tv.gJ (fun h=>K (.bool true) h) (fun h=>K (.bool true) h) (fun y4 h=>K (.bool y4) h) (N+1) (if oc=i+1 then ob else Option.map (fun q=>q.add ((i+1)*4)) ob) (mm.w.op.length - (i+1)) (oc - (i+1)) ((mm.w.op.length - (i+1):Nat):Int) (j:Int) h3:=by
    intro N
    induction N with
    | zero=>
     intro j h3 hj k3 bq
     unfold Tv.gJ LP Tv.ix
     refine bX (by omega) ?_
     have:=hk h3 k3
     rw[List.take_of_length_le (by omega)] at bq
     unfold eT at this
     rwa[show(i:Int).toNat=i from rfl,bq] at this
    | succ N ih=>
     intro j h3 hj k3 bq
     unfold Tv.gJ LP Tv.ix
     have fY:j<(mm.w.op.drop (i+1)).length:=by omega
     refine bQ (by omega) ((r0.kb k3).bn (i:=j) fY rfl fun q hA=>df hA fun ow=>af fun a6 h7 v6 k6 e6 s6=>aQ v6 (by show 4<=4;omega) fun h8 v8 k8 s8=>ib (m:=(mm.w.op.drop (i+1))[j]) v8 ?_)
     have OS:KB h3 h8:=KB.step k6 k8 (by omega)
     refine af fun pU dA np fX N4 Rn=>af (cs:=CE.map S) fun pV gX tN GB e15 Ep=>?_
     have hx:(mm.w.op.drop (i+1))[j] ∈ mm.w.op:=List.mem_of_mem_drop (List.getElem_mem fY)
     have SW:gN (0,0,[42],0):=⟨⟨by decide,by decide⟩,⟨by decide,by decide⟩,by decide,⟨by decide,by decide⟩⟩
     have r2:Row bp (rX gX.size) gX (some pU) 2 2 [(0,0,[42],0),(mm.w.op.drop (i+1))[j]]:=
      Row.of (xs:=aX (0,0,[42],0)++aX (mm.w.op.drop (i+1))[j]) ⟨aX (0,0,[42],0),_,rfl,SW.r,aX (mm.w.op.drop (i+1))[j],[],by simp,ow.r,rfl⟩ (fun jj x hx=>⟨pU,rfl,(np.kb GB).cell jj hx⟩) rfl (Nat.le_refl _) (by decide) fun x e=>by cases e;exact(np.kb GB).lt
     have Fk:=(OS.trans fX).trans GB
     refine nF (sc:=0) (C.L.ml.kb (gI.trans (k3.trans Fk))) (fun k hk=>hk) r2 (fun x Er=>?_) (iN (ws:=CE) tN (by decide) (by decide)) fun gO Rm=>ag (aR (fun hb=>⟨aG (by omega) (by omega),ih (j+1) gO (by omega) ((k3.trans Fk).trans Rm) ?_⟩) fun hb=>?_)
     ·rcases List.mem_cons.1 Er with e | e
      ·rw[e];decide
      ·rw[List.mem_singleton.1 e];exact C.WS _ hx
     ·rw[List.take_add_one,List.getElem?_eq_getElem fY,List.all_append,bq]
      show(true&& [_].all pd)=true
      rw[List.all_cons,List.all_nil,Bool.and_true]
      exact hb
     ·have:=hk gO ((k3.trans Fk).trans Rm)
      have dk:eT (mm.w.op.drop (i+1))=false:=by
       unfold eT
       rw[Bool.eq_false_iff]
       intro hh
       have h2:=List.all_eq_true.1 hh _ (List.getElem_mem fY)
       have hb:pd (mm.w.op.drop (i+1))[j]=false:=hb
       rw[hb] at h2;cases h2
      rwa[show(i:Int).toNat=i from rfl,dk] at this
   exact key (mm.w.op.length - (i+1)) 0 h2 (by omega) (KB.refl _) rfl
theorem Ii (C:CP h col a w mm u v x) (hu:u<=880000) (hk:kD h col a w K {mm with w:=gP mm.w mm.fm,fm:= -1} u v x):zC 95 [.pointer (some a)] h K:=by
 unfold gP at hk
 refine Xbq.ok _ _ _ (aa ⟨_,C.V.cell 3 rfl,aa (C.Fl (mm2:={mm with fm:= -1}) rfl rfl (by decide) fun h1 C1 E1=>?_)⟩)
 refine bh (fun e=>Tu C1 (by omega) fun h2 k2=>ag (aR (fun e2=>aF ?_) fun e2=>aE ?_)) fun e=>aE ?_
 ·have e2:qO mm.w mm.fm=true:=e2
  rw[if_pos ⟨e,e2⟩] at hk
  refine j8 (C1.da k2) [] fun h3 c3 C3 E3=>aa ⟨_,C3.V.cell 0 rfl,?_⟩
  have jZ:=C3.s.A.D.lo
  exact lI C3.p (by omega) fun h4 c4 p4 E4 _=>hk h4 c4 (C3.pa p4 E4.pa (C3.s.drop _)) (E1.trans ((al.kb k2).trans (E3.trans E4.pa.px)))
 ·have e2:qO mm.w mm.fm=false:=e2
  rw[if_neg (by rw[e2];exact fun h=>by cases h.2)] at hk
  exact hk h2 col (C1.da k2) (E1.trans (.kb k2))
 ·rw[if_neg (fun h=>e h.1)] at hk
  exact hk h1 col C1 E1
theorem wN (C:CP h col a w mm u v x) (T:fj h col t b n c) (hk:kD h col a w K {mm with w:=dF mm.w 0 [] [t.2.1]} u v x):zC 94 [.pointer (some a),.agg ⟨aT (bP t b n c)⟩] h K:=by
 unfold dF at hk
 refine Xbp.ok _ _ _ _ (T.new C.f fun a1 h1 l1 k1 _=>⟨_,l1.nm,eN T.s.1 fun a2 h2 r2 k2=>AD ((C.da k1).da k2) r2 0 fun h3 k3=>?_⟩)
 have C3:=((C.da k1).da k2).da k3
 have l3:=(l1.kb k2).kb k3
 have ni:al PX h col h3 col:=.kb (k1.trans (k2.trans k3))
 refine ag (aR (fun e=>?_) fun e=>?_)
 ·have e:lg mm.w.op 0 [t.2.1]=true:=e
  rw[if_pos e] at hk
  exact j8 C3 [] fun h4 c4 C4 E4=>⟨_,(l3.ext E4).nm,eN T.s.1 fun a5 h5 r5 k5=>OT (C4.da k5) r5 fun h6 c6 C6 E6=>hk h6 c6 C6 (ni.trans (E4.trans ((al.kb k5).trans E6)))⟩
 ·have e:lg mm.w.op 0 [t.2.1]=false:=e
  rw[if_neg (by rw[e];decide)] at hk
  exact hk h3 col C3 ni
theorem Tw (C:CP h col a w mm u v x) (hu:u<=880000) (hk:kD h col a w K {mm with w:=uA mm.w} (u+1) v x):zC 96 [.pointer (some a)] h K:=by
 unfold uA at hk
 refine Xbu.ok _ _ _ (eN (by decide) fun a1 h1 r1 k1=>AD (C.da k1) r1 2 fun h2 k2=>ag (aR (fun e=>?_) fun e=>?_))
 ·have e:lg mm.w.op 2 wP=true:=e
  rw[if_pos e] at hk
  exact mH ((C.da k1).da k2) fun h3 c3 C3 E3=>hk h3 c3 (C3.mono (Nat.le_succ _)) ((al.kb (k1.trans k2)).trans E3)
 ·have e:lg mm.w.op 2 wP=false:=e
  rw[if_neg (by rw[e];decide)] at hk
  exact gh ((C.da k1).da k2) (by omega) (fj.nil h2 col zf (nm:=[112]) (by decide)) fun h3 c3 C3 E3=>mH C3 fun h4 c4 C4 E4=>hk h4 c4 C4 ((al.kb (k1.trans k2)).trans (E3.trans E4))
theorem Ij (C:CP h col a w mm u v x) (T:fj h col t b n c) (hk:kD h col a w K {mm with w:=dF mm.w (if t.2.1=[108,105] then 1 else 0) t.2.1 [t.2.1]} u v x):zC 97 [.pointer (some a),.agg ⟨aT (bP t b n c)⟩] h K:=by
 obtain⟨sc,hsc⟩:∃sc:Int,(if t.2.1=[108,105] then 1 else 0)=sc:=⟨_,rfl⟩
 rw[hsc] at hk
 unfold dF at hk
 refine Xbs.ok _ _ _ _ (T.new C.f fun a1 h1 l1 k1 _=>?_)
 have rest:∃s1,cell h1 (a1.add 1)=some (S s1)/\(aw h1 #[S s1] 9 fun a2 h3=>zC 149 [.pointer (some a),.int .u8 sc,.slice (some a2) 1 1] h3 fun v4 h5=>au v4 fun b6=>cond b6 (∃s7,cell h5 (a1.add 1)=some (S s7)/\(zC 150 [.pointer (some a),S s7] h5 fun v8 h9=>∃pv,cell h9 (a1.add 1)=some (S pv)/\(aw h9 #[S pv] 9 fun lk eM=>zC 151 [.pointer (some a),.slice (some lk) 1 1] eM fun np dA=>K (.tuple ⟨[]⟩) dA))) (K (.tuple ⟨[]⟩) h5)):=by
  refine⟨_,l1.nm,eN T.s.1 fun a2 h2 r2 k2=>AD ((C.da k1).da k2) r2 sc fun h3 k3=>?_⟩
  have C3:=((C.da k1).da k2).da k3
  have l3:=(l1.kb k2).kb k3
  have ni:al PX h col h3 col:=.kb (k1.trans (k2.trans k3))
  refine ag (aR (fun e=>?_) fun e=>?_)
  ·have e:lg mm.w.op sc [t.2.1]=true:=e
   rw[if_pos e] at hk
   exact⟨_,l3.nm,j8 C3 t.2.1 fun h4 c4 C4 E4=>⟨_,(l3.ext E4).nm,eN T.s.1 fun a5 h5 r5 k5=>OT (C4.da k5) r5 fun h6 c6 C6 E6=>hk h6 c6 C6 (ni.trans (E4.trans ((al.kb k5).trans E6)))⟩⟩
  ·have e:lg mm.w.op sc [t.2.1]=false:=e
   rw[if_neg (by rw[e];decide)] at hk
   exact hk h3 col C3 ni
 refine⟨_,l1.nm,bh (fun e=>?_) fun e=>?_⟩
 ·rw[show sc=1 by rw[<-hsc,if_pos e]] at rest;exact rest
 ·rw[show sc=0 by rw[<-hsc,if_neg e]] at rest;exact rest
theorem Ik (C:CP h col a w mm u v x) (hk:kD h col a w K {mm with w:=dF mm.w 0 [] yw} u v x):zC 98 [.pointer (some a)] h K:=by
 unfold dF at hk
 refine Xbr.ok _ _ _ (AH fun a2 h2 r2 k2=>aC (AD (C.da k2) r2 0 fun h3 k3=>?_))
 have C3:=(C.da k2).da k3
 have ni:al PX h col h3 col:=.kb (k2.trans k3)
 refine ag (aR (fun e=>?_) fun e=>?_)
 ·have e:lg mm.w.op 0 yw=true:=e
  rw[if_pos e] at hk
  exact j8 C3 [] fun h4 c4 C4 E4=>AH fun a5 h5 r5 k5=>aC (OT (C4.da k5) r5 fun h6 c6 C6 E6=>hk h6 c6 C6 (ni.trans (E4.trans ((al.kb k5).trans E6))))
 ·have e:lg mm.w.op 0 yw=false:=e
  rw[if_neg (by rw[e];decide)] at hk
  exact hk h3 col C3 ni
theorem CF (C:CP h col a w mm u v x) (hv:v<=10000) (T:fj h col t b n c) (hk:kD h col a w K {mm with w:=lE mm.w t.2.1} u v x):zC 99 [.pointer (some a),.agg ⟨aT (bP t b n c)⟩] h K:=by
 unfold lE at hk
 refine Xbt.ok _ _ _ _ (T.new C.f fun a1 h1 l1 k1 _=>⟨_,l1.nm,eN T.s.1 fun a2 h2 r2 k2=>AD ((C.da k1).da k2) r2 0 fun h3 k3=>?_⟩)
 have C3:=((C.da k1).da k2).da k3
 have l3:=(l1.kb k2).kb k3
 have ni:al PX h col h3 col:=.kb (k1.trans (k2.trans k3))
 refine ag (aR (fun e=>aF ?_) fun e=>aE ?_)
 ·have e:lg mm.w.op 0 [t.2.1]=true:=e
  rw[if_pos e] at hk
  refine l3.ld (wN C3 l3.T fun h4 c4 C4 E4=>?_)
  have ei:dF mm.w 0 [] [t.2.1]=wv mm.w [] [t.2.1]:=by unfold dF;rw[if_pos e]
  obtain⟨tr,ct,T4,W4⟩:=C4.p.ex
  obtain⟨ob,oc,mb,mn,mc,vw,o,om⟩:=W4.ex
  have jn:=C4.s.A.D.ml
  have hl:=om.len
  obtain⟨xs,he,hc,_⟩:=om.parts
  refine aa ⟨_,C4.V.cell 0 rfl,aa ⟨_,C4.V.cell 0 rfl,aa ⟨_,_,_,vw.cell 2 rfl,CH (fun k hk=>hk.2) om.row (fun k hk=>hk) he hc om.nil (by omega) fun b5 n5 c5 h5 o5 k5=>aC ⟨k5.ext,aa (dZ W4 C4.f k5 o5 fun h6 W6 E6 f6 _=>?_)⟩⟩⟩⟩
  have E6a:al PA h4 c4 h6 _:=E6.mono fun s hs=>.inl (.inr hs)
  have s6:=C4.s.clear
  have p6:PW h6 (cw c4 h4 b5 (2,2)) w {dF mm.w 0 [] [t.2.1] with aD:=lV (dF mm.w 0 [] [t.2.1]).aD}:=⟨tr,ct,T4.cJ (S:=fun k=>k=2) (by decide) E6 f6,W6⟩
  have C6:=C4.pa p6 E6a s6
  have em:(wv mm.w [] [t.2.1]).aD=mm.w.aD:=by
   unfold wv upW wJ cX;rfl
  rw[ei,em] at C6
  exact hk h6 _ C6 (ni.trans (E4.trans E6a.px))
 ·have e:lg mm.w.op 0 [t.2.1]=false:=e
  rw[if_neg (by rw[e];decide)] at hk
  exact hk h3 col C3 ni
end
section
variable {h:H} {K:KV} {col:cd} {w:Addr} {m:WM}
theorem CJ (p:PW h col w m) (G:aV m.ns) (bI:0<m.op.length) (eH:m.op.length<1000000) (AA:m.ns.length<1000000) {tx:Bs} (Fh:tx.length<=maxLen)
  (hk:∀h' col',PW h' col' w (uF m tx)->al PS h col h' col'->K (.tuple ⟨[]⟩) h'):
  zC 41 [.pointer (some w),S tx] h K:=by
 obtain⟨t,ct,T,W⟩:=p.ex
 refine Xdd.ok _ _ _ _ ?_
 refine eO W bI (by omega) fun h2 k2=>?_
 refine jx (x:=dR m.op) ?_
 refine lJ (x:=dR m.op) (T.kb k2) (W.kb k2) (by omega) fun h3 k3=>lG ?_
 have fX:=k2.trans k3
 obtain⟨ob,oc,mb,mn,mc,vw,ow,X0⟩:=(W.kb fX).ex
 have G4:aV (bF m.ns (bG 3 0 [] [] tx)).1:=G.bF _ _ _ _ _
 have tail:∀h4 c4 sH,bz h4 c4 0 t sH (bF m.ns (bG 3 0 [] [] tx)).1->Ext 0 h3 col h4 c4->zC 65 [.pointer (some t),.int .i64 (cv m.ns m.op m.fo (dR m.op)).1,.int .i64 (cv m.ns m.op m.fo (dR m.op)).2,.int .i64 (bF m.ns (bG 3 0 [] [] tx)).2] h4 fun v40 yG=>au v40 fun X1=>cond X1 (K (.tuple ⟨[]⟩) yG) (K (.tuple ⟨[]⟩) yG):=fun h4 c4 sH T4 E4=>by
  refine qf T4 G4 fun h5 c5 T5 E5=>ag ?_
  have CC:al (fun s=>s=0) h3 col h4 c4:=E4.p rfl
  have Km:al (fun s=>s=0) h4 c4 h5 c5:=E5.p rfl
  have W5:=((W.kb fX).ext CC (by decide)).ext Km (by decide)
  have fin:K (.tuple ⟨[]⟩) h5:=hk h5 c5 ⟨t,sH,T5,W5⟩ ((al.kb fX).trans ((CC.trans Km).mono fun s hs=>.inl hs))
  exact dm (K:=fun _=>K (.tuple ⟨[]⟩) h5) fin
 refine⟨aa (aa ⟨_,vw.cell 0 rfl,kE (T.kb fX) (sF (A:=fun _=>True)) (fun _=>rfl) (by decide) ⟨by decide,by decide⟩ ⟨by decide,by decide⟩ (by decide) Fh AA fun h4 c4 sH T4 E4=>aN ?_⟩),
  aa ⟨_,vw.cell 0 rfl,aa ⟨_,vw.cell 0 rfl,kE (T.kb fX) (sF (A:=fun _=>True)) (fun _=>rfl) (by decide) ⟨by decide,by decide⟩ ⟨by decide,by decide⟩ (by decide) Fh AA fun h4 c4 sH T4 E4=>aN (tail h4 c4 sH T4 E4)⟩⟩⟩
 obtain⟨OL,OM,Tm,Kj,Kk,yD,_,_⟩:=((W.kb fX).ext (S:=fun s=>s=0) (E4.p rfl) (by decide)).ex
 exact⟨_,yD.cell 0 rfl,tail h4 c4 sH T4 E4⟩
end
theorem cE {s w:Bs} (h:¬s=w):s ∉ [w]:=fun hm=>h (List.mem_singleton.1 hm)
section
variable {B:Nat->Prop} {h:H} {K:KV} {col:cd} {a w:Addr} {mm:MM} {u v x:Nat} {t:bJ} {b:OA} {n c:Nat} {ns:List Bs} {s:Bs}
theorem OU (C:CP h col a w mm u v x) (hu:u<=700000) (hv:v<=10000) (T:fj h col t b n c) (hk:kD h col a w K (ga mm t) (u+2*v+40) (v+1) x):zC 42 [.pointer (some a),.agg ⟨aT (bP t b n c)⟩] h K:=by
 refine Xcn.ok _ _ _ _ (T.new C.f fun a1 h1 l1 k1 _=>⟨_,l1.nm,?_⟩)
 have C1:=C.da k1
 have fin:∀{k:Nat} (ek:oF t.2.1=k) {mm2:MM} {u2 v2:Nat} h2 c2,wq mm t k=mm2->CP h2 c2 a w mm2 u2 v2 x->u2<=u+2*v+40->v2<=v+1->al PX h1 col h2 c2->K (.tuple ⟨[]⟩) h2:=fun {k} ek {mm2 u2 v2} h2 c2 em C2 h1 ve E2=>by
  unfold ga at hk
  rw[ek,em] at hk
  exact hk h2 c2 (C2.se h1 ve) ((al.kb k1).trans E2)
 refine jg (fun hm=>aF (fin (aM 0 (by decide) hm) h1 col rfl C1 (by omega) (by omega) (.refl _ _ _))) fun n1=>aE ?_
 refine jg (fun hm=>aF (l1.ld (AG C1 (by omega) l1.T fun h2 c2 C2 E2=>fin (aM 1 (by decide) hm) h2 c2 rfl C2 (by omega) (by omega) E2))) fun n2=>aE ?_
 refine bh (fun e=>aF (l1.ld (Kv C1 (by omega) l1.T fun h2 c2 C2 E2=>fin (aM 2 (by decide) (by rw[e];decide)) h2 c2 rfl C2 (by omega) (by omega) E2))) fun n3=>aE ?_
 refine jg (fun hm=>aF (l1.ld (RI C1 (by omega) l1.T fun h2 c2 C2 E2=>fin (aM 3 (by decide) hm) h2 c2 rfl C2 (by omega) (by omega) E2))) fun n4=>aE ?_
 refine bh (fun e=>aF (l1.ld (Kw C1 (by omega) l1.T fun h2 c2 C2 E2=>fin (aM 4 (by decide) (by rw[e];decide)) h2 c2 rfl C2 (by omega) (by omega) E2))) fun n5=>aE ?_
 refine jg (fun hm=>aF (l1.ld (nE C1 (by omega) l1.T fun h2 c2 C2 E2=>fin (aM 5 (by decide) hm) h2 c2 rfl C2 (by omega) (by omega) E2))) fun n6=>aE ?_
 refine jg (fun hm=>aF (l1.ld (Tx C1 (by omega) l1.T fun h2 c2 C2 E2=>fin (aM 6 (by decide) hm) h2 c2 rfl C2 (by omega) (by omega) E2))) fun n7=>aE ?_
 refine jg (fun hm=>aF (l1.ld (X5 C1 (by omega) l1.T fun h2 c2 C2 E2=>fin (aM 7 (by decide) hm) h2 c2 rfl C2 (by omega) (by omega) E2))) fun n8=>aE ?_
 refine bh (fun e=>aF (l1.ld (Ty C1 (by omega) l1.T fun h2 c2 C2 E2=>fin (aM 8 (by decide) (by rw[e];decide)) h2 c2 rfl C2 (by omega) (by omega) E2))) fun n9=>aE ?_
 refine bh (fun e=>aF (l1.ld (adD C1 (by omega) l1.T fun h2 c2 C2 E2=>fin (aM 9 (by decide) (by rw[e];decide)) h2 c2 rfl C2 (by omega) (by omega) E2))) fun sg=>aE ?_
 refine jg (fun hm=>aF (l1.ld (adE C1 (by omega) l1.T fun h2 c2 C2 E2=>fin (aM 10 (by decide) hm) h2 c2 rfl C2 (by omega) (by omega) E2))) fun Ao=>aE ?_
 refine bh (fun e=>aF (l1.ld (CK C1 (by omega) l1.T fun h2 c2 C2 E2=>fin (aM 11 (by decide) (by rw[e];decide)) h2 c2 rfl C2 (by omega) (by omega) E2))) fun uy=>aE ?_
 refine bh (fun e=>aF (l1.ld (Ks C1 (by omega) hv l1.T fun h2 c2 C2 E2=>fin (aM 12 (by decide) (by rw[e];decide)) h2 c2 rfl C2 (by omega) (by omega) E2))) fun JR=>aE ?_
 refine bh (fun e=>aF (l1.ld (Ts C1 hu hv l1.T fun h2 c2 C2 E2=>fin (aM 13 (by decide) (by rw[e];decide)) h2 c2 rfl C2 (by omega) (by omega) E2))) fun Ju=>aE ?_
 refine bh (fun e=>aF (l1.ld (Tq C1 hu hv l1.T fun h2 c2 C2 E2=>fin (aM 14 (by decide) (by rw[e];decide)) h2 c2 rfl C2 (by omega) (by omega) E2))) fun n15=>aE ?_
 refine jg (fun hm=>aF (l1.ld (Kp C1 (by omega) hv l1.T fun h2 c2 C2 E2=>fin (aM 15 (by decide) hm) h2 c2 rfl C2 (by omega) (by omega) E2))) fun n16=>aE ?_
 refine bh (fun e=>aF (l1.ld (OV C1 (by omega) l1.T fun h2 c2 C2 E2=>fin (aM 16 (by decide) (by rw[e];decide)) h2 c2 rfl C2 (by omega) (by omega) E2))) fun n17=>aE ?_
 refine jg (fun hm=>aF (l1.ld (AF C1 (by omega) hv l1.T fun h2 c2 C2 E2=>fin (aM 17 (by decide) hm) h2 c2 rfl C2 (by omega) (by omega) E2))) fun n18=>aE ?_
 refine bh (fun e=>aF (l1.ld (OQ C1 (by omega) hv l1.T fun h2 c2 C2 E2=>fin (aM 18 (by decide) (by rw[e];decide)) h2 c2 rfl C2 (by omega) (by omega) E2))) fun n19=>aE ?_
 refine bh (fun e=>aF (l1.ld (adF C1 (by omega) l1.T fun h2 c2 C2 E2=>fin (aM 19 (by decide) (by rw[e];decide)) h2 c2 rfl C2 (by omega) (by omega) E2))) fun n20=>aE ?_
 refine bh (fun e=>aF (l1.ld (Fm C1 (by omega) l1.T fun h2 c2 C2 E2=>fin (aM 20 (by decide) (by rw[e];decide)) h2 c2 rfl C2 (by omega) (by omega) E2))) fun n21=>aE ?_
 refine bh (fun e=>aF (l1.ld (X3 C1 (by omega) hv l1.T fun h2 c2 C2 E2=>fin (aM 21 (by decide) (by rw[e];decide)) h2 c2 rfl C2 (by omega) (by omega) E2))) fun n22=>aE ?_
 refine jg (fun hm=>aF (l1.ld (Ku C1 (by omega) hv l1.T fun h2 c2 C2 E2=>fin (aM 22 (by decide) hm) h2 c2 rfl C2 (by omega) (by omega) E2))) fun n23=>aE ?_
 refine jg (fun hm=>aF (l1.ld (Tr C1 (by omega) l1.T fun h2 c2 C2 E2=>fin (aM 23 (by decide) hm) h2 c2 rfl C2 (by omega) (by omega) E2))) fun n24=>aE ?_
 refine jg (fun hm=>aF (l1.ld (OR C1 (by omega) hv l1.T fun h2 c2 C2 E2=>fin (aM 24 (by decide) hm) h2 c2 rfl C2 (by omega) (by omega) E2))) fun n25=>aE ?_
 have ea:oF t.2.1=0:=GF n1 n2 (cE n3) n4 (cE n5) n6 n7 n8 (cE n9) (cE sg) Ao (cE uy) (cE JR) (cE Ju) (cE n15) n16 (cE n17) n18 (cE n19) (cE n20) (cE n21) (cE n22) n23 n24 n25
 refine⟨_,l1.nm,mJ C1.L.ml (by have:=T.s.1;omega) (ag (aR (fun e=>?_) fun e=>?_))⟩
 ·exact l1.ld (pt C1 (by omega) hv l1.T fun h2 c2 C2 E2=>fin ea h2 c2 (by show lU mm t=_;unfold lU;rw[if_pos e]) C2 (by omega) (by omega) E2)
 ·exact l1.ld (qe C1 (by omega) hv l1.T fun h2 c2 C2 E2=>fin ea h2 c2 (by show lU mm t=_;unfold lU;rw[if_neg (by rw[e];decide)]) C2 (by omega) (by omega) E2)
theorem X6 (C:CP h col a w mm u v x) (hu:u<=700000) (hv:v<=10000) (T:fj h col t b n c) (hk:kD h col a w K (H6 mm t.2.1) (u+2*v+40) (v+1) x):zC 43 [.pointer (some a),.agg ⟨aT (bP t b n c)⟩] h K:=by
 refine Xbo.ok _ _ _ _ (T.new C.f fun a1 h1 l1 k1 _=>⟨_,l1.nm,?_⟩)
 have C1:=C.da k1
 have T1:=fj.nil h1 col zf (nm:=[98,114]) (by decide)
 have fin:∀{k:Nat} (ek:my t.2.1=k) {w2:WM} {f2:Int} {u2 v2:Nat} h2 c2,EN mm.w t.2.1 mm.fm k=w2->(if k=3 then -1 else mm.fm)=f2->CP h2 c2 a w {mm with w:=w2,fm:=f2} u2 v2 x->u2<=u+2*v+40->v2<=v+1->al PX h1 col h2 c2->K (.tuple ⟨[]⟩) h2:=fun {k} ek {w2 f2 u2 v2} h2 c2 em ef C2 h1 ve E2=>by
  unfold H6 at hk
  rw[ek,em,ef] at hk
  exact hk h2 c2 (C2.se h1 ve) ((al.kb k1).trans E2)
 refine jg (fun hm=>aF (fin (bK 0 (by decide) hm) h1 col rfl (if_neg (by decide)) C1 (by omega) (by omega) (.refl _ _ _))) fun n1=>aE ?_
 refine jg (fun hm=>aF (l1.ld (wN C1 l1.T fun h2 c2 C2 E2=>fin (bK 1 (by decide) hm) h2 c2 rfl (if_neg (by decide)) C2 (by omega) (by omega) E2))) fun n2=>aE ?_
 refine bh (fun e=>aF (Ii C1 (by omega) fun h2 c2 C2 E2=>fin (bK 2 (by decide) (by rw[e];decide)) h2 c2 rfl (if_pos (by decide)) C2 (by omega) (by omega) E2)) fun n3=>aE ?_
 refine bh (fun e=>aF (Tw C1 (by omega) fun h2 c2 C2 E2=>fin (bK 3 (by decide) (by rw[e];decide)) h2 c2 rfl (if_neg (by decide)) C2 (by omega) (by omega) E2)) fun n4=>aE ?_
 refine jg (fun hm=>aF (l1.ld (Ij C1 l1.T fun h2 c2 C2 E2=>fin (bK 4 (by decide) hm) h2 c2 rfl (if_neg (by decide)) C2 (by omega) (by omega) E2))) fun n5=>aE ?_
 refine jg (fun hm=>aF (Ik C1 fun h2 c2 C2 E2=>fin (bK 5 (by decide) hm) h2 c2 rfl (if_neg (by decide)) C2 (by omega) (by omega) E2)) fun n6=>aE ?_
 refine jg (fun hm=>aF (l1.ld (CF C1 hv l1.T fun h2 c2 C2 E2=>fin (bK 6 (by decide) hm) h2 c2 rfl (if_neg (by decide)) C2 (by omega) (by omega) E2))) fun n7=>aE ?_
 refine bh (fun e=>aF (AF (t:=sm 0 [98,114]) (b:=none) (n:=0) (c:=0) C1 (by omega) hv T1 fun h2 c2 C2 E2=>fin (bK 7 (by decide) (by rw[e];decide)) h2 c2 rfl (if_neg (by decide)) C2 (by omega) (by omega) E2)) fun n8=>aE ?_
 have ea:my t.2.1=0:=GH n1 n2 (cE n3) (cE n4) n5 n6 n7 (cE n8)
 refine⟨_,l1.nm,mJ C1.L.ml (by have:=T.s.1;omega) (ag (aR (fun e=>?_) fun e=>?_))⟩
 ·exact l1.ld (AE C1 (by omega) hv l1.T fun h2 c2 C2 E2=>fin ea h2 c2 (by show(if dS t.2.1=true then bV mm.w t.2.1 else fq mm.w t.2.1)=_;rw[if_pos e]) (if_neg (by decide)) C2 (by omega) (by omega) E2)
 ·have jZ:=C1.s.A.D.lo
  exact aa ⟨_,C1.V.cell 0 rfl,_,l1.nm,qW C1.L C1.p (by omega) (fun y hy=>by have:=C1.s.A.yC y hy;omega) fun h3 c3 p3 E3=>fin ea h3 c3 (by show(if dS t.2.1=true then bV mm.w t.2.1 else fq mm.w t.2.1)=_;rw[if_neg (by rw[e];decide)]) (if_neg (by decide)) (C1.pa p3 E3.pa (C1.s.close _)) (by omega) (by omega) E3.pa.px⟩
theorem CG.nh {Wp:H->cd->Addr->WM->Prop} {ty z:Nat} (C:CG Wp ty z h col a w mm u v x) (hx:x<=100000000) {tx:Bs} (ht:tx.length<=4000):∀(i:Nat) y,mm.w.ns[i]? =some y->y.text.length+tx.length<=9223372036854775807:=fun i y hy=>by
 have:=C.s.A.D.tx i y hy
 omega
theorem GW (C:CP h col a w mm u v x) (hu:u<=890000) (hx:x<=100000000) (hs:s.length<=4000) (hk:kD h col a w K {mm with w:=gb mm.w s} (u+1) v (x+4000)):zC 36 [.pointer (some w),S s] h K:=by
 have jZ:=C.s.A.D.lo
 have rB:=C.s.A.D.ln
 exact AJ C.p C.s.A.D.G C.s.A.D.ne (by omega) (by omega) (C.nh hx hs) (by simp only[maxLen];omega) fun h2 c2 p2 E2=>hk h2 c2 (C.pa p2 E2.pa (C.s.write hs)) E2.pa.px
theorem Tz (C:CP h col a w mm u v x) (hu:u<=700000) (hv:v<=10000) (hx:x<=100000000) (T:fj h col t b n c) (hk:kD h col a w K (sr mm t) (u+2*v+40) (v+1) (x+4000)):zC 21 [.pointer (some a),.agg ⟨aT (bP t b n c)⟩] h K:=by
 unfold sr at hk
 refine Xbg.ok _ _ _ _ (T.new C.f fun a1 h1 l1 k1 _=>⟨_,l1.V.cell 0 rfl,?_⟩)
 have C1:=C.da k1
 refine bh (fun e=>aF ?_) fun e=>aE (bh (fun e2=>aF ?_) fun e2=>aE (bh (fun e3=>?_) fun e3=>bh (fun e4=>?_) fun e4=>?_))
 ·have e:t.1=1:=e
  rw[if_pos e] at hk
  exact aa ⟨_,C1.V.cell 0 rfl,zq C1 (by omega) hv fun h2 c2 C2 E2=>aa ⟨_,C2.V.cell 0 rfl,_,(l1.ext E2).V.cell 4 rfl,GW C2 (by omega) hx T.s.2.2.2 fun h3 c3 C3 E3=>hk h3 c3 (C3.se (by omega) (by omega)) ((al.kb k1).trans (E2.trans E3))⟩⟩
 ·have e:¬t.1=1:=e
  have e2:t.1=4:=e2
  rw[if_neg e,if_pos e2] at hk
  have jZ:=C1.s.A.D.lo
  have rB:=C1.s.A.D.ln
  have ht:=T.s.2.2.2
  exact aa ⟨_,C1.V.cell 0 rfl,_,l1.V.cell 4 rfl,CJ C1.p C1.s.A.D.G C1.s.A.D.ne (by omega) (by omega) (by show t.2.2.2.2.length<=_;simp only[maxLen];omega) fun h2 c2 p2 E2=>hk h2 c2 ((C1.pa p2 E2.pa (C1.s.note ht)).se (by omega) (by omega)) ((al.kb k1).trans E2.pa.px)⟩
 ·have e:¬t.1=1:=e
  have e2:¬t.1=4:=e2
  have e3:t.1=2:=e3
  rw[if_neg e,if_neg e2,if_pos e3] at hk
  exact l1.ld (OU C1 hu hv l1.T fun h2 c2 C2 E2=>hk h2 c2 (C2.ph (Nat.le_refl _) (Nat.le_refl _) (by omega)) ((al.kb k1).trans E2))
 ·have e:¬t.1=1:=e
  have e2:¬t.1=4:=e2
  have e3:¬t.1=2:=e3
  have e4:t.1=3:=e4
  rw[if_neg e,if_neg e2,if_neg e3,if_pos e4] at hk
  exact l1.ld (X6 C1 hu hv l1.T fun h2 c2 C2 E2=>hk h2 c2 (C2.ph (Nat.le_refl _) (Nat.le_refl _) (by omega)) ((al.kb k1).trans E2))
 ·have e:¬t.1=1:=e
  have e2:¬t.1=4:=e2
  have e3:¬t.1=2:=e3
  have e4:¬t.1=3:=e4
  rw[if_neg e,if_neg e2,if_neg e3,if_neg e4] at hk
  exact hk h1 col (C1.ph (by omega) (by omega) (by omega)) (.kb k1)
theorem TA (C:CP h col a w mm u v x) (hu:u<=800000) (hx:x<=100000000) (T:fj h col t b n c) (hk:kD h col a w K (su mm t) (u+1) v (x+4000)):zC 19 [.pointer (some a),.agg ⟨aT (bP t b n c)⟩] h K:=by
 unfold su at hk
 refine Xcv.ok _ _ _ _ (T.new C.f fun a1 h1 l1 k1 _=>⟨_,l1.V.cell 0 rfl,?_⟩)
 have C1:=C.da k1
 refine bh (fun e=>?_) fun e=>?_
 ·have e:t.1=1:=e
  rw[if_pos e] at hk
  exact aa ⟨_,C1.V.cell 0 rfl,_,l1.V.cell 4 rfl,GW C1 (by omega) hx T.s.2.2.2 fun h3 c3 C3 E3=>hk h3 c3 C3 ((al.kb k1).trans E3)⟩
 ·have e:¬t.1=1:=e
  rw[if_neg e] at hk
  exact CD C1 (by omega) fun h2 c2 C2 E2=>aa ⟨_,C2.V.cell 2 rfl,aa (C2.Fl (mm2:={mm with w:=sv mm.w,mode:=mm.back}) rfl rfl (by decide) fun h3 C3 E3=>aa (C3.Fl (mm2:={mm with w:=sv mm.w,mode:=mm.back,read:=0}) rfl rfl (by decide) fun h4 C4 E4=>aa (C4.Fl (mm2:={mm with w:=sv mm.w,mode:=mm.back,read:=0,nm:=[]}) rfl rfl (by decide) fun h5 C5 E5=>hk h5 _ (C5.ph (by omega) (Nat.le_refl _) (by omega)) ((al.kb k1).trans (E2.trans (E3.trans (E4.trans E5)))))))⟩
theorem X7 {h:H} {col:cd} {K:KV} (f:bj h col) (L:kt h col) (hk:∀a w h' c',CP h' c' a w JX 1 0 0->al PX h col h' c'->K (.pointer (some a)) h'):zC 14 [] h K:=by
 refine Xcs.ok _ _ (wO f fun w h1 c1 p1 E1=>cO (af fun a2 h2 v2 k2 e2 s2=>?_))
 have im:h1.size<=a2.block:=by omega
 have E2:al PX h1 c1 h2 (cp c1 a2.block (6,0)):=⟨k2.less fun k hk=>hk.1,fun k hk=>dG (by omega)⟩
 have f2:bj h2 (cp c1 a2.block (6,0)):=(p1.fresh.kb k2).cp v2.lt
 have p2:PW h2 (cp c1 a2.block (6,0)) w EP:=p1.ext (Z:=fun _=>False) ⟨k2.less fun k hk=>hk.1,fun k hk=>dG (by omega)⟩ id id f2
 exact hk a2 w h2 _ ⟨v2,gd,p2,f2,L.ext (E1.pa.px.trans E2),⟨AI.zero,MW.zero⟩⟩ (E1.pa.px.trans E2)
end
theorem sub_one (s:Bs):sub s (1:Int) (s.length:Int)=s.drop 1:=by
 unfold sub
 rw[show Int.toNat (1:Int)=1 from rfl,Int.toNat_natCast]
 exact List.take_of_length_le (by rw[List.length_drop];exact Nat.le_refl _)
abbrev jN (t:bJ):bJ:=(t.1,t.2.1,t.2.2.1,t.2.2.2.1,t.2.2.2.2.drop 1)
theorem wy {h:H} {a:Addr} {ty:Nat} {t:Tk} {K:Tk->Prop} (v:Var h a ty (aT t)) (hk:K t):bL h a K:=⟨_,v.cell 0 rfl,_,v.cell 1 rfl,_,_,_,v.cell 2 rfl,_,v.cell 3 rfl,_,v.cell 4 rfl,hk⟩
def S1 (g3 g4:Nat) (h h':H):Prop:=SK (fun k=>k≠g3/\k≠g4) h h'/\h'.size=h.size
section
variable {h h':H} {t:bJ} {b:OA} {n c:Nat} {x3 x4:Addr} {cs:List Value}
theorem GJ (v3:Var h x3 45 (aT (bP t b n c))) (v4:Var h x4 45 cs) (hcs:cs.length=5) (bI:x3.block≠x4.block) (hh:t.2.2.2.2.head? =some 10) {Kr:Addr->Bool->H->Prop}
  (hk:∀h5,Var h5 x4 45 (aT (bP (jN t) b n c))->S1 x3.block x4.block h h5->Kr x4 (!decide (t.2.2.2.2.drop 1=[])) h5):
  ∃s3,cell h (x3.add 4)=some (S s3)/\((0<=(1:Int)/\(1:Int)<=(s3.length:Int)/\(s3.length:Int)<=(s3.length:Int))/\(aZ (x3.add 4) [(S (sub s3 (1:Int) (s3.length:Int)))] 0 h fun h4=>(bL h4 x3 fun t5=>aZ x4 [.int .u8 t5.k,S t5.n,.slice t5.b t5.l t5.c,.bool t5.z,S t5.t] 0 h4 fun h6=>∃s7,cell h6 (x3.add 4)=some (S s7)/\(aO (s7=([]:List UInt8)) (Kr x4 false h6) (Kr x4 true h6)))/\((bL h4 x3 fun t8=>∃s9,cell h4 (x3.add 4)=some (S s9)/\(aZ x4 [.int .u8 t8.k,S t8.n,.slice t8.b t8.l t8.c,.bool t8.z,S t8.t] 0 h4 fun cS=>aO (s9=([]:List UInt8)) (Kr x4 false cS) (Kr x4 true cS)))/\(bL h4 x3 fun t11=>∃j9,cell h4 (x3.add 4)=some (S j9)/\(aO (j9=([]:List UInt8)) (aZ x4 [.int .u8 t11.k,S t11.n,.slice t11.b t11.l t11.c,.bool t11.z,S t11.t] 0 h4 fun fi=>Kr x4 false fi) (aZ x4 [.int .u8 t11.k,S t11.n,.slice t11.b t11.l t11.c,.bool t11.z,S t11.t] 0 h4 fun dA=>Kr x4 true dA)))))):=by
 have hl:1<=t.2.2.2.2.length:=by
  cases hq:t.2.2.2.2 with
  | nil=>rw[hq] at hh;cases hh
  | cons a l=>simp
 refine⟨t.2.2.2.2,v3.cell 4 rfl,⟨⟨by omega,by omega,by omega⟩,ck (m:=4) (i:=0) v3 (by show 4+0+1<=5;omega) fun h4 zt k4 s4=>?_⟩⟩
 have w3:Var h4 x3 45 (aT (bP (jN t) b n c)):=by rw[sub_one] at zt;exact zt
 have w4:Var h4 x4 45 cs:=v4.keep k4.w fun e=>bI e.symm
 have put:∀{Q:H->Prop},(∀h5,Var h5 x4 45 (aT (bP (jN t) b n c))->Var h5 x3 45 (aT (bP (jN t) b n c))->S1 x3.block x4.block h h5->Q h5)->aZ x4 (aT (bP (jN t) b n c)) 0 h4 Q:=fun {Q} hQ=>
  aQ w4 (by rw[hcs];exact Nat.le_refl _) fun h5 v5 k5 s5=>hQ h5 (by
   match cs,hcs,v5 with
   | [_,_,_,_,_],_,v5=>exact v5) (w3.keep k5.w fun e=>bI e) ⟨SK.trans (k4.less fun k hk=>hk.1) (k5.less fun k hk=>hk.2),by rw[s5,s4]⟩
 have yes:∀h5,Var h5 x4 45 (aT (bP (jN t) b n c))->S1 x3.block x4.block h h5->t.2.2.2.2.drop 1=[]->Kr x4 false h5:=fun h5 v5 k5 e=>by
  have:=hk h5 v5 k5
  rwa[decide_eq_true e] at this
 have no:∀h5,Var h5 x4 45 (aT (bP (jN t) b n c))->S1 x3.block x4.block h h5->¬t.2.2.2.2.drop 1=[]->Kr x4 true h5:=fun h5 v5 k5 e=>by
  have:=hk h5 v5 k5
  rwa[decide_eq_false e] at this
 refine⟨wy w3 (put fun h5 v5 v53 k5=>⟨_,v53.cell 4 rfl,bh (fun e=>yes h5 v5 k5 e) fun e=>no h5 v5 k5 e⟩),wy w3 ⟨_,w3.cell 4 rfl,put fun h5 v5 v53 k5=>bh (fun e=>yes h5 v5 k5 e) fun e=>no h5 v5 k5 e⟩,wy w3 ⟨_,w3.cell 4 rfl,bh (fun e=>put fun h5 v5 v53 k5=>yes h5 v5 k5 e) fun e=>put fun h5 v5 v53 k5=>no h5 v5 k5 e⟩⟩
end
section
variable {h h3 h4:H} {K:KV} {col:cd} {a w:Addr} {mm mmo:MM} {u v x:Nat} {t:bJ} {b:OA} {n c:Nat} {s:Bs} {Wp:H->cd->Addr->WM->Prop} {ty z g3 g4:Nat}
theorem CG.two (C0:CG Wp ty z h col a w mmo u v x) (hW:∀h',al (fun s=>s=z) h col h' col->bj h' col->Wp h' col w mm.w) (C:CG Wp ty z h3 col a w mm u v x) (E:al (fun s=>s=z) h col h3 col) (k:S1 g3 g4 h3 h4) (h1:h.size<=g3) (h2:h.size<=g4):CG Wp ty z h4 col a w mm u v x/\al (fun s=>s=z) h col h4 col:=by
 have E4:al (fun s=>s=z) h col h4 col:=⟨SK.trans E.sk (k.1.less fun q hq=>⟨by have:=hq.1;omega,by have:=hq.1;omega⟩),fun _ _=>rfl⟩
 have f4:bj h4 col:=fun q hq=>C.f q (by rw[<-k.2];exact hq)
 have hl:=C0.V.lt
 exact⟨⟨C.V.keep k.1.w ⟨by omega,by omega⟩,C.O,hW h4 E4 f4,f4,C0.L.ext E4,C.s⟩,E4⟩
theorem Il {p:Bs} (hk:K (.bool (p.isPrefixOf s)) h):zC 35 [S s,S p] h K:=
 tT (v:=.bool (p.isPrefixOf s)) (fun w _=>Tryz.strings_HasPrefix ⟨⟨s⟩⟩ ⟨⟨p⟩⟩ w) hk
theorem CL (s:Bs):([10]:Bs).isPrefixOf s=decide (s.head? =some 10):=by
 cases s with
 | nil=>rfl
 | cons a l=>
  show((10 == a)&&([]:Bs).isPrefixOf l)=decide (some a=some 10)
  rw[show([]:Bs).isPrefixOf l=true from rfl,Bool.and_true]
  by_cases h:a=10
  ·subst h;rfl
  ·rw[decide_eq_false (fun e=>h (Option.some.inj e))]
   exact beq_eq_false_iff_ne.2 fun e=>h e.symm
theorem Im (C:CP h col a w mm u v x) (T:fj h col t b n c) (hk:∀h' c',CP h' c' a w (B0 mm) u v x->al PX h col h' c'->K (.tuple ⟨[.agg ⟨aT (bP (B4 mm t) b n c)⟩,.bool (JY mm t)]⟩) h'):
  zC 16 [.pointer (some a),.agg ⟨aT (bP t b n c)⟩] h K:=by
 refine X8.ok _ _ _ _ (T.new C.f fun a1 h1 l1 k1 g1=>af fun a2 h2 v2 k2 e2 s2=>?_)
 have C2:=(C.da k1).da k2
 have z1:=k1.1
 have Ro:=l1.V.lt
 have bI:a1.block≠a2.block:=by omega
 have E2:al (fun s=>s=6) h col h2 col:=.kb (k1.trans k2)
 have ca1:col a1.block=none:=l1.O
 have ca2:col a2.block=none:=C.f _ (by omega)
 have hW:∀h',al (fun s=>s=6) h col h' col->bj h' col->PW h' col w mm.w:=fun h' E f=>C.p.ext E (by decide) (by decide) f
 obtain⟨KR,Rp⟩:∃KR:X8.T0,KR=fun y4 y5 h=>bL h y4 fun t28=>K (.tuple ⟨[.agg ⟨aT t28⟩,.bool y5]⟩) h:=⟨_,rfl⟩
 have main:∀sk:Bool,mm.skip=sk->∀h3,CP h3 col a w (B0 mm) u v x->al (fun s=>s=6) h2 col h3 col->X8.n4 a1 a2 sk KR KR h3:=fun sk hsk h3 C3 E3=>by
  have w1:Var h3 a1 45 (aT (bP t b n c)):=(l1.V.kb k2).keep E3.eS ⟨ca1,(l1.V.kb k2).lt⟩
  have w2:=v2.keep E3.eS ⟨ca2,v2.lt⟩
  have ni:=E2.trans E3
  have fin:∀h5 (t':bJ) (lf:Bool),S1 a1.block a2.block h3 h5->B4 mm t=t'->JY mm t=lf->Var h5 a2 45 (aT (bP t' b n c))->KR a2 lf h5:=fun h5 t' lf k5 et el v5=>by
   subst et;subst el
   obtain⟨C5,E5⟩:=CG.two (mm:=B0 mm) (mmo:=mm) C hW C3 ni k5 g1 (by omega)
   rw[Rp]
   exact wy v5 (hk h5 col C5 (E5.mono fun s hs=>.inr hs))
  have no:Rq mm t=false->X8.n5 a1 a2 KR KR h3:=fun e=>wy w1 (aQ w2 (by show 5<=5;omega) fun h5 v5 k5 s5=>fin h5 t true ⟨k5.less fun k hk=>hk.2,s5⟩ (by unfold B4;rw[if_neg (by rw[e];decide)]) (by unfold JY;rw[if_neg (by rw[e];decide)]) v5)
  have eB:Rq mm t=(sk&&(decide (t.1=1)&&decide (t.2.2.2.2.head? =some 10))):=by rw[<-hsk];rfl
  refine aR (fun es=>⟨_,w1.cell 0 rfl,bh (fun e1=>⟨_,w1.cell 4 rfl,Il (ag (aR (fun e2=>aF ?_) fun e2=>aE (no ?_)))⟩) fun e1=>aE (no ?_)⟩) fun es=>aE (no ?_)
  ·have e2:t.2.2.2.2.head? =some 10:=by rw[CL] at e2;exact of_decide_eq_true e2
   have e1:t.1=1:=e1
   have e:Rq mm t=true:=by rw[eB,es,decide_eq_true e1,decide_eq_true e2];rfl
   exact GJ w1 w2 rfl bI e2 fun h5 v5 k5=>fin h5 (jN t) _ k5 (by unfold B4;rw[if_pos e]) (by unfold JY;rw[if_pos e]) v5
  ·rw[CL] at e2
   rw[eB,show decide (t.2.2.2.2.head? =some 10)=false from e2,Bool.and_false,Bool.and_false]
  ·have e1:¬t.1=1:=e1
   rw[eB,decide_eq_false e1,Bool.false_and,Bool.and_false]
  ·rw[eB,es,Bool.false_and]
 refine aa ⟨_,C2.V.cell 4 rfl,aR (fun e=>?_) fun e=>?_⟩
 all_goals
  refine aa (C2.st (mm2:=B0 mm) (fun h' E f=>C2.p.ext E (by decide) (by decide) f) rfl rfl (by decide) fun h3 C3 E3=>?_)
  have:=main _ e h3 C3 E3
  rw[Rp] at this
  exact this
end
def wz (l:List bJ):Prop:=l.length<=200/\∀t ∈ l,po t
theorem al.kbz {Z:Nat->Prop} {h h':H} {col':cd} (e:al Z h (fun _=>none) h' col'):KB h h':=e.sk.less fun k hk=>⟨hk,fun s p _ e2=>by cases e2⟩
theorem Rt {t:Tk} {z:Bool} {k:Tk->Bool->Prop} (h:k t z):oI (.tuple ⟨[.agg ⟨aT t⟩,.bool z]⟩) fun l=>aH l fun e l=>dT e fun t=>aH l fun e l=>au e fun z=>dc l (k t z):=h
section
variable {A:Nat->Prop} {h h':H} {K:KV} {col:cd} {a w:Addr} {mm:MM} {u v x:Nat} {t:bJ} {b:OA} {n c:Nat} {l:List bJ}
theorem X9 (R:Row ja (bT col h) h b n c l) (f:bj h col) (hl:wz l) {i:Nat} (hi:i<l.length) {zs:List Value} (hz:zs.length=5) {Q:Addr->H->Prop} (hk:∀a h' b' n' c',LT h' col a l[i] b' n' c'->KB h h'->Q a h'):
  (0<=(i:Int)/\(i:Int)<(n:Int))/\(ae b fun tH=>bL h (tH.add (Int.toNat (i:Int)*5)) fun t33=>aw h ⟨zs⟩ 45 fun OW qz=>aZ OW [.int .u8 t33.k,S t33.n,.slice t33.b t33.l t33.c,.bool t33.z,S t33.t] 0 qz fun uC=>Q OW uC):=by
 refine R.bn hi rfl fun q hA=>?_
 obtain⟨b',n',c',C⟩:=pk hA
 refine⟨_,C.c0,_,C.c1,_,_,_,C.c2,_,C.c3,_,C.c4,af fun a1 h1 v1 k1 e1 s1=>aQ v1 (by rw[hz];exact Nat.le_refl _) fun h2 v2 k2 s2=>?_⟩
 have gI:KB h h2:=KB.step k1 k2 (by omega)
 refine hk a1 h2 b' n' c' ⟨?_,f _ (by omega),⟨(al.kb (S:=fun _=>False) gI).row C.row,C.nil,C.rk,hl.2 _ (List.getElem_mem hi)⟩⟩ gI
 match zs,hz,v2 with
 | [_,_,_,_,_],_,v2=>exact v2
theorem LT.copy (T:fj h col t b n c) (f:bj h col) {zs:List Value} (hz:zs.length=5) {Q:Addr->H->Prop} (hk:∀a h',LT h' col a t b n c->KB h h'->Q a h'):
  aw h ⟨zs⟩ 45 fun a26 AK=>aZ a26 (aT (bP t b n c)) 0 AK fun lK=>Q a26 lK:=by
 refine af fun a1 h1 v1 k1 e1 s1=>aQ v1 (by rw[hz];exact Nat.le_refl _) fun h2 v2 k2 s2=>?_
 have gI:KB h h2:=KB.step k1 k2 (by omega)
 refine hk a1 h2 ⟨?_,f _ (by omega),T.kb gI⟩ gI
 match zs,hz,v2 with
 | [_,_,_,_,_],_,v2=>exact v2
theorem Rs (T:fj h col t b n c):fj h col (B4 mm t) b n c:=by
 have s:=Kx (mm:=mm) T.s
 unfold B4 at*
 split
 ·rename_i e
  rw[if_pos e] at s
  exact⟨T.r,T.z,T.k,s⟩
 ·exact T
theorem J3 (L:kt h (fun _=>none)) (f:bj h (fun _=>none)) (R:Row ja (bT (fun _=>none) h) h b n c l) (hl:wz l) (D:Nat) (hD:Deep D (ir l).w.ns 0)
  (hk:∀h' base b n c,h.size<=base->KB h h'->ed (dC D) h' base 70 b n c (cT D (ir l).w.ns 0)->K (.slice b n c) h'):zC 8 [.slice b n c] h K:=by
 have hlen:=R.len
 have Rr:=hl.1
 refine Jx.ok _ _ _ _ _ (X7 f L fun a w h1 c1 C1 E1=>cO ?_)
 refine⟨n+1,?_⟩
 have key:∀N i (mm:MM) h2 c2,i+N=n->CP h2 c2 a w mm (1+i*440) i (i*4000)->al PX h (fun _=>none) h2 c2->(l.drop i).foldl dr mm=ir l->
   Jx.fu (fun x3 h=>Jx.n4 x3 (fun gq gr gu h=>K (.slice gq gr gu) h) (fun gq gr gu h=>K (.slice gq gr gu) h) h) (fun x3 h=>Jx.n4 x3 (fun gq gr gu h=>K (.slice gq gr gu) h) (fun gq gr gu h=>K (.slice gq gr gu) h) h) (fun gq gr gu h=>K (.slice gq gr gu) h) (N+1) (some a) b n c (n:Int) (i:Int) h2:=by
  intro N
  induction N with
  | zero=>
   intro i mm h2 c2 hi C2 E2 hf
   unfold Jx.fu LP Jx.fg
   refine bX (by omega) (ag (aE ?_))
   rw[List.drop_of_length_le (by omega)] at hf
   have hf:mm=ir l:=hf
   subst hf
   obtain⟨tr,ct,T2,W2⟩:=C2.p.ex
   obtain⟨ob,oc,mb,mn,mc,vw,o,om⟩:=W2.ex
   exact aa ⟨_,C2.V.cell 0 rfl,aa ⟨_,vw.cell 0 rfl,CM C2.s.A.D.G D 0 T2 hD fun h3 b3 n3 c3 k3 o3=>aC (hk h3 h2.size b3 n3 c3 E2.sk.1 (E2.kbz.trans k3) o3)⟩⟩
  | succ N ih=>
   intro i mm h2 c2 hi C2 E2 hf
   unfold Jx.fu LP Jx.fg
   have bM:i<l.length:=by omega
   rw[List.drop_eq_getElem_cons bM] at hf
   have hf:(l.drop (i+1)).foldl dr (dr mm l[i])=ir l:=hf
   refine bQ (by omega) (ag (aF (X9 (E2.row R) C2.f hl bM rfl fun a5 h5 b5 n5 c5 l5 k5=>l5.ld (Im (C2.da k5) l5.T fun h6 c6 C6 E6=>?_))))
   have wA:=E2.trans ((al.kb k5).trans E6)
   have T6:=Rs (mm:=mm) (l5.T.ext E6)
   have ss:dr mm l[i]=if JY mm l[i]=true then(if mm.mode=1 then su (B0 mm) (B4 mm l[i]) else sr (B0 mm) (B4 mm l[i])) else B0 mm:=rfl
   have go:∀h8 c8 (m8:MM) {u2 v2 x2:Nat},CP h8 c8 a w m8 u2 v2 x2->u2<=1+i*440+2*i+40->v2<=i+1->x2<=i*4000+4000->al PX h (fun _=>none) h8 c8->m8=dr mm l[i]->bc .i64 ((i:Int)+(1:Int))/\Jx.fu (fun x3 h=>Jx.n4 x3 (fun gq gr gu h=>K (.slice gq gr gu) h) (fun gq gr gu h=>K (.slice gq gr gu) h) h) (fun x3 h=>Jx.n4 x3 (fun gq gr gu h=>K (.slice gq gr gu) h) (fun gq gr gu h=>K (.slice gq gr gu) h) h) (fun gq gr gu h=>K (.slice gq gr gu) h) (N+1) (some a) b n c (n:Int) ((i:Int)+(1:Int)) h8:=fun h8 c8 m8 {u2 v2 x2} C8 h1 h2 h3 E8 e8=>by
    subst e8
    exact⟨aG (by omega) (by omega),ih (i+1) _ h8 c8 (by omega) (C8.ph (by omega) h2 (by omega)) E8 hf⟩
   refine Rt (aR (fun e=>?_) fun e=>?_)
   ·rw[if_pos e] at ss
    refine LT.copy T6 C6.f rfl fun a7 h7 l7 k7=>aF (aa ⟨_,(C6.da k7).V.cell 1 rfl,bh (fun em=>?_) fun em=>?_⟩)
    ·have em:mm.mode=1:=em
     rw[if_pos em] at ss
     exact l7.ld (TA (C6.da k7) (by omega) (by omega) l7.T fun h8 c8 C8 E8=>go h8 c8 _ C8 (by omega) (by omega) (by omega) (wA.trans ((al.kb k7).trans E8)) ss.symm)
    ·have em:¬mm.mode=1:=em
     rw[if_neg em] at ss
     exact l7.ld (Tz (C6.da k7) (by omega) (by omega) (by omega) l7.T fun h8 c8 C8 E8=>go h8 c8 _ C8 (by omega) (by omega) (by omega) (wA.trans ((al.kb k7).trans E8)) ss.symm)
   ·rw[if_neg (by rw[e];decide)] at ss
    exact LT.copy T6 C6.f rfl fun a7 h7 l7 k7=>aE (go h7 c6 _ (C6.da k7) (by omega) (by omega) (by omega) (wA.trans (.kb k7)) ss.symm)
 exact key n 0 JX h1 c1 (by omega) C1 E1 rfl
end
def kd:Value->Nat
 | .int .u8 _=>1
 | .string _=>2
 | .slice _ _ _=>3
 | _=>0
theorem TE {v:Value} (h:kd v=1):∃i,v=.int .u8 i:=by
 unfold kd at h
 split at h
 ·exact⟨_,rfl⟩
 ·cases h
 ·cases h
 ·cases h
theorem TF {v:Value} (h:kd v=2):∃s,v=S s:=by
 unfold kd at h
 split at h
 ·cases h
 ·rename_i t;exact⟨t.data.toList,rfl⟩
 ·cases h
 ·cases h
theorem wQ {h:H} {a:Addr} {u:Value} (e:cell h a=some u):∃c t fz,h[a.block]? =some (.cells c t fz)/\a.spot=none/\c[a.off]? =some u:=by
 unfold Sh.cell at e
 split at e
 ·rename_i c t fz hg
  split at e
  ·cases e
  ·rename_i hs
   exact⟨c,t,fz,hg,by simpa using hs,e⟩
 ·cases e
theorem cell_of {h:H} {a:Addr} {c:Array Value} {t:Nat} {fz:Nat × Nat} (hg:h[a.block]? =some (.cells c t fz)) (hs:a.spot=none):cell h a=c[a.off]? :=by
 unfold Sh.cell
 rw[hg]
 simp[hs]
theorem CN {h:H} {a:Addr} {v:Value} {c:Array Value} {t:Nat} {fz:Nat × Nat} (hg:h[a.block]? =some (.cells c t fz)) (hs:a.spot=none):(eE h a v)[a.block]? =some (.cells (c.setIfInBounds a.off v) t fz):=by
 unfold Sh.eE
 rw[Array.getElem?_modify,if_pos rfl,hg]
 simp[hs]
theorem CO {h:H} {a:Addr} {v:Value} {g:Nat} (hn:a.block≠g):(eE h a v)[g]? =h[g]? :=by
 unfold Sh.eE
 rw[Array.getElem?_modify,if_neg hn]
theorem Io {h:H} {a b:Addr} {u v w:Value} (ha:cell h a=some u) (hb:cell h b=some w):(b=a/\cell (eE h a v) b=some v)∨cell (eE h a v) b=some w:=by
 obtain⟨c,t,fz,hg,hs,hc⟩:=wQ ha
 obtain⟨c2,t2,fz2,Fo,S6,nG⟩:=wQ hb
 by_cases Fa:a.block=b.block
 ·rw[<-Fa,hg] at Fo
  cases Fo
  have hg3:=CN (v:=v) hg hs
  rw[Fa] at hg3
  rw[cell_of hg3 S6]
  by_cases ho:a.off=b.off
  ·left
   refine⟨?_,?_⟩
   ·cases a;cases b;simp only at*;subst Fa;subst ho;subst hs;subst S6;rfl
   ·rw[<-ho,Array.getElem?_setIfInBounds_self]
    have:=(Array.getElem?_eq_some_iff.1 hc).1
    simp[this]
  ·right
   rw[Array.getElem?_setIfInBounds_ne ho]
   exact nG
 ·right
  rw[cell_of (by rw[CO Fa];exact Fo) S6]
  exact nG
structure hH (A:Nat->Prop) (h h':H):Prop where
 sk:SK (fun k=>¬A k) h h'
 obj:∀(g:Nat) c e fz,h[g]? =some (.cells c e fz)->∃c',h'[g]? =some (.cells c' e fz)
 cl:∀a v,cell h a=some v->∃v',cell h' a=some v'/\(v'=v∨(kd v'=kd v/\(kd v=3->v'=.slice none 0 0)))
theorem hH.refl (A:Nat->Prop) (h:H):hH A h h:=⟨SK.refl _ _,fun g c e fz hg=>⟨c,hg⟩,fun a v hv=>⟨v,hv,Or.inl rfl⟩⟩
theorem hH.trans {A:Nat->Prop} {a b c:H} (s:hH A a b) (r:hH A b c):hH A a c:=
 ⟨s.sk.trans r.sk,fun g x e fz hg=>by obtain⟨x',hg'⟩:=s.obj g x e fz hg;exact r.obj g x' e fz hg',fun q v hv=>by
  obtain⟨v1,h1,e1⟩:=s.cl q v hv
  obtain⟨v2,h2,e2⟩:=r.cl q v1 h1
  refine⟨v2,h2,?_⟩
  rcases e1 with rfl | ⟨k1,n1⟩
  ·exact e2
  ·rcases e2 with rfl | ⟨k2,n2⟩
   ·exact Or.inr ⟨k1,n1⟩
   ·exact Or.inr ⟨k2.trans k1,fun h3=>n2 (k1.trans h3)⟩⟩
theorem hH.eE {A:Nat->Prop} {h:H} {a:Addr} {u v:Value} (hA:A a.block) (hu:cell h a=some u) (hk:kd v=kd u) (hn:kd u=3->v=.slice none 0 0):hH A h (eE h a v):=by
 obtain⟨c,t,fz,hg,hs,hc⟩:=wQ hu
 refine⟨SK.eE fun hna=>hna hA,fun g c2 e fz2 Fo=>?_,fun b w hw=>?_⟩
 ·by_cases hb:a.block=g
  ·subst hb
   rw[hg] at Fo
   cases Fo
   exact⟨_,CN hg hs⟩
  ·exact⟨c2,by rw[CO hb];exact Fo⟩
 ·rcases Io (v:=v) hu hw with ⟨e,h1⟩ | h1
  ·subst e
   rw[hu] at hw
   cases hw
   exact⟨v,h1,Or.inr ⟨hk,hn⟩⟩
  ·exact⟨w,h1,Or.inl rfl⟩
def qQ (h:H) (g:Nat):Prop:=∃c e,h[g]? =some (.cells c e (0,0))
theorem qQ.soft {A:Nat->Prop} {h h':H} {g:Nat} (t:qQ h g) (s:hH A h h'):qQ h' g:=by
 obtain⟨c,e,hg⟩:=t
 obtain⟨c',h'⟩:=s.obj g c e _ hg
 exact⟨c',e,h'⟩
theorem Ip {h:H} {a:Addr} (t:qQ h a.block):AL h a=false:=by
 obtain⟨c,e,hg⟩:=t
 unfold AL
 rw[hg]
 simp
def ky (A:Nat->Prop) (h:H) (b:OA) (n:Nat):Prop:=
 n<=maxLen/\∀i,i<n->∃a,b=some a/\A a.block/\qQ h a.block/\(∃s,cell h ((a.add (i*2)).add 0)=some (S s))/\∃s,cell h ((a.add (i*2)).add 1)=some (S s)
def rF:Nat->(Nat->Prop)->H->Addr->Prop
 | 0,_,_,_=>False
 | d+1,A,h,q=>A q.block/\qQ h q.block/\∃i j s ab an ac tx kb kn kc,cell h (q.add 0)=some (.int .u8 i)/\cell h (q.add 1)=some (.int .u8 j)/\cell h (q.add 2)=some (S s)/\cell h (q.add 3)=some (.slice ab an ac)/\cell h (q.add 4)=some (S tx)/\cell h (q.add 5)=some (.slice kb kn kc)/\
   ky A h ab an/\kn<=maxLen/\∀m,m<kn->∃a,kb=some a/\rF d A h (a.add (m*6))
theorem hH.str {A:Nat->Prop} {h h':H} {a:Addr} {s:Bs} (f:hH A h h') (e:cell h a=some (S s)):∃s,cell h' a=some (S s):=by
 obtain⟨v,hv,h1⟩:=f.cl a _ e
 rcases h1 with rfl | ⟨h1,_⟩
 ·exact⟨s,hv⟩
 ·obtain⟨s',rfl⟩:=TF h1
  exact⟨s',hv⟩
theorem hH.int {A:Nat->Prop} {h h':H} {a:Addr} {i:Int} (f:hH A h h') (e:cell h a=some (.int .u8 i)):∃i,cell h' a=some (.int .u8 i):=by
 obtain⟨v,hv,h1⟩:=f.cl a _ e
 rcases h1 with rfl | ⟨h1,_⟩
 ·exact⟨i,hv⟩
 ·obtain⟨s',rfl⟩:=TE h1
  exact⟨s',hv⟩
theorem hH.sl {A:Nat->Prop} {h h':H} {a:Addr} {b:OA} {n c:Nat} (f:hH A h h') (e:cell h a=some (.slice b n c)):cell h' a=some (.slice b n c)∨cell h' a=some (.slice none 0 0):=by
 obtain⟨v,hv,h1⟩:=f.cl a _ e
 rcases h1 with rfl | ⟨_,h2⟩
 ·exact Or.inl hv
 ·rw[h2 rfl] at hv;exact Or.inr hv
theorem ky.soft {A:Nat->Prop} {h h':H} {b:OA} {n:Nat} (s:ky A h b n) (f:hH A h h'):ky A h' b n:=
 ⟨s.1,fun i hi=>by
  obtain⟨a,e,hA,ht,⟨s1,c1⟩,s2,c2⟩:=s.2 i hi
  exact⟨a,e,hA,ht.soft f,f.str c1,f.str c2⟩⟩
theorem ky.nil (A:Nat->Prop) (h:H):ky A h none 0:=⟨Nat.zero_le _,fun i hi=>absurd hi (by omega)⟩
theorem rF.soft {A:Nat->Prop} {h h':H} (f:hH A h h'):∀{d:Nat} {q:Addr},rF d A h q->rF d A h' q
 | 0,_,s=>s.elim
 | d+1,q,⟨hA,ht,i,j,s,ab,an,ac,tx,kb,kn,kc,c0,c1,c2,c3,c4,c5,sa,hk,sk⟩=>by
  obtain⟨i',S9⟩:=f.int c0
  obtain⟨j',Ta⟩:=f.int c1
  obtain⟨s',RE⟩:=f.str c2
  obtain⟨Tc,Td⟩:=f.str c4
  have sk':∀m,m<kn->∃a,kb=some a/\rF d A h' (a.add (m*6)):=fun m hm=>by
   obtain⟨a,e,hs⟩:=sk m hm
   exact⟨a,e,rF.soft f hs⟩
  have n0:∀m,m<0->∃a,(none:OA)=some a/\rF d A h' (a.add (m*6)):=fun m hm=>absurd hm (by omega)
  rcases f.sl c3 with Rz | Rz <;> rcases f.sl c5 with Tt | Tt
  ·exact⟨hA,ht.soft f,i',j',s',ab,an,ac,Tc,kb,kn,kc,S9,Ta,RE,Rz,Td,Tt,sa.soft f,hk,sk'⟩
  ·exact⟨hA,ht.soft f,i',j',s',ab,an,ac,Tc,none,0,0,S9,Ta,RE,Rz,Td,Tt,sa.soft f,Nat.zero_le _,n0⟩
  ·exact⟨hA,ht.soft f,i',j',s',none,0,0,Tc,kb,kn,kc,S9,Ta,RE,Rz,Td,Tt,ky.nil A h',hk,sk'⟩
  ·exact⟨hA,ht.soft f,i',j',s',none,0,0,Tc,none,0,0,S9,Ta,RE,Rz,Td,Tt,ky.nil A h',Nat.zero_le _,n0⟩
theorem Ib {A:Nat->Prop} {h:H} {b:OA} {n c:Nat} {l:List bx} (r:Row aW A h b n c l) (t:qS A h b n):ky A h b n:=
 ⟨Nat.le_trans r.cap r.max,fun i hi=>by
  have hl:=r.len
  obtain⟨a,e,hA⟩:=r.gB i _ (List.getElem?_eq_getElem (by omega))
  rcases t with t | ⟨q,e2,hq,ht⟩
  ·omega
  ·rw[e] at e2
   cases e2
   exact⟨a,e,hq,ht,⟨_,hA.fst.str.1⟩,_,hA.snd.str.1⟩⟩
theorem wF {A:Nat->Prop} {a:Addr} {K:H->Prop}:∀{l:List Value} {i:Nat} {h:H},A a.block->qQ h a.block->(∀(j:Nat) v,l[j]? =some v->∃u,cell h (a.add (i+j))=some u/\kd v=kd u/\(kd u=3->v=.slice none 0 0))->(∀h',hH A h h'->K h')->aZ a l i h K
 | [],i,h,_,_,_,hk=>hk h (hH.refl A h)
 | x::l,i,h,hA,ht,hv,hk=>by
  obtain⟨u,hu,h1,h2⟩:=hv 0 x rfl
  have s:=hH.eE (A:=A) (by rw[bo];exact hA) hu h1 h2
  refine⟨⟨u,hu⟩,Ip (by rw[bo];exact ht),wF hA (ht.soft s) (fun j v hj=>?_) fun h' s'=>hk h' (s.trans s')⟩
  obtain⟨u,hu,h1,h2⟩:=hv (j+1) v hj
  obtain⟨u',Ya,h3⟩:=s.cl _ _ hu
  rw[show i+1+j=i+(j+1) by omega]
  refine⟨u',Ya,?_⟩
  rcases h3 with rfl | ⟨h3,_⟩
  ·exact⟨h1,h2⟩
  ·exact⟨h1.trans h3.symm,fun h=>h2 (h3.symm.trans h)⟩
end Go.Proofs
