import Derived.Test.YtijoifkjeamonaaGreatHc
import Derived.Test.YtijoifkjeamonaaGreatMoE
import Derived.Test.YtijoifkjeamonaaGreatDrF
import Derived.Test.YtijoifkjeamonaaGreatMsK
import Derived.Test.YtijoifkjeamonaaGreatTxA
import Derived.Test.YtijoifkjeamonaaGreatTxO
import Derived.Test.YtijoifkjeamonaaGreatOpA
import Derived.Test.YtijoifkjeamonaaGreatPcD
namespace Go.Proofs
open Go Go.Sh
set_option linter.unusedVariables false
set_option maxRecDepth 100000
theorem ru (ns:List Bs) (l:List aP):∀k:Nat, -1<=eV (ja ns) (-1) l k/\eV (ja ns) (-1) l k<(k:Int)
 | 0=>⟨Int.le_refl _,by show(-1:Int)<0;omega⟩
 | k+1=>by
  have:=ru ns l k
  unfold eV
  split
  ·rename_i r e
   unfold ja at e
   split at e
   ·cases e;omega
   ·split at e
    ·cases e;omega
    ·cases e
  ·omega
section
variable {B:Nat->Prop} {h:H} {K:KV} {col:bY} {a w:Addr} {mm:MM} {u v x:Nat} {t:cm} {b:OA} {n c:Nat} {ns:List Bs} {s:Bs}
theorem Ky (C:CP h col a w mm u v x) (hv:v<=100000):∃mb mn mc,cell h (w.add 2)=some (.slice mb mn mc)/\∀h1 (y:aS) (ab:OA) (an ac:Nat) (Q:H->Prop),KB h h1->cI (bT col h1) h1 y ab an ac->
  (∀h' c',PW h' c' w {mm.w with aE:=fj mm.w.aE y}->al PX h col h' c'->al PA h col h' c'->Q h')->
  zC 156 [.slice mb mn mc,.agg ⟨[.int .i64 y.1,S y.2.1,.slice ab an ac]⟩] h1 fun v h2=>aB v fun b n c=>bG h1 h2/\bc (w.add 2) [.slice b n c] 0 h2 Q:=by
 obtain⟨t,cp,T,W⟩:=C.p.ex
 obtain⟨ob,oc,mb,mn,mc,vw,o,om⟩:=W.ex
 have jR:=C.s.A.D.ml
 have hl:=om.len
 refine⟨_,_,_,vw.cell 2 rfl,fun h1 y ab an ac Q k hR hk=>?_⟩
 obtain⟨xs,he,hc,_⟩:=(om.kb k).parts
 refine Ff (om.kb k).row he hc (fun k hk=>hk.2) om.nil hR (by omega) fun b' n' c' h2 o2 k2=>aH ⟨k2.ext,dY (W.kb k) (C.f.kb k) k2 o2 fun h3 W3 E3 f3 _=>?_⟩
 have E:al PA h col h3 _:=(al.kb k).trans (E3.mono fun s hs=>.inl (.inr hs))
 exact hk h3 _ ⟨t,cp,(T.kb k).cf (S:=fun k=>k=2) (by decide) E3 f3,W3⟩ E.px E
theorem oX (C:CP h col a w mm u v x) (hu:u<=800000) (hv:v<=10000) (T:fc h col t b n c) (hk:j8 h col a w K {mm with w:=ic mm.w t} (u+v+1) (v+1) x):zC 92 [.pointer (some a),.agg ⟨aT (bR t b n c)⟩] h K:=by
 refine Xbw.ok _ _ _ _ (T.new C.f fun a1 h1 l1 k1 _=>l1.ld (pL (C.cU k1) hu hv l1.T fun h2 c2 C2 E2=>?_))
 obtain⟨mb,mn,mc,e2,push⟩:=Ky C2 (by omega)
 have l2:=l1.ext E2
 have jQ:=C2.s.A.D.lo
 have qF:=C.s.ux.A.D.ln
 obtain⟨tr,cp,T2,W2⟩:=C2.p.ex
 refine aa ⟨_,C2.V.cell 0 rfl,aa ⟨_,C2.V.cell 0 rfl,aa ⟨_,_,_,e2,aa ⟨_,C2.V.cell 0 rfl,_,l2.nm,_,_,_,l2.V.cell 2 rfl,eN W2 C2.s.A.D.ne (by omega) fun h3 k3=>jm (x:=dP _) ⟨k3.ext,?_⟩⟩⟩⟩⟩
 have ec:(dP (fe (aU mm.w) t).op).1=((aU mm.w).ns.length:Int):=GY _ t
 have l3:=l2.kb k3
 have hR:cI (bT c2 h3) h3 (((aU mm.w).ns.length:Int),t.2.1,t.2.2.1) b n c:=jA (m:=(((aU mm.w).ns.length:Int),t.2.1,t.2.2.1)) l3.T.r T.z (aF (by omega) (by omega)) (by have:=T.s.1;show t.2.1.length<=_;simp only[maxLen];omega)
 have:=push h3 _ b n c _ k3 hR fun h4 c4 p4 E4 EA=>hk h4 c4 (C2.pa p4 EA (C.s.format T.s)) ((al.kb k1).trans (E2.trans E4))
 show gQ _ _ ⟨[_,.agg ⟨[.int .i64 (dP (fe (aU mm.w) t).op).1,_,_]⟩]⟩ _ _
 rw[ec]
 exact this
theorem Kz (C:CP h col a w mm u v x) (hu:u<=800000) (hv:v<=10000) (T:fc h col t b n c) (hk:j8 h col a w K {mm with w:=vK (gO mm.w t)} (u+v+1) (v+1) x):zC 81 [.pointer (some a),.agg ⟨aT (bR t b n c)⟩] h K:=by
 refine Xcc.ok _ _ _ _ (T.new C.f fun a1 h1 l1 k1 _=>l1.ld (pL (C.cU k1) hu hv l1.T fun h2 c2 C2 E2=>?_))
 obtain⟨mb,mn,mc,e2,push⟩:=Ky C2 (by omega)
 refine aa ⟨_,C2.V.cell 0 rfl,aa ⟨_,C2.V.cell 0 rfl,aa ⟨_,_,_,e2,?_⟩⟩⟩
 exact push h2 (-1,[],[]) none 0 0 _ (KB.refl _) (jA (m:=(-1,[],[])) ⟨rfl,Nat.le_refl _,Nat.zero_le _,fun i x hx=>by simp at hx⟩ (fun _=>rfl) (aF (by decide) (by decide)) (by decide)) fun h4 c4 p4 E4 EA=>hk h4 c4 (C2.pa p4 EA (C.s.plain T.s).wz) ((al.kb k1).trans (E2.trans E4))
theorem KA (C:CP h col a w mm u v x) (hu:u<=890000) (rn:Row cN B h b n c ns) (hk:j8 h col a w K {mm with w:=qM mm.w ns} u v x):zC 148 [.pointer (some a),.slice b n c] h K:=by
 obtain⟨t,cp,T,W⟩:=C.p.ex
 obtain⟨ob,oc,mb,mn,mc,vw,o,om⟩:=W.ex
 have jQ:=C.s.A.D.lo
 unfold qM at hk
 refine Xb6.ok _ _ _ _ _ _ (aa ⟨_,C.V.cell 0 rfl,aa ⟨_,_,_,vw.cell 1 rfl,wD C.L.ml (fun k hk=>hk) o.row C.Xw rn fun h1 k1=>aO (bf (fun e=>aD ?_) fun e=>aC ?_)⟩⟩)
 ·have e:0<=qN mm.w.op ns:=e
  obtain⟨k,ek⟩:=Int.eq_ofNat_of_zero_le e
  have hr:=ru ns mm.w.op mm.w.op.length
  have dJ:k<mm.w.op.length:=by have:qN mm.w.op ns<(mm.w.op.length:Int):=hr.2;omega
  rw[if_pos e] at hk
  have en:zr mm.w ns=mm.w.op[k].2.2.1:=by unfold zr;rw[ek];show(mm.w.op.getD k aI).2.2.1=_;rw[aJ dJ]
  rw[en] at hk
  rw[ek]
  refine aa ⟨_,(C.cU k1).V.cell 0 rfl,aa ⟨_,_,_,(vw.kb k1).cell 1 rfl,(o.kb k1).row.bj (i:=k) dJ rfl fun q hA=>⟨_,(hA.snd.dt (k:=2) rfl).fst.str.1,?_⟩⟩⟩
  exact Fg (C.cU k1) _ (C.s.A.yD _ (List.getElem_mem dJ)) fun h3 c3 C3 E3=>hk h3 c3 C3 ((al.kb k1).trans E3)
 ·rw[if_neg e] at hk
  exact hk h1 col (C.cU k1) (.kb k1)
theorem aed (C:CP h col a w mm u v x) (hu:u<=880000) (T:fc h col t b n c) (hk:j8 h col a w K {mm with w:=dM (qM mm.w OW) t} (u+1) v x):zC 75 [.pointer (some a),.agg ⟨aT (bR t b n c)⟩] h K:=
 Xb8.ok _ _ _ _ (T.new C.f fun a1 h1 l1 k1 _=>eM (by decide) fun a2 h2 r2 k2=>KA ((C.cU k1).cU k2) (by omega) r2 fun h3 c3 C3 E3=>((l1.kb k2).ext E3).ld (ng C3 hu ((l1.kb k2).ext E3).T fun h4 c4 C4 E4=>hk h4 c4 C4 ((al.kb (k1.trans k2)).trans (E3.trans E4))))
theorem aee (C:CP h col a w mm u v x) (hu:u<=880000) (T:fc h col t b n c) (hk:j8 h col a w K {mm with w:=dM (qM mm.w Ia) t} (u+1) v x):zC 76 [.pointer (some a),.agg ⟨aT (bR t b n c)⟩] h K:=
 Xbm.ok _ _ _ _ (T.new C.f fun a1 h1 l1 k1 _=>oL (ws:=Ia) rfl (by decide) (by decide) fun a2 h2 r2 k2=>KA ((C.cU k1).cU k2) (by omega) r2 fun h3 c3 C3 E3=>((l1.kb k2).ext E3).ld (ng C3 hu ((l1.kb k2).ext E3).T fun h4 c4 C4 E4=>hk h4 c4 C4 ((al.kb (k1.trans k2)).trans (E3.trans E4))))
theorem KC (C:CP h col a w mm u v x) (hu:u<=800000) (hv:v<=10000) (T:fc h col t b n c) (hk:j8 h col a w K {mm with w:=gO (dF mm.w 0 [] gl) t} (u+v+1) v x):zC 78 [.pointer (some a),.agg ⟨aT (bR t b n c)⟩] h K:=by
 refine Xbk.ok _ _ _ _ (T.new C.f fun a1 h1 l1 k1 _=>eM (by decide) fun a2 h2 r2 k2=>?_)
 have fin:∀h3 c3,CP h3 c3 a w {mm with w:=dF mm.w 0 [] gl} u v x->al PX h2 col h3 c3->bJ h3 a1 fun t14=>zC 93 [.pointer (some a),.agg ⟨aT t14⟩] h3 fun vd gZ=>K (.tuple ⟨[]⟩) gZ:=fun h3 c3 C3 E3=>
  ((l1.kb k2).ext E3).ld (pL C3 hu hv ((l1.kb k2).ext E3).T fun h4 c4 C4 E4=>hk h4 c4 C4 ((al.kb (k1.trans k2)).trans (E3.trans E4)))
 exact KD ((C.cU k1).cU k2) 0 [] (s:=[98,117,116,116,111,110]) (by decide) r2 (Q:=fun h3=>bJ h3 a1 fun t14=>zC 93 [.pointer (some a),.agg ⟨aT t14⟩] h3 fun vd gZ=>K (.tuple ⟨[]⟩) gZ) fin
theorem Tv (C:CP h col a w mm u v x) (hu:u<=700000) (hv:v<=10000) (T:fc h col t b n c) (hk:j8 h col a w K {mm with w:=ic (r8 (aU mm.w) t.2.1) t} (u+2*v+33) (v+1) x):zC 80 [.pointer (some a),.agg ⟨aT (bR t b n c)⟩] h K:=by
 unfold r8 at hk
 refine Xcb.ok _ _ _ _ (T.new C.f fun a1 h1 l1 k1 _=>aa ⟨_,(C.cU k1).V.cell 0 rfl,zu (C.cU k1) (by omega) hv fun h2 c2 C2 E2=>⟨_,(l1.ext E2).nm,eM T.s.1 fun a3 h3 r3 k3=>AF (C2.cU k3) r3 0 fun h4 k4=>?_⟩⟩)
 have C4:=(C2.cU k3).cU k4
 have E4:al PX h1 col h4 c2:=E2.trans (.kb (k3.trans k4))
 have l4:=l1.ext E4
 have Km:=(al.kb k1).trans E4
 refine ag (aR (fun e=>?_) fun e=>?_)
 ·have e:kQ (aU mm.w).op 0 [t.2.1]=true:=e
  rw[if_pos e] at hk
  exact l4.ld (AG C4 (by omega) hv l4.T fun h5 c5 C5 E5=>(l4.ext E5).ld (oX C5 (by omega) hv (l4.ext E5).T fun h6 c6 C6 E6=>hk h6 c6 (C6.mono (by omega)) (Km.trans (E5.trans E6))))
 ·have e:kQ (aU mm.w).op 0 [t.2.1]=false:=e
  rw[if_neg (by rw[e];decide)] at hk
  exact l4.ld (oX C4 (by omega) hv l4.T fun h6 c6 C6 E6=>hk h6 c6 (C6.mono (by omega)) (Km.trans E6))
theorem OX (C:CP h col a w mm u v x) (hu:u<=800000) (hv:v<=10000) (T:fc h col t b n c) (hk:j8 h col a w K {mm with w:=jk (aU mm.w) (mU t)} (u+v+1) v x):zC 84 [.pointer (some a),.agg ⟨aT (bR t b n c)⟩] h K:=by
 refine Xb1.ok _ _ _ _ (T.new C.f fun a1 h1 l1 k1 g1=>cv (m:=1) (i:=0) l1.V (by show 1+0+1<=5;omega) fun h2 v2 k2 s2=>?_)
 have gy:KB h h2:=KB.step k1 k2 g1
 have l2:LT h2 col a1 (mU t) b n c:=⟨v2,l1.O,⟨(T.kb gy).r,T.z,T.k,(by decide:([105,109,103]:Bs).length<=4000),T.s.2⟩⟩
 exact l2.ld (AH (C.cU gy) hu hv l2.T fun h3 c3 C3 E3=>hk h3 c3 C3 ((al.kb gy).trans E3))
theorem aef (C:CP h col a w mm u v x) (hu:u<=880000) (T:fc h col t b n c) (hk:j8 h col a w K {mm with w:=jk (pW mm.w) t} (u+1) v x):zC 85 [.pointer (some a),.agg ⟨aT (bR t b n c)⟩] h K:=
 Xb0.ok _ _ _ _ (T.new C.f fun a1 h1 l1 k1 _=>mv (C.cU k1) fun h2 c2 C2 E2=>(l1.ext E2).ld (AJ C2 hu (l1.ext E2).T fun h3 c3 C3 E3=>hk h3 c3 C3 ((al.kb k1).trans (E2.trans E3))))
theorem Yv (C:CP h col a w mm u v x) (hu:u<=800000) (hv:v<=10000) (T:fc h col t b n c) (hk:j8 h col a w K (mm.fp (fe (aU (pW mm.w)) t) t 2) (u+v+1) v x):zC 87 [.pointer (some a),.agg ⟨aT (bR t b n c)⟩] h K:=
 Xcr.ok _ _ _ _ (T.new C.f fun a1 h1 l1 k1 _=>mv (C.cU k1) fun h2 c2 C2 E2=>aa ⟨_,C2.V.cell 0 rfl,zu C2 hu hv fun h3 c3 C3 E3=>((l1.ext E2).ext E3).ld (RY C3 (by omega) ((l1.ext E2).ext E3).T fun h4 c4 C4 E4=>hk h4 c4 C4 ((al.kb k1).trans (E2.trans (E3.trans E4))))⟩)
theorem KG (C:CP h col a w mm u v x) (hu:u<=800000) (hv:v<=10000) (T:fc h col t b n c) (hk:j8 h col a w K {mm with w:=gO (As mm.w) t} (u+v+1) v x):zC 88 [.pointer (some a),.agg ⟨aT (bR t b n c)⟩] h K:=by
 unfold As at hk
 refine Xcd.ok _ _ _ _ (T.new C.f fun a1 h1 l1 k1 _=>eM (by decide) fun a2 h2 r2 k2=>Yw ((C.cU k1).cU k2) (by omega) r2 fun h3 k3=>?_)
 have C3:=((C.cU k1).cU k2).cU k3
 have l3:=(l1.kb k2).kb k3
 have mT:al PX h col h3 col:=.kb (k1.trans (k2.trans k3))
 refine ag (aR (fun e=>?_) fun e=>?_)
 ·have e:Et mm.w [[111,112,116,105,111,110]]=true:=e
  rw[if_pos e] at hk
  exact Cz C3 (by omega) fun h4 c4 C4 E4=>(l3.ext E4).ld (pL C4 hu hv (l3.ext E4).T fun h5 c5 C5 E5=>hk h5 c5 C5 (mT.trans (E4.trans E5)))
 ·have e:Et mm.w [[111,112,116,105,111,110]]=false:=e
  rw[if_neg (by rw[e];decide)] at hk
  exact l3.ld (pL C3 hu hv l3.T fun h5 c5 C5 E5=>hk h5 c5 C5 (mT.trans E5))
theorem Tw (C:CP h col a w mm u v x) (hu:u<=880000) (T:fc h col t b n c) (hk:j8 h col a w K {mm with w:=fe (iX mm.w t.2.1) t} (u+1) v x):zC 89 [.pointer (some a),.agg ⟨aT (bR t b n c)⟩] h K:=by
 unfold iX at hk
 refine Xcl.ok _ _ _ _ (T.new C.f fun a1 h1 l1 k1 _=>?_)
 obtain⟨ex,hex⟩:∃ex,JZ t.2.1=ex:=⟨_,rfl⟩
 rw[hex] at hk
 have rest:aw h1 #[S [114,117,98,121]] 9 fun a1' h2=>zC 149 [.pointer (some a),.int .u8 0,.slice (some a1') 1 1] h2 fun v3 h4=>au v3 fun b5=>cond b5 (zC 150 [.pointer (some a),S ex] h4 fun v6 h7=>bJ h7 a1 fun t8=>zC 143 [.pointer (some a),.agg ⟨aT t8⟩] h7 fun v9 df=>K (.tuple ⟨[]⟩) df) (bJ h4 a1 fun t11=>zC 143 [.pointer (some a),.agg ⟨aT t11⟩] h4 fun v12 fI=>K (.tuple ⟨[]⟩) fI):=by
  refine eM (by decide) fun a2 h2 r2 k2=>AF ((C.cU k1).cU k2) r2 0 fun h3 k3=>?_
  have C3:=((C.cU k1).cU k2).cU k3
  have l3:=(l1.kb k2).kb k3
  have mT:al PX h col h3 col:=.kb (k1.trans (k2.trans k3))
  refine ag (aR (fun e=>?_) fun e=>?_)
  ·have e:kQ mm.w.op 0 Cn=true:=e
   rw[if_pos e] at hk
   exact jT C3 ex fun h4 c4 C4 E4=>(l3.ext E4).ld (ga C4 (by omega) (l3.ext E4).T fun h5 c5 C5 E5=>hk h5 c5 C5 (mT.trans (E4.trans E5)))
  ·have e:kQ mm.w.op 0 Cn=false:=e
   rw[if_neg (by rw[e];decide)] at hk
   exact l3.ld (ga C3 (by omega) l3.T fun h5 c5 C5 E5=>hk h5 c5 C5 (mT.trans E5))
 refine⟨_,l1.nm,bf (fun e=>?_) fun e=>⟨_,l1.nm,bf (fun e2=>?_) fun e2=>?_⟩⟩
 ·rw[show ex=[114,116,99] by rw[<-hex];unfold JZ;rw[if_pos (.inl e)]] at rest;exact rest
 ·rw[show ex=[114,116,99] by rw[<-hex];unfold JZ;rw[if_pos (.inr e2)]] at rest;exact rest
 ·rw[show ex=[] by rw[<-hex];unfold JZ;rw[if_neg (fun h=>h.elim e e2)]] at rest;exact rest
theorem OY (C:CP h col a w mm u v x) (hu:u<=800000) (hv:v<=10000) (T:fc h col t b n c) (hk:j8 h col a w K {mm with w:=iJ mm.w t} (u+v+1) v x):zC 90 [.pointer (some a),.agg ⟨aT (bR t b n c)⟩] h K:=by
 unfold iJ at hk
 simp only[] at hk
 refine Xbi.ok _ _ _ _ (T.new C.f fun a1 h1 l1 k1 _=>aa ⟨_,(C.cU k1).V.cell 0 rfl,zu (C.cU k1) hu hv fun h2 c2 C2 E2=>?_⟩)
 have l2:=l1.ext E2
 have jQ:=C2.s.A.D.lo
 have qF:=C2.s.A.D.ln
 have hn:=T.s.1
 obtain⟨sp,hsp⟩:∃sp,mV t.2.1=sp:=⟨_,rfl⟩
 rw[hsp] at hk
 have hr:bd .u8 sp:=by rw[<-hsp];unfold mV;split <;> exact⟨by decide,by decide⟩
 have rest:ae (some a) fun a1'=>∃p2,cell h2 (a1'.add 0)=some (.pointer p2)/\(bJ h2 a1 fun t3=>zC 64 [.pointer p2,.int .u8 sp,.agg ⟨aT t3⟩] h2 fun v4 h5=>aL .i64 v4 fun i6=>∃b7,cell h5 (a1.add 3)=some (.bool b7)/\(cond b7 (zC 37 [.pointer (some a)] h5 fun v8 h9=>K (.tuple ⟨[]⟩) h9) (K (.tuple ⟨[]⟩) h5))):=by
  refine aa ⟨_,C2.V.cell 0 rfl,l2.ld (sr C2.L C2.p C2.s.A.D.G C2.s.A.D.ne (by omega) (by omega) l2.T.r T.z T.mQ T.attrs hr T.k (by show t.2.1.length<=_;omega) fun h3 c3 p3 E3=>aO ⟨_,(l2.ext E3).V.cell 3 rfl,?_⟩)⟩
  have C3:=C2.pa p3 E3.pa (C2.s.insert sp hn t.2.2.1)
  have mT:=(al.kb k1).trans (E2.trans E3.pa.px)
  refine aR (fun e=>?_) fun e=>?_
  ·rw[if_pos e] at hk
   exact Cz C3 (by omega) fun h4 c4 C4 E4=>hk h4 c4 C4 (mT.trans E4)
  ·have e:t.2.2.2.1=false:=e
   rw[if_neg (by rw[e];decide)] at hk
   exact hk h3 c3 C3 mT
 refine⟨_,l2.nm,bf (fun e=>?_) fun e=>?_⟩
 ·rw[show sp=1 by rw[<-hsp];unfold mV;rw[if_pos e]] at rest;exact rest
 ·rw[show sp=2 by rw[<-hsp];unfold mV;rw[if_neg e]] at rest;exact rest
end
section
variable {B:Nat->Prop} {h:H} {K:KV} {col:bY} {a w:Addr} {mm:MM} {u v x:Nat} {t:cm} {b:OA} {n c:Nat} {ns:List Bs} {s:Bs}
theorem zv (m:WM) (id:Int) (h0:0<=id):(dQ m id).aE=if 0<=cM m.aE (fun y=>decide (y.1=id)) then m.aE.eraseIdx (cM m.aE fun y=>decide (y.1=id)).toNat else m.aE:=by
 have e:bp m.aE id=cM m.aE fun y=>decide (y.1=id):=by unfold bp;rw[if_neg (by omega)]
 unfold dQ
 rw[e]
 split
 ·rfl
 ·rfl
theorem Tx (C:CP h col a w mm u v x) (hu:u<=700000) (hv:v<=10000) (T:fc h col t b n c) (hk:j8 h col a w K {mm with w:=ic (mZ mm.w t.2.1) t} (u+v+33) (v+1) x):zC 79 [.pointer (some a),.agg ⟨aT (bR t b n c)⟩] h K:=by
 unfold mZ at hk
 refine Xb9.ok _ _ _ _ (T.new C.f fun a1 h1 l1 k1 _=>?_)
 have C1:=C.cU k1
 obtain⟨tr,cp,T1,W1⟩:=C1.p.ex
 obtain⟨ob,oc,mb,mn,mc,vw,o,om⟩:=W1.ex
 refine aa ⟨_,C1.V.cell 0 rfl,aa ⟨_,_,_,vw.cell 2 rfl,_,l1.nm,wE (fun k hk=>hk) om.row fun h2 k2=>aO (bf (fun e=>aD ?_) fun e=>aC ?_)⟩⟩
 ·have e:0<=fA mm.w.aE t.2.1:=e
  rw[if_pos e] at hk
  obtain⟨k,ek,dJ,h0⟩:=mq e
  have tG:mm.w.aE.getD k noMark=mm.w.aE[k]:=aJ dJ
  have eid:zt mm.w t.2.1=mm.w.aE[k].1:=by unfold zt;rw[ek,<-tG];rfl
  rw[eid] at hk
  rw[tG] at h0
  rw[ek]
  obtain⟨id,hid⟩:∃id,mm.w.aE[k].1=id:=⟨_,rfl⟩
  rw[hid] at hk h0
  have C2:=C1.cU k2
  refine aa ⟨_,C2.V.cell 0 rfl,aa ⟨_,_,_,(vw.kb k2).cell 2 rfl,(om.kb k2).row.bj (i:=k) dJ rfl fun q hA=>⟨_,hA.fst.int.1,af fun a3 h3 v3 k3 e3 s3=>aQ v3 (by show 1<=1;omega) fun h4 v4 k4 s4=>?_⟩⟩⟩
  have hir:=hA.fst.int.2
  have v4:Var h4 a3 3 [.int .i64 id]:=by rw[<-hid];exact v4
  have uu:KB h2 h4:=KB.step k3 k4 (by omega)
  have nU:=k2.trans uu
  have C4:=C2.cU uu
  have c3:col a3.block=none:=C2.f _ (by omega)
  refine(l1.kb nU).ld (AG C4 (by omega) hv (l1.kb nU).T fun h5 c5 C5 E5=>?_)
  have v5:=v4.keep E5.eR ⟨c3,v4.lt⟩
  have c5':c5 a3.block=none:=by rw[E5.cl _ v4.lt];exact c3
  have l5:=(l1.kb nU).ext E5
  have Ko:al PX h col h5 c5:=(al.kb (k1.trans nU)).trans E5
  obtain⟨tr,cp,T5,W5⟩:=C5.p.ex
  obtain⟨Xu,oc5,Ym,Xv,Yn,B4,o5,JE⟩:=W5.ex
  have aea:=C5.s.A.D.ml
  have Tq:=JE.len
  obtain⟨xs,he,hc,_⟩:=JE.parts
  have hpw:=C5.s.M.1
  have h1p:∀i j (hi:i<(bW mm.w t.2.1).aE.length) (hj:j<(bW mm.w t.2.1).aE.length),decide ((bW mm.w t.2.1).aE[i].1=id)=true->decide ((bW mm.w t.2.1).aE[j].1=id)=true->i=j:=fun i j hi hj ei ej=>by
   have ei:=of_decide_eq_true ei
   have ej:=of_decide_eq_true ej
   have hp:=List.pairwise_iff_getElem.1 hpw
   rcases Nat.lt_trichotomy i j with cR | cR | cR
   ·exact absurd (ei.trans ej.symm) (hp i j hi hj cR (by rw[ei];exact h0))
   ·exact cR
   ·exact absurd (ej.trans ei.symm) (hp j i hj hi cR (by rw[ej];exact h0))
  have Xx:∀{h6:H} (v6:Var h6 a3 3 [.int .i64 id]) (h0':a3.block<h6.size),∀x h7 b' n' c' (next:KV),x ∈ (bW mm.w t.2.1).aE->SK (fun k=>k<h6.size) h6 h7->(∀h8,KB h7 h8->next (.bool (decide (x.1=id))) h8)->fQ Tryz.prog 4 (.func (.func 154) ⟨[]⟩ ⟨[.pointer (some a3)]⟩) ⟨[.agg ⟨[.int .i64 x.1,S x.2.1,.slice b' n' c']⟩]⟩ h7 next:=fun {h6} v6 h0' x h7 b' n' c' next hx k67 hn=>by
   have e:fQ Tryz.prog 4 (.func (.func 154) ⟨[]⟩ ⟨[.pointer (some a3)]⟩) ⟨[.agg ⟨[.int .i64 x.1,S x.2.1,.slice b' n' c']⟩]⟩ h7 next=
     zC 154 [.agg ⟨[.int .i64 x.1,S x.2.1,.slice b' n' c']⟩,.pointer (some a3)] h7 fun v h'=>au v fun b=>cond b (next (.bool true) h') (next (.bool false) h'):=by kernel_rfl
   rw[e]
   refine Xca.ok _ _ _ _ _ _ _ _ (af fun a8 h8 v8 k8 e8 _=>⟨_,v8.cell 0 rfl,_,((v6.keep k67.w h0').kb k8).dA rfl,?_⟩)
   have:=hn h8 k8
   refine bf (fun e=>?_) fun e=>?_
   ·rw[decide_eq_true e] at this;exact this
   ·rw[decide_eq_false e] at this;exact this
  have row:∀{Q:KV},(∀b' n' c' h7,bO aX (bT c5 h5) h7 h5.size 79 b' n' c' (dQ (bW mm.w t.2.1) id).aE->KB h5 h7->Q (.slice b' n' c') h7)->zC 63 [.slice Ym Xv Yn] h5 fun qO gA=>aB qO fun hU hX hZ=>zC 153 [.slice hU hX hZ,(.func (.func 154) ⟨[]⟩ ⟨[.pointer (some a3)]⟩)] gA Q:=fun {Q} hQ=>
   fq (fun k hk=>hk.2) he hc Tq JE.cap.1 JE.nil (by omega) fun b6 c6 h6 o6 k6=>aH (my (p:=fun y=>decide (y.1=id)) o6 (fun k hk=>hk.2) k6.1 (by omega) h1p (fun x h7 b' n' c' next hx k7 hn=>Xx (h6:=h5) v5 v5.lt x h7 b' n' c' next hx (SK.trans (k6.less fun q hq=>hq) k7) hn) fun b' n' c' h7 o7 k7=>by
    have e:=zv (bW mm.w t.2.1) id h0
    refine hQ b' n' c' h7 ?_ (SK.trans k6 k7)
    rw[e];exact o7)
  have put:∀{Q:H->Prop} b' n' c' h7,bO aX (bT c5 h5) h7 h5.size 79 b' n' c' (dQ (bW mm.w t.2.1) id).aE->KB h5 h7->(∀h8 c8,CP h8 c8 a w {mm with w:=dQ (bW mm.w t.2.1) id} (u+32) v x->al PX h5 c5 h8 c8->Q h8)->bc (w.add 2) [.slice b' n' c'] 0 h7 Q:=fun {Q} b' n' c' h7 o7 k7 hQ=>
   dY W5 C5.f k7 o7 fun h8 W8 E8 f8 _=>by
    have Ys:al PA h5 c5 h8 _:=E8.mono fun s hs=>.inl (.inr hs)
    have hmk:({bW mm.w t.2.1 with aE:=(dQ (bW mm.w t.2.1) id).aE}:WM)=dQ (bW mm.w t.2.1) id:=by unfold dQ;split <;> rfl
    have p8:PW h8 (cz c5 h5 b' (2,2)) w (dQ (bW mm.w t.2.1) id):=by
     rw[<-hmk];exact⟨tr,cp,T5.cf (S:=fun k=>k=2) (by decide) E8 f8,W8⟩
    exact hQ h8 _ (C5.pa p8 Ys (C5.s.Fc id)) Ys.px
  have fin:∀h8 c8,CP h8 c8 a w {mm with w:=dQ (bW mm.w t.2.1) id} (u+32) v x->al PX h5 c5 h8 c8->ae (some a) fun a4=>∃p5,cell h8 (a4.add 0)=some (.pointer p5)/\(∃i6,cell h8 a3=some (.int .i64 i6)/\(zC 155 [.pointer p5,.int .i64 i6] h8 fun v7 h9=>bJ h9 a1 fun t1=>zC 92 [.pointer (some a),.agg ⟨aT t1⟩] h9 fun v2 h3=>K (.tuple ⟨[]⟩) h3)):=fun h8 c8 C8 E8=>by
   have v8:=v5.keep E8.eR ⟨c5',v5.lt⟩
   have jQ:=C8.s.A.D.lo
   refine aa ⟨_,C8.V.cell 0 rfl,_,v8.dA rfl,lq C8.p (by omega) fun h9 c9 p9 E9 _=>?_⟩
   have l9:=(l5.ext E8).ext E9
   have C9:=C8.pa p9 E9.pa (C8.s.drop id)
   exact l9.ld (oX C9 (by omega) hv l9.T fun df Tr C10 E10=>hk df Tr (C10.mono (by omega)) (Ko.trans (E8.trans (E9.pa.px.trans E10))))
  refine⟨?_,?_⟩
  ·refine aa (aa ⟨_,C5.V.cell 0 rfl,aa ⟨_,_,_,B4.cell 2 rfl,row fun b' n' c' h7 o7 k7=>aH ⟨_,(C5.V.kb k7).cell 0 rfl,aa (put b' n' c' h7 o7 k7 fin)⟩⟩⟩)
  ·refine aa ⟨_,C5.V.cell 0 rfl,aa ⟨_,C5.V.cell 0 rfl,aa ⟨_,_,_,B4.cell 2 rfl,?_⟩⟩⟩
   exact fq (fun k hk=>hk.2) he hc Tq JE.cap.1 JE.nil (by omega) fun b6 c6 h6 o6 k6=>aH ⟨k6.ext,my (p:=fun y=>decide (y.1=id)) o6 (fun k hk=>hk.2) k6.1 (by omega) h1p (fun x h7 b' n' c' next hx k7 hn=>Xx (h6:=h5) v5 v5.lt x h7 b' n' c' next hx (SK.trans (k6.less fun q hq=>hq) k7) hn) fun b' n' c' h7 o7 k7=>aH (aa (put b' n' c' h7 (by rw[zv _ id h0];exact o7) (SK.trans k6 k7) fin))⟩
 ·have e:¬0<=fA mm.w.aE t.2.1:=e
  rw[if_neg e] at hk
  exact(l1.kb k2).ld (oX (C1.cU k2) (by omega) hv (l1.kb k2).T fun h3 c3 C3 E3=>hk h3 c3 (C3.mono (by omega)) ((al.kb (k1.trans k2)).trans E3))
end
section
variable {B:Nat->Prop} {h:H} {K:KV} {col:bY} {a w:Addr} {mm:MM} {u v x:Nat} {t:cm} {b:OA} {n c:Nat} {ns:List Bs} {s:Bs}
theorem Ty (C:CP h col a w mm u v x) (hu:u<=890000) {id:Int} (hk:∀h',KB h h'->K (.bool (qE mm.w id)) h'):zC 158 [.pointer (some a),.int .i64 id] h K:=by
 obtain⟨t,cp,T,W⟩:=C.p.ex
 obtain⟨ob,oc,mb,mn,mc,v,o,om⟩:=W.ex
 have jQ:=C.s.A.D.lo
 refine Tz.ok _ _ _ _ (af fun a1 h1 v1 k1 e1 s1=>aa ⟨_,(C.cU k1).V.cell 0 rfl,aa ⟨_,_,_,(v.kb k1).cell 1 rfl,?_⟩⟩)
 refine dI (p:=fun x=>decide (x.1=id)) (o.kb k1).row (fun x h2 next hx k2 hR hn=>?_) fun h2 k2=>aO ?_
 ·have e:fQ Tryz.prog 4 (.func (.func 200) ⟨[]⟩ ⟨[.pointer (some a1)]⟩) ⟨[.agg ⟨[.int .i64 x.1,.int .u8 x.2.1,S x.2.2.1,.int .u8 x.2.2.2]⟩]⟩ h2 next=
    zC 200 [.agg ⟨[.int .i64 x.1,.int .u8 x.2.1,S x.2.2.1,.int .u8 x.2.2.2]⟩,.pointer (some a1)] h2 fun v h'=>au v fun b=>cond b (next (.bool true) h') (next (.bool false) h'):=by kernel_rfl
  rw[e]
  refine Xby.ok _ _ _ _ _ _ _ (af fun a8 h8 v8 k8 e8 _=>⟨_,v8.cell 0 rfl,_,((v1.kb k2).kb k8).dA rfl,?_⟩)
  have:=hn h8 k8
  refine bf (fun e=>?_) fun e=>?_
  ·rw[decide_eq_true e] at this;exact this
  ·rw[decide_eq_false e] at this;exact this
 ·have gy:=k1.trans k2
  have hk:∀h',KB h2 h'->K (.bool (qE mm.w id)) h':=fun h' k'=>hk h' (gy.trans k')
  have hq:=ll (l:=mm.w.op) (p:=fun x=>decide (x.1=id))
  unfold qE at hk
  refine bf (fun e=>?_) fun e=>?_
  ·have:=hk h2 (KB.refl _)
   rwa[decide_eq_false (by show¬0<=cM _ _;omega),Bool.false_and] at this
  ·have e0:0<=gh mm.w.op id:=by show 0<=cM _ _;omega
   obtain⟨i,ei⟩:=Int.eq_ofNat_of_zero_le e0
   have hi:i<mm.w.op.length:=by have:gh mm.w.op id<(mm.w.op.length:Int):=hq.1;omega
   rw[decide_eq_true e0,Bool.true_and,ei] at hk
   rw[show(cM mm.w.op fun x=>decide (x.1=id))=(i:Int) from ei]
   have o2:=o.kb gy
   have hcap:=o2.cap
   have ry:=hcap.2
   simp only[maxLen] at ry
   have e1:((i:Int)+(1:Int))=((i+1:Nat):Int):=rfl
   refine aa ⟨_,(C.cU gy).V.cell 0 rfl,aa ⟨_,_,_,(v.kb gy).cell 1 rfl,aF (by omega) (by omega),⟨by omega,by omega,by omega⟩,?_⟩⟩
   rw[e1]
   have r0:Row bo (rS h2.size) h2 (if oc=i+1 then ob else Option.map (fun q=>q.add ((i+1)*4)) ob) (mm.w.op.length - (i+1)) (oc - (i+1)) ((mm.w.op.take mm.w.op.length).drop (i+1)):=o2.row.sub (lo:=i+1) (hi:=mm.w.op.length) (by omega) (Nat.le_refl _) rfl
   rw[List.take_length] at r0
   have e2:Int.toNat (mm.w.op.length:Int) - Int.toNat ((i+1:Nat):Int)=mm.w.op.length - (i+1):=rfl
   have e3:oc - Int.toNat ((i+1:Nat):Int)=oc - (i+1):=rfl
   have e4:Int.toNat ((i+1:Nat):Int)=i+1:=rfl
   rw[e2,e3,e4]
   have vJ:=r0.len
   refine⟨mm.w.op.length - (i+1)+1,?_⟩
   have key:∀N j h3,j+N=mm.w.op.length - (i+1)->KB h2 h3->((mm.w.op.drop (i+1)).take j).all oW=true->
     Tz.gz (fun h=>K (.bool true) h) (fun h=>K (.bool true) h) (fun y4 h=>K (.bool y4) h) (N+1) (if oc=i+1 then ob else Option.map (fun q=>q.add ((i+1)*4)) ob) (mm.w.op.length - (i+1)) (oc - (i+1)) ((mm.w.op.length - (i+1):Nat):Int) (j:Int) h3:=by
    intro N
    induction N with
    | zero=>
     intro j h3 hj k3 bm
     unfold Tz.gz LP Tz.iq
     refine cg (by omega) ?_
     have:=hk h3 k3
     rw[List.take_of_length_le (by omega)] at bm
     unfold eT at this
     rwa[show(i:Int).toNat=i from rfl,bm] at this
    | succ N ih=>
     intro j h3 hj k3 bm
     unfold Tz.gz LP Tz.iq
     have fU:j<(mm.w.op.drop (i+1)).length:=by omega
     refine bK (by omega) ((r0.kb k3).bj (i:=j) fU rfl fun q hA=>cT hA fun ow=>af fun a6 h7 v6 k6 e6 s6=>aQ v6 (by show 4<=4;omega) fun h8 v8 k8 s8=>gY (m:=(mm.w.op.drop (i+1))[j]) v8 ?_)
     have OZ:KB h3 h8:=KB.step k6 k8 (by omega)
     refine af fun oE dx mu gi Og RV=>af (cs:=CA.map S) fun oF gZ vd GX e15 Ex=>?_
     have hx:(mm.w.op.drop (i+1))[j] ∈ mm.w.op:=List.mem_of_mem_drop (List.getElem_mem fU)
     have Tu:gG (0,0,[42],0):=⟨⟨by decide,by decide⟩,⟨by decide,by decide⟩,by decide,⟨by decide,by decide⟩⟩
     have r2:Row bo (rS gZ.size) gZ (some oE) 2 2 [(0,0,[42],0),(mm.w.op.drop (i+1))[j]]:=
      Row.of (xs:=aW (0,0,[42],0)++aW (mm.w.op.drop (i+1))[j]) ⟨aW (0,0,[42],0),_,rfl,Tu.r,aW (mm.w.op.drop (i+1))[j],[],by simp,ow.r,rfl⟩ (fun jj x hx=>⟨oE,rfl,(mu.kb GX).cell jj hx⟩) rfl (Nat.le_refl _) (by decide) fun x e=>by cases e;exact(mu.kb GX).lt
     have Fh:=(OZ.trans gi).trans GX
     refine nh (sc:=0) (C.L.ml.kb (gy.trans (k3.trans Fh))) (fun k hk=>hk) r2 (fun x Ey=>?_) (iM (ws:=CA) vd (by decide) (by decide)) fun gI RU=>ag (aR (fun hb=>⟨aF (by omega) (by omega),ih (j+1) gI (by omega) ((k3.trans Fh).trans RU) ?_⟩) fun hb=>?_)
     ·rcases List.mem_cons.1 Ey with e | e
      ·rw[e];decide
      ·rw[List.mem_singleton.1 e];exact C.Xw _ hx
     ·rw[List.take_add_one,List.getElem?_eq_getElem fU,List.all_append,bm]
      show(true&& [_].all oW)=true
      rw[List.all_cons,List.all_nil,Bool.and_true]
      exact hb
     ·have:=hk gI ((k3.trans Fh).trans RU)
      have dk:eT (mm.w.op.drop (i+1))=false:=by
       unfold eT
       rw[Bool.eq_false_iff]
       intro hh
       have h2:=List.all_eq_true.1 hh _ (List.getElem_mem fU)
       have hb:oW (mm.w.op.drop (i+1))[j]=false:=hb
       rw[hb] at h2;cases h2
      rwa[show(i:Int).toNat=i from rfl,dk] at this
   exact key (mm.w.op.length - (i+1)) 0 h2 (by omega) (KB.refl _) rfl
theorem Im (C:CP h col a w mm u v x) (hu:u<=880000) (hk:j8 h col a w K {mm with w:=gF mm.w mm.fm,fm:= -1} u v x):zC 95 [.pointer (some a)] h K:=by
 unfold gF at hk
 refine Xbq.ok _ _ _ (aa ⟨_,C.V.cell 3 rfl,aa (C.Fi (mm2:={mm with fm:= -1}) rfl rfl (by decide) fun h1 C1 E1=>?_)⟩)
 refine bf (fun e=>Ty C1 (by omega) fun h2 k2=>ag (aR (fun e2=>aD ?_) fun e2=>aC ?_)) fun e=>aC ?_
 ·have e2:qE mm.w mm.fm=true:=e2
  rw[if_pos ⟨e,e2⟩] at hk
  refine jT (C1.cU k2) [] fun h3 c3 C3 E3=>aa ⟨_,C3.V.cell 0 rfl,?_⟩
  have jQ:=C3.s.A.D.lo
  exact lq C3.p (by omega) fun h4 c4 p4 E4 _=>hk h4 c4 (C3.pa p4 E4.pa (C3.s.drop _)) (E1.trans ((al.kb k2).trans (E3.trans E4.pa.px)))
 ·have e2:qE mm.w mm.fm=false:=e2
  rw[if_neg (by rw[e2];exact fun h=>by cases h.2)] at hk
  exact hk h2 col (C1.cU k2) (E1.trans (.kb k2))
 ·rw[if_neg (fun h=>e h.1)] at hk
  exact hk h1 col C1 E1
theorem wF (C:CP h col a w mm u v x) (T:fc h col t b n c) (hk:j8 h col a w K {mm with w:=dF mm.w 0 [] [t.2.1]} u v x):zC 94 [.pointer (some a),.agg ⟨aT (bR t b n c)⟩] h K:=by
 unfold dF at hk
 refine Xbp.ok _ _ _ _ (T.new C.f fun a1 h1 l1 k1 _=>⟨_,l1.nm,eM T.s.1 fun a2 h2 r2 k2=>AF ((C.cU k1).cU k2) r2 0 fun h3 k3=>?_⟩)
 have C3:=((C.cU k1).cU k2).cU k3
 have l3:=(l1.kb k2).kb k3
 have mT:al PX h col h3 col:=.kb (k1.trans (k2.trans k3))
 refine ag (aR (fun e=>?_) fun e=>?_)
 ·have e:kQ mm.w.op 0 [t.2.1]=true:=e
  rw[if_pos e] at hk
  exact jT C3 [] fun h4 c4 C4 E4=>⟨_,(l3.ext E4).nm,eM T.s.1 fun a5 h5 r5 k5=>O0 (C4.cU k5) r5 fun h6 c6 C6 E6=>hk h6 c6 C6 (mT.trans (E4.trans ((al.kb k5).trans E6)))⟩
 ·have e:kQ mm.w.op 0 [t.2.1]=false:=e
  rw[if_neg (by rw[e];decide)] at hk
  exact hk h3 col C3 mT
theorem TA (C:CP h col a w mm u v x) (hu:u<=880000) (hk:j8 h col a w K {mm with w:=uk mm.w} (u+1) v x):zC 96 [.pointer (some a)] h K:=by
 unfold uk at hk
 refine Xbu.ok _ _ _ (eM (by decide) fun a1 h1 r1 k1=>AF (C.cU k1) r1 2 fun h2 k2=>ag (aR (fun e=>?_) fun e=>?_))
 ·have e:kQ mm.w.op 2 wP=true:=e
  rw[if_pos e] at hk
  exact mv ((C.cU k1).cU k2) fun h3 c3 C3 E3=>hk h3 c3 (C3.mono (Nat.le_succ _)) ((al.kb (k1.trans k2)).trans E3)
 ·have e:kQ mm.w.op 2 wP=false:=e
  rw[if_neg (by rw[e];decide)] at hk
  exact ga ((C.cU k1).cU k2) (by omega) (fc.nil h2 col zf (nm:=[112]) (by decide)) fun h3 c3 C3 E3=>mv C3 fun h4 c4 C4 E4=>hk h4 c4 C4 ((al.kb (k1.trans k2)).trans (E3.trans E4))
theorem Io (C:CP h col a w mm u v x) (T:fc h col t b n c) (hk:j8 h col a w K {mm with w:=dF mm.w (if t.2.1=[108,105] then 1 else 0) t.2.1 [t.2.1]} u v x):zC 97 [.pointer (some a),.agg ⟨aT (bR t b n c)⟩] h K:=by
 obtain⟨sc,hsc⟩:∃sc:Int,(if t.2.1=[108,105] then 1 else 0)=sc:=⟨_,rfl⟩
 rw[hsc] at hk
 unfold dF at hk
 refine Xbs.ok _ _ _ _ (T.new C.f fun a1 h1 l1 k1 _=>?_)
 have rest:∃s1,cell h1 (a1.add 1)=some (S s1)/\(aw h1 #[S s1] 9 fun a2 h3=>zC 149 [.pointer (some a),.int .u8 sc,.slice (some a2) 1 1] h3 fun v4 h5=>au v4 fun b6=>cond b6 (∃s7,cell h5 (a1.add 1)=some (S s7)/\(zC 150 [.pointer (some a),S s7] h5 fun v8 h9=>∃oY,cell h9 (a1.add 1)=some (S oY)/\(aw h9 #[S oY] 9 fun jC eL=>zC 151 [.pointer (some a),.slice (some jC) 1 1] eL fun mu dx=>K (.tuple ⟨[]⟩) dx))) (K (.tuple ⟨[]⟩) h5)):=by
  refine⟨_,l1.nm,eM T.s.1 fun a2 h2 r2 k2=>AF ((C.cU k1).cU k2) r2 sc fun h3 k3=>?_⟩
  have C3:=((C.cU k1).cU k2).cU k3
  have l3:=(l1.kb k2).kb k3
  have mT:al PX h col h3 col:=.kb (k1.trans (k2.trans k3))
  refine ag (aR (fun e=>?_) fun e=>?_)
  ·have e:kQ mm.w.op sc [t.2.1]=true:=e
   rw[if_pos e] at hk
   exact⟨_,l3.nm,jT C3 t.2.1 fun h4 c4 C4 E4=>⟨_,(l3.ext E4).nm,eM T.s.1 fun a5 h5 r5 k5=>O0 (C4.cU k5) r5 fun h6 c6 C6 E6=>hk h6 c6 C6 (mT.trans (E4.trans ((al.kb k5).trans E6)))⟩⟩
  ·have e:kQ mm.w.op sc [t.2.1]=false:=e
   rw[if_neg (by rw[e];decide)] at hk
   exact hk h3 col C3 mT
 refine⟨_,l1.nm,bf (fun e=>?_) fun e=>?_⟩
 ·rw[show sc=1 by rw[<-hsc,if_pos e]] at rest;exact rest
 ·rw[show sc=0 by rw[<-hsc,if_neg e]] at rest;exact rest
theorem Ip (C:CP h col a w mm u v x) (hk:j8 h col a w K {mm with w:=dF mm.w 0 [] yy} u v x):zC 98 [.pointer (some a)] h K:=by
 unfold dF at hk
 refine Xbr.ok _ _ _ (AK fun a2 h2 r2 k2=>aH (AF (C.cU k2) r2 0 fun h3 k3=>?_))
 have C3:=(C.cU k2).cU k3
 have mT:al PX h col h3 col:=.kb (k2.trans k3)
 refine ag (aR (fun e=>?_) fun e=>?_)
 ·have e:kQ mm.w.op 0 yy=true:=e
  rw[if_pos e] at hk
  exact jT C3 [] fun h4 c4 C4 E4=>AK fun a5 h5 r5 k5=>aH (O0 (C4.cU k5) r5 fun h6 c6 C6 E6=>hk h6 c6 C6 (mT.trans (E4.trans ((al.kb k5).trans E6))))
 ·have e:kQ mm.w.op 0 yy=false:=e
  rw[if_neg (by rw[e];decide)] at hk
  exact hk h3 col C3 mT
theorem CB (C:CP h col a w mm u v x) (hv:v<=10000) (T:fc h col t b n c) (hk:j8 h col a w K {mm with w:=lh mm.w t.2.1} u v x):zC 99 [.pointer (some a),.agg ⟨aT (bR t b n c)⟩] h K:=by
 unfold lh at hk
 refine Xbt.ok _ _ _ _ (T.new C.f fun a1 h1 l1 k1 _=>⟨_,l1.nm,eM T.s.1 fun a2 h2 r2 k2=>AF ((C.cU k1).cU k2) r2 0 fun h3 k3=>?_⟩)
 have C3:=((C.cU k1).cU k2).cU k3
 have l3:=(l1.kb k2).kb k3
 have mT:al PX h col h3 col:=.kb (k1.trans (k2.trans k3))
 refine ag (aR (fun e=>aD ?_) fun e=>aC ?_)
 ·have e:kQ mm.w.op 0 [t.2.1]=true:=e
  rw[if_pos e] at hk
  refine l3.ld (wF C3 l3.T fun h4 c4 C4 E4=>?_)
  have ei:dF mm.w 0 [] [t.2.1]=wc mm.w [] [t.2.1]:=by unfold dF;rw[if_pos e]
  obtain⟨tr,cp,T4,W4⟩:=C4.p.ex
  obtain⟨ob,oc,mb,mn,mc,vw,o,om⟩:=W4.ex
  have jR:=C4.s.A.D.ml
  have hl:=om.len
  obtain⟨xs,he,hc,_⟩:=om.parts
  refine aa ⟨_,C4.V.cell 0 rfl,aa ⟨_,C4.V.cell 0 rfl,aa ⟨_,_,_,vw.cell 2 rfl,CC (fun k hk=>hk.2) om.row (fun k hk=>hk) he hc om.nil (by omega) fun b5 n5 c5 h5 o5 k5=>aH ⟨k5.ext,aa (dY W4 C4.f k5 o5 fun h6 W6 E6 f6 _=>?_)⟩⟩⟩⟩
  have E6a:al PA h4 c4 h6 _:=E6.mono fun s hs=>.inl (.inr hs)
  have s6:=C4.s.clear
  have p6:PW h6 (cz c4 h4 b5 (2,2)) w {dF mm.w 0 [] [t.2.1] with aE:=lH (dF mm.w 0 [] [t.2.1]).aE}:=⟨tr,cp,T4.cf (S:=fun k=>k=2) (by decide) E6 f6,W6⟩
  have C6:=C4.pa p6 E6a s6
  have em:(wc mm.w [] [t.2.1]).aE=mm.w.aE:=by
   unfold wc upW wy cZ;rfl
  rw[ei,em] at C6
  exact hk h6 _ C6 (mT.trans (E4.trans E6a.px))
 ·have e:kQ mm.w.op 0 [t.2.1]=false:=e
  rw[if_neg (by rw[e];decide)] at hk
  exact hk h3 col C3 mT
end
section
variable {h:H} {K:KV} {col:bY} {w:Addr} {m:WM}
theorem CD (p:PW h col w m) (G:aV m.ns) (bL:0<m.op.length) (eD:m.op.length<1000000) (AB:m.ns.length<1000000) {tx:Bs} (Fb:tx.length<=maxLen)
  (hk:∀h' col',PW h' col' w (uw m tx)->al PS h col h' col'->K (.tuple ⟨[]⟩) h'):
  zC 41 [.pointer (some w),S tx] h K:=by
 obtain⟨t,cp,T,W⟩:=p.ex
 refine Xdd.ok _ _ _ _ ?_
 refine eN W bL (by omega) fun h2 k2=>?_
 refine jm (x:=dP m.op) ?_
 refine lr (x:=dP m.op) (T.kb k2) (W.kb k2) (by omega) fun h3 k3=>lk ?_
 have gi:=k2.trans k3
 obtain⟨ob,oc,mb,mn,mc,vw,ow,Yo⟩:=(W.kb gi).ex
 have G4:aV (bE m.ns (bF 3 0 [] [] tx)).1:=G.bE _ _ _ _ _
 have tail:∀h4 c4 su,bz h4 c4 0 t su (bE m.ns (bF 3 0 [] [] tx)).1->Ext 0 h3 col h4 c4->zC 65 [.pointer (some t),.int .i64 (cy m.ns m.op m.fo (dP m.op)).1,.int .i64 (cy m.ns m.op m.fo (dP m.op)).2,.int .i64 (bE m.ns (bF 3 0 [] [] tx)).2] h4 fun v40 yH=>au v40 fun Yp=>cond Yp (K (.tuple ⟨[]⟩) yH) (K (.tuple ⟨[]⟩) yH):=fun h4 c4 su T4 E4=>by
  refine pM T4 G4 fun h5 c5 T5 E5=>ag ?_
  have Cv:al (fun s=>s=0) h3 col h4 c4:=E4.p rfl
  have Kv:al (fun s=>s=0) h4 c4 h5 c5:=E5.p rfl
  have W5:=((W.kb gi).ext Cv (by decide)).ext Kv (by decide)
  have fin:K (.tuple ⟨[]⟩) h5:=hk h5 c5 ⟨t,su,T5,W5⟩ ((al.kb gi).trans ((Cv.trans Kv).mono fun s hs=>.inl hs))
  exact dm (K:=fun _=>K (.tuple ⟨[]⟩) h5) fin
 refine⟨aa (aa ⟨_,vw.cell 0 rfl,j9 (T.kb gi) (sm (A:=fun _=>True)) (fun _=>rfl) (by decide) ⟨by decide,by decide⟩ ⟨by decide,by decide⟩ (by decide) Fb AB fun h4 c4 su T4 E4=>aO ?_⟩),
  aa ⟨_,vw.cell 0 rfl,aa ⟨_,vw.cell 0 rfl,j9 (T.kb gi) (sm (A:=fun _=>True)) (fun _=>rfl) (by decide) ⟨by decide,by decide⟩ ⟨by decide,by decide⟩ (by decide) Fb AB fun h4 c4 su T4 E4=>aO (tail h4 c4 su T4 E4)⟩⟩⟩
 obtain⟨OS,OT,Th,Ks,Kt,yE,_,_⟩:=((W.kb gi).ext (S:=fun s=>s=0) (E4.p rfl) (by decide)).ex
 exact⟨_,yE.cell 0 rfl,tail h4 c4 su T4 E4⟩
end
theorem cH {s w:Bs} (h:¬s=w):s ∉ [w]:=fun hm=>h (List.mem_singleton.1 hm)
section
variable {B:Nat->Prop} {h:H} {K:KV} {col:bY} {a w:Addr} {mm:MM} {u v x:Nat} {t:cm} {b:OA} {n c:Nat} {ns:List Bs} {s:Bs}
theorem O1 (C:CP h col a w mm u v x) (hu:u<=700000) (hv:v<=10000) (T:fc h col t b n c) (hk:j8 h col a w K (fV mm t) (u+2*v+40) (v+1) x):zC 42 [.pointer (some a),.agg ⟨aT (bR t b n c)⟩] h K:=by
 refine Xcn.ok _ _ _ _ (T.new C.f fun a1 h1 l1 k1 _=>⟨_,l1.nm,?_⟩)
 have C1:=C.cU k1
 have fin:∀{k:Nat} (ek:oq t.2.1=k) {mm2:MM} {u2 v2:Nat} h2 c2,wa mm t k=mm2->CP h2 c2 a w mm2 u2 v2 x->u2<=u+2*v+40->v2<=v+1->al PX h1 col h2 c2->K (.tuple ⟨[]⟩) h2:=fun {k} ek {mm2 u2 v2} h2 c2 em C2 h1 u0 E2=>by
  unfold fV at hk
  rw[ek,em] at hk
  exact hk h2 c2 (C2.rX h1 u0) ((al.kb k1).trans E2)
 refine jb (fun hm=>aD (fin (aN 0 (by decide) hm) h1 col rfl C1 (by omega) (by omega) (.refl _ _ _))) fun n1=>aC ?_
 refine jb (fun hm=>aD (l1.ld (AJ C1 (by omega) l1.T fun h2 c2 C2 E2=>fin (aN 1 (by decide) hm) h2 c2 rfl C2 (by omega) (by omega) E2))) fun n2=>aC ?_
 refine bf (fun e=>aD (l1.ld (KH C1 (by omega) l1.T fun h2 c2 C2 E2=>fin (aN 2 (by decide) (by rw[e];decide)) h2 c2 rfl C2 (by omega) (by omega) E2))) fun n3=>aC ?_
 refine jb (fun hm=>aD (l1.ld (RY C1 (by omega) l1.T fun h2 c2 C2 E2=>fin (aN 3 (by decide) hm) h2 c2 rfl C2 (by omega) (by omega) E2))) fun n4=>aC ?_
 refine bf (fun e=>aD (l1.ld (KI C1 (by omega) l1.T fun h2 c2 C2 E2=>fin (aN 4 (by decide) (by rw[e];decide)) h2 c2 rfl C2 (by omega) (by omega) E2))) fun n5=>aC ?_
 refine jb (fun hm=>aD (l1.ld (ng C1 (by omega) l1.T fun h2 c2 C2 E2=>fin (aN 5 (by decide) hm) h2 c2 rfl C2 (by omega) (by omega) E2))) fun n6=>aC ?_
 refine jb (fun hm=>aD (l1.ld (TE C1 (by omega) l1.T fun h2 c2 C2 E2=>fin (aN 6 (by decide) hm) h2 c2 rfl C2 (by omega) (by omega) E2))) fun n7=>aC ?_
 refine jb (fun hm=>aD (l1.ld (Yx C1 (by omega) l1.T fun h2 c2 C2 E2=>fin (aN 7 (by decide) hm) h2 c2 rfl C2 (by omega) (by omega) E2))) fun n8=>aC ?_
 refine bf (fun e=>aD (l1.ld (TF C1 (by omega) l1.T fun h2 c2 C2 E2=>fin (aN 8 (by decide) (by rw[e];decide)) h2 c2 rfl C2 (by omega) (by omega) E2))) fun n9=>aC ?_
 refine bf (fun e=>aD (l1.ld (aed C1 (by omega) l1.T fun h2 c2 C2 E2=>fin (aN 9 (by decide) (by rw[e];decide)) h2 c2 rfl C2 (by omega) (by omega) E2))) fun rZ=>aC ?_
 refine jb (fun hm=>aD (l1.ld (aee C1 (by omega) l1.T fun h2 c2 C2 E2=>fin (aN 10 (by decide) hm) h2 c2 rfl C2 (by omega) (by omega) E2))) fun Ar=>aC ?_
 refine bf (fun e=>aD (l1.ld (CE C1 (by omega) l1.T fun h2 c2 C2 E2=>fin (aN 11 (by decide) (by rw[e];decide)) h2 c2 rfl C2 (by omega) (by omega) E2))) fun ui=>aC ?_
 refine bf (fun e=>aD (l1.ld (KC C1 (by omega) hv l1.T fun h2 c2 C2 E2=>fin (aN 12 (by decide) (by rw[e];decide)) h2 c2 rfl C2 (by omega) (by omega) E2))) fun JW=>aC ?_
 refine bf (fun e=>aD (l1.ld (Tx C1 hu hv l1.T fun h2 c2 C2 E2=>fin (aN 13 (by decide) (by rw[e];decide)) h2 c2 rfl C2 (by omega) (by omega) E2))) fun JD=>aC ?_
 refine bf (fun e=>aD (l1.ld (Tv C1 hu hv l1.T fun h2 c2 C2 E2=>fin (aN 14 (by decide) (by rw[e];decide)) h2 c2 rfl C2 (by omega) (by omega) E2))) fun n15=>aC ?_
 refine jb (fun hm=>aD (l1.ld (Kz C1 (by omega) hv l1.T fun h2 c2 C2 E2=>fin (aN 15 (by decide) hm) h2 c2 rfl C2 (by omega) (by omega) E2))) fun n16=>aC ?_
 refine bf (fun e=>aD (l1.ld (O2 C1 (by omega) l1.T fun h2 c2 C2 E2=>fin (aN 16 (by decide) (by rw[e];decide)) h2 c2 rfl C2 (by omega) (by omega) E2))) fun n17=>aC ?_
 refine jb (fun hm=>aD (l1.ld (AH C1 (by omega) hv l1.T fun h2 c2 C2 E2=>fin (aN 17 (by decide) hm) h2 c2 rfl C2 (by omega) (by omega) E2))) fun n18=>aC ?_
 refine bf (fun e=>aD (l1.ld (OX C1 (by omega) hv l1.T fun h2 c2 C2 E2=>fin (aN 18 (by decide) (by rw[e];decide)) h2 c2 rfl C2 (by omega) (by omega) E2))) fun n19=>aC ?_
 refine bf (fun e=>aD (l1.ld (aef C1 (by omega) l1.T fun h2 c2 C2 E2=>fin (aN 19 (by decide) (by rw[e];decide)) h2 c2 rfl C2 (by omega) (by omega) E2))) fun n20=>aC ?_
 refine bf (fun e=>aD (l1.ld (Fj C1 (by omega) l1.T fun h2 c2 C2 E2=>fin (aN 20 (by decide) (by rw[e];decide)) h2 c2 rfl C2 (by omega) (by omega) E2))) fun n21=>aC ?_
 refine bf (fun e=>aD (l1.ld (Yv C1 (by omega) hv l1.T fun h2 c2 C2 E2=>fin (aN 21 (by decide) (by rw[e];decide)) h2 c2 rfl C2 (by omega) (by omega) E2))) fun n22=>aC ?_
 refine jb (fun hm=>aD (l1.ld (KG C1 (by omega) hv l1.T fun h2 c2 C2 E2=>fin (aN 22 (by decide) hm) h2 c2 rfl C2 (by omega) (by omega) E2))) fun n23=>aC ?_
 refine jb (fun hm=>aD (l1.ld (Tw C1 (by omega) l1.T fun h2 c2 C2 E2=>fin (aN 23 (by decide) hm) h2 c2 rfl C2 (by omega) (by omega) E2))) fun n24=>aC ?_
 refine jb (fun hm=>aD (l1.ld (OY C1 (by omega) hv l1.T fun h2 c2 C2 E2=>fin (aN 24 (by decide) hm) h2 c2 rfl C2 (by omega) (by omega) E2))) fun n25=>aC ?_
 have ea:oq t.2.1=0:=GJ n1 n2 (cH n3) n4 (cH n5) n6 n7 n8 (cH n9) (cH rZ) Ar (cH ui) (cH JW) (cH JD) (cH n15) n16 (cH n17) n18 (cH n19) (cH n20) (cH n21) (cH n22) n23 n24 n25
 refine⟨_,l1.nm,mz C1.L.ml (by have:=T.s.1;omega) (ag (aR (fun e=>?_) fun e=>?_))⟩
 ·exact l1.ld (oX C1 (by omega) hv l1.T fun h2 c2 C2 E2=>fin ea h2 c2 (by show lG mm t=_;unfold lG;rw[if_pos e]) C2 (by omega) (by omega) E2)
 ·exact l1.ld (pL C1 (by omega) hv l1.T fun h2 c2 C2 E2=>fin ea h2 c2 (by show lG mm t=_;unfold lG;rw[if_neg (by rw[e];decide)]) C2 (by omega) (by omega) E2)
theorem Yy (C:CP h col a w mm u v x) (hu:u<=700000) (hv:v<=10000) (T:fc h col t b n c) (hk:j8 h col a w K (Ib mm t.2.1) (u+2*v+40) (v+1) x):zC 43 [.pointer (some a),.agg ⟨aT (bR t b n c)⟩] h K:=by
 refine Xbo.ok _ _ _ _ (T.new C.f fun a1 h1 l1 k1 _=>⟨_,l1.nm,?_⟩)
 have C1:=C.cU k1
 have T1:=fc.nil h1 col zf (nm:=[98,114]) (by decide)
 have fin:∀{k:Nat} (ek:ma t.2.1=k) {w2:WM} {f2:Int} {u2 v2:Nat} h2 c2,EN mm.w t.2.1 mm.fm k=w2->(if k=3 then -1 else mm.fm)=f2->CP h2 c2 a w {mm with w:=w2,fm:=f2} u2 v2 x->u2<=u+2*v+40->v2<=v+1->al PX h1 col h2 c2->K (.tuple ⟨[]⟩) h2:=fun {k} ek {w2 f2 u2 v2} h2 c2 em ef C2 h1 u0 E2=>by
  unfold Ib at hk
  rw[ek,em,ef] at hk
  exact hk h2 c2 (C2.rX h1 u0) ((al.kb k1).trans E2)
 refine jb (fun hm=>aD (fin (bN 0 (by decide) hm) h1 col rfl (if_neg (by decide)) C1 (by omega) (by omega) (.refl _ _ _))) fun n1=>aC ?_
 refine jb (fun hm=>aD (l1.ld (wF C1 l1.T fun h2 c2 C2 E2=>fin (bN 1 (by decide) hm) h2 c2 rfl (if_neg (by decide)) C2 (by omega) (by omega) E2))) fun n2=>aC ?_
 refine bf (fun e=>aD (Im C1 (by omega) fun h2 c2 C2 E2=>fin (bN 2 (by decide) (by rw[e];decide)) h2 c2 rfl (if_pos (by decide)) C2 (by omega) (by omega) E2)) fun n3=>aC ?_
 refine bf (fun e=>aD (TA C1 (by omega) fun h2 c2 C2 E2=>fin (bN 3 (by decide) (by rw[e];decide)) h2 c2 rfl (if_neg (by decide)) C2 (by omega) (by omega) E2)) fun n4=>aC ?_
 refine jb (fun hm=>aD (l1.ld (Io C1 l1.T fun h2 c2 C2 E2=>fin (bN 4 (by decide) hm) h2 c2 rfl (if_neg (by decide)) C2 (by omega) (by omega) E2))) fun n5=>aC ?_
 refine jb (fun hm=>aD (Ip C1 fun h2 c2 C2 E2=>fin (bN 5 (by decide) hm) h2 c2 rfl (if_neg (by decide)) C2 (by omega) (by omega) E2)) fun n6=>aC ?_
 refine jb (fun hm=>aD (l1.ld (CB C1 hv l1.T fun h2 c2 C2 E2=>fin (bN 6 (by decide) hm) h2 c2 rfl (if_neg (by decide)) C2 (by omega) (by omega) E2))) fun n7=>aC ?_
 refine bf (fun e=>aD (AH (t:=se 0 [98,114]) (b:=none) (n:=0) (c:=0) C1 (by omega) hv T1 fun h2 c2 C2 E2=>fin (bN 7 (by decide) (by rw[e];decide)) h2 c2 rfl (if_neg (by decide)) C2 (by omega) (by omega) E2)) fun n8=>aC ?_
 have ea:ma t.2.1=0:=GL n1 n2 (cH n3) (cH n4) n5 n6 n7 (cH n8)
 refine⟨_,l1.nm,mz C1.L.ml (by have:=T.s.1;omega) (ag (aR (fun e=>?_) fun e=>?_))⟩
 ·exact l1.ld (AG C1 (by omega) hv l1.T fun h2 c2 C2 E2=>fin ea h2 c2 (by show(if dS t.2.1=true then bW mm.w t.2.1 else fk mm.w t.2.1)=_;rw[if_pos e]) (if_neg (by decide)) C2 (by omega) (by omega) E2)
 ·have jQ:=C1.s.A.D.lo
  exact aa ⟨_,C1.V.cell 0 rfl,_,l1.nm,qP C1.L C1.p (by omega) (fun y hy=>by have:=C1.s.A.yD y hy;omega) fun h3 c3 p3 E3=>fin ea h3 c3 (by show(if dS t.2.1=true then bW mm.w t.2.1 else fk mm.w t.2.1)=_;rw[if_neg (by rw[e];decide)]) (if_neg (by decide)) (C1.pa p3 E3.pa (C1.s.close _)) (by omega) (by omega) E3.pa.px⟩
theorem CG.mQ {Wp:H->bY->Addr->WM->Prop} {ty z:Nat} (C:CG Wp ty z h col a w mm u v x) (hx:x<=100000000) {tx:Bs} (ht:tx.length<=4000):∀(i:Nat) y,mm.w.ns[i]? =some y->y.text.length+tx.length<=9223372036854775807:=fun i y hy=>by
 have:=C.s.A.D.tx i y hy
 omega
theorem GZ (C:CP h col a w mm u v x) (hu:u<=890000) (hx:x<=100000000) (hs:s.length<=4000) (hk:j8 h col a w K {mm with w:=fW mm.w s} (u+1) v (x+4000)):zC 36 [.pointer (some w),S s] h K:=by
 have jQ:=C.s.A.D.lo
 have qF:=C.s.A.D.ln
 exact AL C.p C.s.A.D.G C.s.A.D.ne (by omega) (by omega) (C.mQ hx hs) (by simp only[maxLen];omega) fun h2 c2 p2 E2=>hk h2 c2 (C.pa p2 E2.pa (C.s.write hs)) E2.pa.px
theorem Kb (C:CP h col a w mm u v x) (hu:u<=700000) (hv:v<=10000) (hx:x<=100000000) (T:fc h col t b n c) (hk:j8 h col a w K (sf mm t) (u+2*v+40) (v+1) (x+4000)):zC 21 [.pointer (some a),.agg ⟨aT (bR t b n c)⟩] h K:=by
 unfold sf at hk
 refine Xbg.ok _ _ _ _ (T.new C.f fun a1 h1 l1 k1 _=>⟨_,l1.V.cell 0 rfl,?_⟩)
 have C1:=C.cU k1
 refine bf (fun e=>aD ?_) fun e=>aC (bf (fun e2=>aD ?_) fun e2=>aC (bf (fun e3=>?_) fun e3=>bf (fun e4=>?_) fun e4=>?_))
 ·have e:t.1=1:=e
  rw[if_pos e] at hk
  exact aa ⟨_,C1.V.cell 0 rfl,zu C1 (by omega) hv fun h2 c2 C2 E2=>aa ⟨_,C2.V.cell 0 rfl,_,(l1.ext E2).V.cell 4 rfl,GZ C2 (by omega) hx T.s.2.2.2 fun h3 c3 C3 E3=>hk h3 c3 (C3.rX (by omega) (by omega)) ((al.kb k1).trans (E2.trans E3))⟩⟩
 ·have e:¬t.1=1:=e
  have e2:t.1=4:=e2
  rw[if_neg e,if_pos e2] at hk
  have jQ:=C1.s.A.D.lo
  have qF:=C1.s.A.D.ln
  have ht:=T.s.2.2.2
  exact aa ⟨_,C1.V.cell 0 rfl,_,l1.V.cell 4 rfl,CD C1.p C1.s.A.D.G C1.s.A.D.ne (by omega) (by omega) (by show t.2.2.2.2.length<=_;simp only[maxLen];omega) fun h2 c2 p2 E2=>hk h2 c2 ((C1.pa p2 E2.pa (C1.s.note ht)).rX (by omega) (by omega)) ((al.kb k1).trans E2.pa.px)⟩
 ·have e:¬t.1=1:=e
  have e2:¬t.1=4:=e2
  have e3:t.1=2:=e3
  rw[if_neg e,if_neg e2,if_pos e3] at hk
  exact l1.ld (O1 C1 hu hv l1.T fun h2 c2 C2 E2=>hk h2 c2 (C2.nT (Nat.le_refl _) (Nat.le_refl _) (by omega)) ((al.kb k1).trans E2))
 ·have e:¬t.1=1:=e
  have e2:¬t.1=4:=e2
  have e3:¬t.1=2:=e3
  have e4:t.1=3:=e4
  rw[if_neg e,if_neg e2,if_neg e3,if_pos e4] at hk
  exact l1.ld (Yy C1 hu hv l1.T fun h2 c2 C2 E2=>hk h2 c2 (C2.nT (Nat.le_refl _) (Nat.le_refl _) (by omega)) ((al.kb k1).trans E2))
 ·have e:¬t.1=1:=e
  have e2:¬t.1=4:=e2
  have e3:¬t.1=2:=e3
  have e4:¬t.1=3:=e4
  rw[if_neg e,if_neg e2,if_neg e3,if_neg e4] at hk
  exact hk h1 col (C1.nT (by omega) (by omega) (by omega)) (.kb k1)
theorem Ka (C:CP h col a w mm u v x) (hu:u<=800000) (hx:x<=100000000) (T:fc h col t b n c) (hk:j8 h col a w K (sg mm t) (u+1) v (x+4000)):zC 19 [.pointer (some a),.agg ⟨aT (bR t b n c)⟩] h K:=by
 unfold sg at hk
 refine Xcv.ok _ _ _ _ (T.new C.f fun a1 h1 l1 k1 _=>⟨_,l1.V.cell 0 rfl,?_⟩)
 have C1:=C.cU k1
 refine bf (fun e=>?_) fun e=>?_
 ·have e:t.1=1:=e
  rw[if_pos e] at hk
  exact aa ⟨_,C1.V.cell 0 rfl,_,l1.V.cell 4 rfl,GZ C1 (by omega) hx T.s.2.2.2 fun h3 c3 C3 E3=>hk h3 c3 C3 ((al.kb k1).trans E3)⟩
 ·have e:¬t.1=1:=e
  rw[if_neg e] at hk
  exact Cz C1 (by omega) fun h2 c2 C2 E2=>aa ⟨_,C2.V.cell 2 rfl,aa (C2.Fi (mm2:={mm with w:=sh mm.w,mode:=mm.back}) rfl rfl (by decide) fun h3 C3 E3=>aa (C3.Fi (mm2:={mm with w:=sh mm.w,mode:=mm.back,read:=0}) rfl rfl (by decide) fun h4 C4 E4=>aa (C4.Fi (mm2:={mm with w:=sh mm.w,mode:=mm.back,read:=0,nm:=[]}) rfl rfl (by decide) fun h5 C5 E5=>hk h5 _ (C5.nT (by omega) (Nat.le_refl _) (by omega)) ((al.kb k1).trans (E2.trans (E3.trans (E4.trans E5)))))))⟩
theorem RO {h:H} {col:bY} {K:KV} (f:bh h col) (L:kS h col) (hk:∀a w h' c',CP h' c' a w J3 1 0 0->al PX h col h' c'->K (.pointer (some a)) h'):zC 14 [] h K:=by
 refine Xcs.ok _ _ (wG f fun w h1 c1 p1 E1=>cL (af fun a2 h2 v2 k2 e2 s2=>?_))
 have ib:h1.size<=a2.block:=by omega
 have E2:al PX h1 c1 h2 (cr c1 a2.block (6,0)):=⟨k2.less fun k hk=>hk.1,fun k hk=>dG (by omega)⟩
 have f2:bh h2 (cr c1 a2.block (6,0)):=(p1.fresh.kb k2).cr v2.lt
 have p2:PW h2 (cr c1 a2.block (6,0)) w EP:=p1.ext (Z:=fun _=>False) ⟨k2.less fun k hk=>hk.1,fun k hk=>dG (by omega)⟩ id id f2
 exact hk a2 w h2 _ ⟨v2,fX,p2,f2,L.ext (E1.pa.px.trans E2),⟨AI.zero,MW.zero⟩⟩ (E1.pa.px.trans E2)
end
theorem sub_one (s:Bs):sub s (1:Int) (s.length:Int)=s.drop 1:=by
 unfold sub
 rw[show Int.toNat (1:Int)=1 from rfl,Int.toNat_natCast]
 exact List.take_of_length_le (by rw[List.length_drop];exact Nat.le_refl _)
abbrev jE (t:cm):cm:=(t.1,t.2.1,t.2.2.1,t.2.2.2.1,t.2.2.2.2.drop 1)
theorem wh {h:H} {a:Addr} {ty:Nat} {t:Tk} {K:Tk->Prop} (v:Var h a ty (aT t)) (hk:K t):bJ h a K:=⟨_,v.cell 0 rfl,_,v.cell 1 rfl,_,_,_,v.cell 2 rfl,_,v.cell 3 rfl,_,v.cell 4 rfl,hk⟩
def S6 (g3 g4:Nat) (h h':H):Prop:=SK (fun k=>k≠g3/\k≠g4) h h'/\h'.size=h.size
section
variable {h h':H} {t:cm} {b:OA} {n c:Nat} {x3 x4:Addr} {cs:List Value}
theorem GO (v3:Var h x3 45 (aT (bR t b n c))) (v4:Var h x4 45 cs) (hcs:cs.length=5) (bL:x3.block≠x4.block) (hh:t.2.2.2.2.head? =some 10) {Kr:Addr->Bool->H->Prop}
  (hk:∀h5,Var h5 x4 45 (aT (bR (jE t) b n c))->S6 x3.block x4.block h h5->Kr x4 (!decide (t.2.2.2.2.drop 1=[])) h5):
  ∃s3,cell h (x3.add 4)=some (S s3)/\((0<=(1:Int)/\(1:Int)<=(s3.length:Int)/\(s3.length:Int)<=(s3.length:Int))/\(bc (x3.add 4) [(S (sub s3 (1:Int) (s3.length:Int)))] 0 h fun h4=>(bJ h4 x3 fun t5=>bc x4 [.int .u8 t5.k,S t5.n,.slice t5.b t5.l t5.c,.bool t5.z,S t5.t] 0 h4 fun h6=>∃s7,cell h6 (x3.add 4)=some (S s7)/\(aM (s7=([]:List UInt8)) (Kr x4 false h6) (Kr x4 true h6)))/\((bJ h4 x3 fun t8=>∃s9,cell h4 (x3.add 4)=some (S s9)/\(bc x4 [.int .u8 t8.k,S t8.n,.slice t8.b t8.l t8.c,.bool t8.z,S t8.t] 0 h4 fun df=>aM (s9=([]:List UInt8)) (Kr x4 false df) (Kr x4 true df)))/\(bJ h4 x3 fun t11=>∃jU,cell h4 (x3.add 4)=some (S jU)/\(aM (jU=([]:List UInt8)) (bc x4 [.int .u8 t11.k,S t11.n,.slice t11.b t11.l t11.c,.bool t11.z,S t11.t] 0 h4 fun fI=>Kr x4 false fI) (bc x4 [.int .u8 t11.k,S t11.n,.slice t11.b t11.l t11.c,.bool t11.z,S t11.t] 0 h4 fun dx=>Kr x4 true dx)))))):=by
 have hl:1<=t.2.2.2.2.length:=by
  cases hq:t.2.2.2.2 with
  | nil=>rw[hq] at hh;cases hh
  | cons a l=>simp
 refine⟨t.2.2.2.2,v3.cell 4 rfl,⟨⟨by omega,by omega,by omega⟩,cv (m:=4) (i:=0) v3 (by show 4+0+1<=5;omega) fun h4 zw k4 s4=>?_⟩⟩
 have w3:Var h4 x3 45 (aT (bR (jE t) b n c)):=by rw[sub_one] at zw;exact zw
 have w4:Var h4 x4 45 cs:=v4.keep k4.w fun e=>bL e.symm
 have put:∀{Q:H->Prop},(∀h5,Var h5 x4 45 (aT (bR (jE t) b n c))->Var h5 x3 45 (aT (bR (jE t) b n c))->S6 x3.block x4.block h h5->Q h5)->bc x4 (aT (bR (jE t) b n c)) 0 h4 Q:=fun {Q} hQ=>
  aQ w4 (by rw[hcs];exact Nat.le_refl _) fun h5 v5 k5 s5=>hQ h5 (by
   match cs,hcs,v5 with
   | [_,_,_,_,_],_,v5=>exact v5) (w3.keep k5.w fun e=>bL e) ⟨SK.trans (k4.less fun k hk=>hk.1) (k5.less fun k hk=>hk.2),by rw[s5,s4]⟩
 have yes:∀h5,Var h5 x4 45 (aT (bR (jE t) b n c))->S6 x3.block x4.block h h5->t.2.2.2.2.drop 1=[]->Kr x4 false h5:=fun h5 v5 k5 e=>by
  have:=hk h5 v5 k5
  rwa[decide_eq_true e] at this
 have no:∀h5,Var h5 x4 45 (aT (bR (jE t) b n c))->S6 x3.block x4.block h h5->¬t.2.2.2.2.drop 1=[]->Kr x4 true h5:=fun h5 v5 k5 e=>by
  have:=hk h5 v5 k5
  rwa[decide_eq_false e] at this
 refine⟨wh w3 (put fun h5 v5 v53 k5=>⟨_,v53.cell 4 rfl,bf (fun e=>yes h5 v5 k5 e) fun e=>no h5 v5 k5 e⟩),wh w3 ⟨_,w3.cell 4 rfl,put fun h5 v5 v53 k5=>bf (fun e=>yes h5 v5 k5 e) fun e=>no h5 v5 k5 e⟩,wh w3 ⟨_,w3.cell 4 rfl,bf (fun e=>put fun h5 v5 v53 k5=>yes h5 v5 k5 e) fun e=>put fun h5 v5 v53 k5=>no h5 v5 k5 e⟩⟩
end
section
variable {h h3 h4:H} {K:KV} {col:bY} {a w:Addr} {mm mmo:MM} {u v x:Nat} {t:cm} {b:OA} {n c:Nat} {s:Bs} {Wp:H->bY->Addr->WM->Prop} {ty z g3 g4:Nat}
theorem CG.two (C0:CG Wp ty z h col a w mmo u v x) (hW:∀h',al (fun s=>s=z) h col h' col->bh h' col->Wp h' col w mm.w) (C:CG Wp ty z h3 col a w mm u v x) (E:al (fun s=>s=z) h col h3 col) (k:S6 g3 g4 h3 h4) (h1:h.size<=g3) (h2:h.size<=g4):CG Wp ty z h4 col a w mm u v x/\al (fun s=>s=z) h col h4 col:=by
 have E4:al (fun s=>s=z) h col h4 col:=⟨SK.trans E.sk (k.1.less fun q hq=>⟨by have:=hq.1;omega,by have:=hq.1;omega⟩),fun _ _=>rfl⟩
 have f4:bh h4 col:=fun q hq=>C.f q (by rw[<-k.2];exact hq)
 have hl:=C0.V.lt
 exact⟨⟨C.V.keep k.1.w ⟨by omega,by omega⟩,C.O,hW h4 E4 f4,f4,C0.L.ext E4,C.s⟩,E4⟩
theorem Iq {p:Bs} (hk:K (.bool (p.isPrefixOf s)) h):zC 35 [S s,S p] h K:=
 tJ (v:=.bool (p.isPrefixOf s)) (fun w _=>Tryz.strings_HasPrefix ⟨⟨s⟩⟩ ⟨⟨p⟩⟩ w) hk
theorem CF (s:Bs):([10]:Bs).isPrefixOf s=decide (s.head? =some 10):=by
 cases s with
 | nil=>rfl
 | cons a l=>
  show((10 == a)&&([]:Bs).isPrefixOf l)=decide (some a=some 10)
  rw[show([]:Bs).isPrefixOf l=true from rfl,Bool.and_true]
  by_cases h:a=10
  ·subst h;rfl
  ·rw[decide_eq_false (fun e=>h (Option.some.inj e))]
   exact beq_eq_false_iff_ne.2 fun e=>h e.symm
theorem zn (C:CP h col a w mm u v x) (T:fc h col t b n c) (hk:∀h' c',CP h' c' a w (zg mm) u v x->al PX h col h' c'->K (.tuple ⟨[.agg ⟨aT (bR (wg mm t) b n c)⟩,.bool (GN mm t)]⟩) h'):
  zC 16 [.pointer (some a),.agg ⟨aT (bR t b n c)⟩] h K:=by
 refine Yz.ok _ _ _ _ (T.new C.f fun a1 h1 l1 k1 g1=>af fun a2 h2 v2 k2 e2 s2=>?_)
 have C2:=(C.cU k1).cU k2
 have z1:=k1.1
 have RF:=l1.V.lt
 have bL:a1.block≠a2.block:=by omega
 have E2:al (fun s=>s=6) h col h2 col:=.kb (k1.trans k2)
 have ca1:col a1.block=none:=l1.O
 have ca2:col a2.block=none:=C.f _ (by omega)
 have hW:∀h',al (fun s=>s=6) h col h' col->bh h' col->PW h' col w mm.w:=fun h' E f=>C.p.ext E (by decide) (by decide) f
 obtain⟨KR,RG⟩:∃KR:Yz.T0,KR=fun y4 y5 h=>bJ h y4 fun t28=>K (.tuple ⟨[.agg ⟨aT t28⟩,.bool y5]⟩) h:=⟨_,rfl⟩
 have main:∀sk:Bool,mm.skip=sk->∀h3,CP h3 col a w (zg mm) u v x->al (fun s=>s=6) h2 col h3 col->Yz.n4 a1 a2 sk KR KR h3:=fun sk hsk h3 C3 E3=>by
  have w1:Var h3 a1 45 (aT (bR t b n c)):=(l1.V.kb k2).keep E3.eR ⟨ca1,(l1.V.kb k2).lt⟩
  have w2:=v2.keep E3.eR ⟨ca2,v2.lt⟩
  have mT:=E2.trans E3
  have fin:∀h5 (t':cm) (lf:Bool),S6 a1.block a2.block h3 h5->wg mm t=t'->GN mm t=lf->Var h5 a2 45 (aT (bR t' b n c))->KR a2 lf h5:=fun h5 t' lf k5 et el v5=>by
   subst et;subst el
   obtain⟨C5,E5⟩:=CG.two (mm:=zg mm) (mmo:=mm) C hW C3 mT k5 g1 (by omega)
   rw[RG]
   exact wh v5 (hk h5 col C5 (E5.mono fun s hs=>.inr hs))
  have no:RH mm t=false->Yz.n5 a1 a2 KR KR h3:=fun e=>wh w1 (aQ w2 (by show 5<=5;omega) fun h5 v5 k5 s5=>fin h5 t true ⟨k5.less fun k hk=>hk.2,s5⟩ (by unfold wg;rw[if_neg (by rw[e];decide)]) (by unfold GN;rw[if_neg (by rw[e];decide)]) v5)
  have eB:RH mm t=(sk&&(decide (t.1=1)&&decide (t.2.2.2.2.head? =some 10))):=by rw[<-hsk];rfl
  refine aR (fun es=>⟨_,w1.cell 0 rfl,bf (fun e1=>⟨_,w1.cell 4 rfl,Iq (ag (aR (fun e2=>aD ?_) fun e2=>aC (no ?_)))⟩) fun e1=>aC (no ?_)⟩) fun es=>aC (no ?_)
  ·have e2:t.2.2.2.2.head? =some 10:=by rw[CF] at e2;exact of_decide_eq_true e2
   have e1:t.1=1:=e1
   have e:RH mm t=true:=by rw[eB,es,decide_eq_true e1,decide_eq_true e2];rfl
   exact GO w1 w2 rfl bL e2 fun h5 v5 k5=>fin h5 (jE t) _ k5 (by unfold wg;rw[if_pos e]) (by unfold GN;rw[if_pos e]) v5
  ·rw[CF] at e2
   rw[eB,show decide (t.2.2.2.2.head? =some 10)=false from e2,Bool.and_false,Bool.and_false]
  ·have e1:¬t.1=1:=e1
   rw[eB,decide_eq_false e1,Bool.false_and,Bool.and_false]
  ·rw[eB,es,Bool.false_and]
 refine aa ⟨_,C2.V.cell 4 rfl,aR (fun e=>?_) fun e=>?_⟩
 all_goals
  refine aa (C2.st (mm2:=zg mm) (fun h' E f=>C2.p.ext E (by decide) (by decide) f) rfl rfl (by decide) fun h3 C3 E3=>?_)
  have:=main _ e h3 C3 E3
  rw[RG] at this
  exact this
end
def Cp (l:List cm):Prop:=l.length<=200/\∀t ∈ l,qh t
theorem al.kbz {Z:Nat->Prop} {h h':H} {col':bY} (e:al Z h (fun _=>none) h' col'):KB h h':=e.sk.less fun k hk=>⟨hk,fun s p _ e2=>by cases e2⟩
theorem Kg {t:Tk} {z:Bool} {k:Tk->Bool->Prop} (h:k t z):ni (.tuple ⟨[.agg ⟨aT t⟩,.bool z]⟩) fun l=>aG l fun e l=>dT e fun t=>aG l fun e l=>au e fun z=>cW l (k t z):=h
section
variable {A:Nat->Prop} {h h':H} {K:KV} {col:bY} {a w:Addr} {mm:MM} {u v x:Nat} {t:cm} {b:OA} {n c:Nat} {l:List cm}
theorem YA (R:Row oK (bT col h) h b n c l) (f:bh h col) (hl:Cp l) {i:Nat} (hi:i<l.length) {zs:List Value} (hz:zs.length=5) {Q:Addr->H->Prop} (hk:∀a h' b' n' c',LT h' col a l[i] b' n' c'->KB h h'->Q a h'):
  (0<=(i:Int)/\(i:Int)<(n:Int))/\(ae b fun tw=>bJ h (tw.add (Int.toNat (i:Int)*5)) fun t33=>aw h ⟨zs⟩ 45 fun O3 qi=>bc O3 [.int .u8 t33.k,S t33.n,.slice t33.b t33.l t33.c,.bool t33.z,S t33.t] 0 qi fun uq=>Q O3 uq):=by
 refine R.bj hi rfl fun q hA=>?_
 obtain⟨b',n',c',C⟩:=si hA
 refine⟨_,C.c0,_,C.c1,_,_,_,C.c2,_,C.c3,_,C.c4,af fun a1 h1 v1 k1 e1 s1=>aQ v1 (by rw[hz];exact Nat.le_refl _) fun h2 v2 k2 s2=>?_⟩
 have gy:KB h h2:=KB.step k1 k2 (by omega)
 refine hk a1 h2 b' n' c' ⟨?_,f _ (by omega),⟨(al.kb (S:=fun _=>False) gy).row C.row,C.nil,C.rk,hl.2 _ (List.getElem_mem hi)⟩⟩ gy
 match zs,hz,v2 with
 | [_,_,_,_,_],_,v2=>exact v2
theorem LT.copy (T:fc h col t b n c) (f:bh h col) {zs:List Value} (hz:zs.length=5) {Q:Addr->H->Prop} (hk:∀a h',LT h' col a t b n c->KB h h'->Q a h'):
  aw h ⟨zs⟩ 45 fun a26 CH=>bc a26 (aT (bR t b n c)) 0 CH fun lY=>Q a26 lY:=by
 refine af fun a1 h1 v1 k1 e1 s1=>aQ v1 (by rw[hz];exact Nat.le_refl _) fun h2 v2 k2 s2=>?_
 have gy:KB h h2:=KB.step k1 k2 (by omega)
 refine hk a1 h2 ⟨?_,f _ (by omega),T.kb gy⟩ gy
 match zs,hz,v2 with
 | [_,_,_,_,_],_,v2=>exact v2
theorem Kf (T:fc h col t b n c):fc h col (wg mm t) b n c:=by
 have s:=KJ (mm:=mm) T.s
 unfold wg at*
 split
 ·rename_i e
  rw[if_pos e] at s
  exact⟨T.r,T.z,T.k,s⟩
 ·exact T
theorem S8 (L:kS h (fun _=>none)) (f:bh h (fun _=>none)) (R:Row oK (bT (fun _=>none) h) h b n c l) (hl:Cp l) (D:Nat) (hD:Deep D (mf l).w.ns 0)
  (hk:∀h' base b n c,h.size<=base->KB h h'->fK (dZ D) h' base 70 b n c (cY D (mf l).w.ns 0)->K (.slice b n c) h'):zC 8 [.slice b n c] h K:=by
 have hlen:=R.len
 have ank:=hl.1
 refine JF.ok _ _ _ _ _ (RO f L fun a w h1 c1 C1 E1=>cL ?_)
 refine⟨n+1,?_⟩
 have key:∀N i (mm:MM) h2 c2,i+N=n->CP h2 c2 a w mm (1+i*440) i (i*4000)->al PX h (fun _=>none) h2 c2->(l.drop i).foldl dH mm=mf l->
   JF.ia (fun x3 h=>JF.n4 x3 (fun qj qk ql h=>K (.slice qj qk ql) h) (fun qj qk ql h=>K (.slice qj qk ql) h) h) (fun x3 h=>JF.n4 x3 (fun qj qk ql h=>K (.slice qj qk ql) h) (fun qj qk ql h=>K (.slice qj qk ql) h) h) (fun qj qk ql h=>K (.slice qj qk ql) h) (N+1) (some a) b n c (n:Int) (i:Int) h2:=by
  intro N
  induction N with
  | zero=>
   intro i mm h2 c2 hi C2 E2 hf
   unfold JF.ia LP JF.gR
   refine cg (by omega) (ag (aC ?_))
   rw[List.drop_of_length_le (by omega)] at hf
   have hf:mm=mf l:=hf
   subst hf
   obtain⟨tr,cp,T2,W2⟩:=C2.p.ex
   obtain⟨ob,oc,mb,mn,mc,vw,o,om⟩:=W2.ex
   exact aa ⟨_,C2.V.cell 0 rfl,aa ⟨_,vw.cell 0 rfl,um C2.s.A.D.G D 0 T2 hD fun h3 b3 n3 c3 k3 o3=>aH (hk h3 h2.size b3 n3 c3 E2.sk.1 (E2.kbz.trans k3) o3)⟩⟩
  | succ N ih=>
   intro i mm h2 c2 hi C2 E2 hf
   unfold JF.ia LP JF.gR
   have bQ:i<l.length:=by omega
   rw[List.drop_eq_getElem_cons bQ] at hf
   have hf:(l.drop (i+1)).foldl dH (dH mm l[i])=mf l:=hf
   refine bK (by omega) (ag (aD (YA (E2.row R) C2.f hl bQ rfl fun a5 h5 b5 n5 c5 l5 k5=>l5.ld (zn (C2.cU k5) l5.T fun h6 c6 C6 E6=>?_))))
   have Ax:=E2.trans ((al.kb k5).trans E6)
   have T6:=Kf (mm:=mm) (l5.T.ext E6)
   have ss:dH mm l[i]=if GN mm l[i]=true then(if mm.mode=1 then sg (zg mm) (wg mm l[i]) else sf (zg mm) (wg mm l[i])) else zg mm:=rfl
   have go:∀h8 c8 (m8:MM) {u2 v2 x2:Nat},CP h8 c8 a w m8 u2 v2 x2->u2<=1+i*440+2*i+40->v2<=i+1->x2<=i*4000+4000->al PX h (fun _=>none) h8 c8->m8=dH mm l[i]->bd .i64 ((i:Int)+(1:Int))/\JF.ia (fun x3 h=>JF.n4 x3 (fun qj qk ql h=>K (.slice qj qk ql) h) (fun qj qk ql h=>K (.slice qj qk ql) h) h) (fun x3 h=>JF.n4 x3 (fun qj qk ql h=>K (.slice qj qk ql) h) (fun qj qk ql h=>K (.slice qj qk ql) h) h) (fun qj qk ql h=>K (.slice qj qk ql) h) (N+1) (some a) b n c (n:Int) ((i:Int)+(1:Int)) h8:=fun h8 c8 m8 {u2 v2 x2} C8 h1 h2 h3 E8 e8=>by
    subst e8
    exact⟨aF (by omega) (by omega),ih (i+1) _ h8 c8 (by omega) (C8.nT (by omega) h2 (by omega)) E8 hf⟩
   refine Kg (aR (fun e=>?_) fun e=>?_)
   ·rw[if_pos e] at ss
    refine LT.copy T6 C6.f rfl fun a7 h7 l7 k7=>aD (aa ⟨_,(C6.cU k7).V.cell 1 rfl,bf (fun em=>?_) fun em=>?_⟩)
    ·have em:mm.mode=1:=em
     rw[if_pos em] at ss
     exact l7.ld (Ka (C6.cU k7) (by omega) (by omega) l7.T fun h8 c8 C8 E8=>go h8 c8 _ C8 (by omega) (by omega) (by omega) (Ax.trans ((al.kb k7).trans E8)) ss.symm)
    ·have em:¬mm.mode=1:=em
     rw[if_neg em] at ss
     exact l7.ld (Kb (C6.cU k7) (by omega) (by omega) (by omega) l7.T fun h8 c8 C8 E8=>go h8 c8 _ C8 (by omega) (by omega) (by omega) (Ax.trans ((al.kb k7).trans E8)) ss.symm)
   ·rw[if_neg (by rw[e];decide)] at ss
    exact LT.copy T6 C6.f rfl fun a7 h7 l7 k7=>aC (go h7 c6 _ (C6.cU k7) (by omega) (by omega) (by omega) (Ax.trans (.kb k7)) ss.symm)
 exact key n 0 J3 h1 c1 (by omega) C1 E1 rfl
end
def kd:Value->Nat
 | .int .u8 _=>1
 | .string _=>2
 | .slice _ _ _=>3
 | _=>0
theorem TG {v:Value} (h:kd v=1):∃i,v=.int .u8 i:=by
 unfold kd at h
 split at h
 ·exact⟨_,rfl⟩
 ·cases h
 ·cases h
 ·cases h
theorem TH {v:Value} (h:kd v=2):∃s,v=S s:=by
 unfold kd at h
 split at h
 ·cases h
 ·rename_i t;exact⟨t.data.toList,rfl⟩
 ·cases h
 ·cases h
theorem wH {h:H} {a:Addr} {u:Value} (e:cell h a=some u):∃c t fz,h[a.block]? =some (.cells c t fz)/\a.spot=none/\c[a.off]? =some u:=by
 unfold Sh.cell at e
 split at e
 ·rename_i c t fz hg
  split at e
  ·cases e
  ·rename_i hs
   exact⟨c,t,fz,hg,by simpa using hs,e⟩
 ·cases e
theorem cell_of {h:H} {a:Addr} {c:Array Value} {t:Nat} {fz:Nat × Nat} (hg:h[a.block]? =some (.cells c t fz)) (hs:a.spot=none):cell h a=c[a.off]? :=by
 unfold Sh.cell
 rw[hg]
 simp[hs]
theorem CJ {h:H} {a:Addr} {v:Value} {c:Array Value} {t:Nat} {fz:Nat × Nat} (hg:h[a.block]? =some (.cells c t fz)) (hs:a.spot=none):(eE h a v)[a.block]? =some (.cells (c.setIfInBounds a.off v) t fz):=by
 unfold Sh.eE
 rw[Array.getElem?_modify,if_pos rfl,hg]
 simp[hs]
theorem CK {h:H} {a:Addr} {v:Value} {g:Nat} (hn:a.block≠g):(eE h a v)[g]? =h[g]? :=by
 unfold Sh.eE
 rw[Array.getElem?_modify,if_neg hn]
theorem Ir {h:H} {a b:Addr} {u v w:Value} (ha:cell h a=some u) (hb:cell h b=some w):(b=a/\cell (eE h a v) b=some v)∨cell (eE h a v) b=some w:=by
 obtain⟨c,t,fz,hg,hs,hc⟩:=wH ha
 obtain⟨c2,t2,fz2,Fk,Xy,nj⟩:=wH hb
 by_cases EV:a.block=b.block
 ·rw[<-EV,hg] at Fk
  cases Fk
  have hg3:=CJ (v:=v) hg hs
  rw[EV] at hg3
  rw[cell_of hg3 Xy]
  by_cases ho:a.off=b.off
  ·left
   refine⟨?_,?_⟩
   ·cases a;cases b;simp only at*;subst EV;subst ho;subst hs;subst Xy;rfl
   ·rw[<-ho,Array.getElem?_setIfInBounds_self]
    have:=(Array.getElem?_eq_some_iff.1 hc).1
    simp[this]
  ·right
   rw[Array.getElem?_setIfInBounds_ne ho]
   exact nj
 ·right
  rw[cell_of (by rw[CK EV];exact Fk) Xy]
  exact nj
structure qg (A:Nat->Prop) (h h':H):Prop where
 sk:SK (fun k=>¬A k) h h'
 obj:∀(g:Nat) c e fz,h[g]? =some (.cells c e fz)->∃c',h'[g]? =some (.cells c' e fz)
 cl:∀a v,cell h a=some v->∃v',cell h' a=some v'/\(v'=v∨(kd v'=kd v/\(kd v=3->v'=.slice none 0 0)))
theorem qg.refl (A:Nat->Prop) (h:H):qg A h h:=⟨SK.refl _ _,fun g c e fz hg=>⟨c,hg⟩,fun a v hv=>⟨v,hv,Or.inl rfl⟩⟩
theorem qg.trans {A:Nat->Prop} {a b c:H} (s:qg A a b) (r:qg A b c):qg A a c:=
 ⟨s.sk.trans r.sk,fun g x e fz hg=>by obtain⟨x',hg'⟩:=s.obj g x e fz hg;exact r.obj g x' e fz hg',fun q v hv=>by
  obtain⟨v1,h1,e1⟩:=s.cl q v hv
  obtain⟨v2,h2,e2⟩:=r.cl q v1 h1
  refine⟨v2,h2,?_⟩
  rcases e1 with rfl | ⟨k1,n1⟩
  ·exact e2
  ·rcases e2 with rfl | ⟨k2,n2⟩
   ·exact Or.inr ⟨k1,n1⟩
   ·exact Or.inr ⟨k2.trans k1,fun h3=>n2 (k1.trans h3)⟩⟩
theorem qg.eE {A:Nat->Prop} {h:H} {a:Addr} {u v:Value} (hA:A a.block) (hu:cell h a=some u) (hk:kd v=kd u) (hn:kd u=3->v=.slice none 0 0):qg A h (eE h a v):=by
 obtain⟨c,t,fz,hg,hs,hc⟩:=wH hu
 refine⟨SK.eE fun hna=>hna hA,fun g c2 e fz2 Fk=>?_,fun b w hw=>?_⟩
 ·by_cases hb:a.block=g
  ·subst hb
   rw[hg] at Fk
   cases Fk
   exact⟨_,CJ hg hs⟩
  ·exact⟨c2,by rw[CK hb];exact Fk⟩
 ·rcases Ir (v:=v) hu hw with ⟨e,h1⟩ | h1
  ·subst e
   rw[hu] at hw
   cases hw
   exact⟨v,h1,Or.inr ⟨hk,hn⟩⟩
  ·exact⟨w,h1,Or.inl rfl⟩
def GR (h:H) (g:Nat):Prop:=∃c e,h[g]? =some (.cells c e (0,0))
def Fl (A:Nat->Prop) (h:H) (b:OA) (n:Nat):Prop:=
 n<=maxLen/\∀i,i<n->∃a,b=some a/\A a.block/\GR h a.block/\(∃s,cell h ((a.add (i*2)).add 0)=some (S s))/\∃s,cell h ((a.add (i*2)).add 1)=some (S s)
theorem qg.str {A:Nat->Prop} {h h':H} {a:Addr} {s:Bs} (f:qg A h h') (e:cell h a=some (S s)):∃s,cell h' a=some (S s):=by
 obtain⟨v,hv,h1⟩:=f.cl a _ e
 rcases h1 with rfl | ⟨h1,_⟩
 ·exact⟨s,hv⟩
 ·obtain⟨s',rfl⟩:=TH h1
  exact⟨s',hv⟩
theorem qg.int {A:Nat->Prop} {h h':H} {a:Addr} {i:Int} (f:qg A h h') (e:cell h a=some (.int .u8 i)):∃i,cell h' a=some (.int .u8 i):=by
 obtain⟨v,hv,h1⟩:=f.cl a _ e
 rcases h1 with rfl | ⟨h1,_⟩
 ·exact⟨i,hv⟩
 ·obtain⟨s',rfl⟩:=TG h1
  exact⟨s',hv⟩
theorem qg.sl {A:Nat->Prop} {h h':H} {a:Addr} {b:OA} {n c:Nat} (f:qg A h h') (e:cell h a=some (.slice b n c)):cell h' a=some (.slice b n c)∨cell h' a=some (.slice none 0 0):=by
 obtain⟨v,hv,h1⟩:=f.cl a _ e
 rcases h1 with rfl | ⟨_,h2⟩
 ·exact Or.inl hv
 ·rw[h2 rfl] at hv;exact Or.inr hv
theorem Fl.nil (A:Nat->Prop) (h:H):Fl A h none 0:=⟨Nat.zero_le _,fun i hi=>absurd hi (by omega)⟩
section
variable {A B:Nat->Prop} {h:H} {K:KV} {b:OA} {n c:Nat} {l:List cm}
theorem yB (R:Row oK A h b n c l) (hk:∀v,(v=false->Cp l)->K (.bool v) h):zC 6 [.slice b n c] h K:=by
 have hl:=R.len
 refine Xa2.ok _ _ _ _ _ (bf (fun _=>hk true fun e=>by cases e) fun e1=>AM (lim:=400) R (by decide) fun v v0 v1 v2 v3=>aO (bf (fun _=>hk true fun e=>by cases e) fun e2=>hk false fun _=>⟨by omega,fun t ht=>?_⟩))
 have e3:=v3 (by omega)
 have e4:CL t<=sv l:=by
  clear e3 v3 v2 v1 hl R e1 hk
  induction l with
  | nil=>cases ht
  | cons y l ih=>
   have e:sv (y::l)=CL y+sv l:=rfl
   rcases List.mem_cons.1 ht with rfl | ht
   ·omega
   ·have:=ih ht;omega
 obtain⟨h1,h2,h3,h4⟩:=wI (x:=t) (m:=400) (by omega)
 exact⟨by omega,by omega,fun a ha=>by have:=h4 a ha;omega,by omega⟩
theorem yA {t:cm} {b2:OA} {n2 c2:Nat} (r:Row aY A h b n c t.2.2.1) (r2:Row aY B h b2 n2 c2 t.2.2.1) (hk:∀h',KB h h'->K (.bool true) h'):
  zC 18 [.agg ⟨aT (bR t b n c)⟩,.agg ⟨aT (bR t b2 n2 c2)⟩] h K:=by
 refine Xdn.ok _ _ _ _ (af fun a1 h2 v1 k1 e1 s1=>af fun a3 h4 v3 k3 e3 s3=>?_)
 have v1:=v1.kb k3
 have k:=k1.trans k3
 have fin:zC 32 [.slice b n c,.slice b2 n2 c2] h4 fun vd gZ=>au vd fun TI=>cond TI (K (.bool true) gZ) (K (.bool false) gZ):=
  jn (r.kb k) (r2.kb k) (ag (by rw[decide_eq_true rfl];exact hk h4 k))
 refine⟨_,v1.cell 0 rfl,_,v3.cell 0 rfl,bK rfl ⟨_,v1.cell 1 rfl,_,v3.cell 1 rfl,bK rfl ⟨_,v1.cell 3 rfl,aR (fun e=>?_) fun e=>?_⟩⟩⟩
 ·exact⟨_,v3.cell 3 rfl,by
   show cond t.2.2.2.1 _ _
   rw[show t.2.2.2.1=true from e];exact⟨_,v1.cell 4 rfl,_,v3.cell 4 rfl,bK rfl ⟨_,_,_,v1.cell 2 rfl,_,_,_,v3.cell 2 rfl,fin⟩⟩⟩
 ·exact⟨_,v3.cell 3 rfl,by
   show cond t.2.2.2.1 _ _
   rw[show t.2.2.2.1=false from e];exact⟨_,v1.cell 4 rfl,_,v3.cell 4 rfl,bK rfl ⟨_,_,_,v1.cell 2 rfl,_,_,_,v3.cell 2 rfl,fin⟩⟩⟩
end
def J9 (A:Nat->Prop) (h:H) (q:Addr):Prop:=A q.block/\GR h q.block/\∃i s ab an ac z tx,cell h (q.add 0)=some (.int .u8 i)/\cell h (q.add 1)=some (S s)/\cell h (q.add 2)=some (.slice ab an ac)/\(cell h (q.add 3)=some z/\kd z=0)/\cell h (q.add 4)=some (S tx)/\Fl A h ab an
def EU (ns:List ay):Nat->Int->Bool
 | 0,i=>decide (i<0)
 | f+1,i=>decide (i<0)||EU ns f (jo ns i)
theorem G0 {ns:List ay}:∀{f:Nat} {i:Int},EU ns f i=true->sw ns f i
 | 0,i,h=>(show i<0 from of_decide_eq_true (p:=i<0) h)
 | f+1,i,h=>by
  unfold EU at h
  rw[Bool.or_eq_true] at h
  exact h.imp (of_decide_eq_true (p:=i<0)) G0
theorem Fm {ns:List ay} {i x:Int} (N:Nat) (h:EU ns N i=true):cq ns i x=decide (x ∈ dR ns N i):=by
 have hi:=G2 (x:=x) (G0 h)
 unfold cq
 by_cases hx:x ∈ dR ns N i
 ·rw[decide_eq_true hx];exact @decide_eq_true (nW ns i x) (Classical.propDecidable _) (hi.2 hx)
 ·rw[decide_eq_false hx];exact @decide_eq_false (nW ns i x) (Classical.propDecidable _) (fun h=>hx (hi.1 h))
def OL (N:Nat) (ns:List ay) (parent before id:Int):List ay × Bool:=
 if dU ns parent=true/\(0<=id/\id<ns.length)/\id≠0/\before≠id/\0<=fg (((ns[parent.toNat]?).map (·.kids)).getD []) before/\decide (id ∈ dR ns N parent)=false then
  (putAt (eC ns id).1 parent.toNat before id.toNat,true)
 else(ns,false)
theorem Kh {ns:List ay} {p b i:Int} (N:Nat) (h:EU ns N p=true):cV ns p b i=OL N ns p b i:=by
 unfold cV OL;rw[Fm N h]
abbrev nd (k:Int) (nm tx:Bs) (p:Int) (ks:List Int):ay:=⟨k,0,nm,[],tx,p,ks⟩
abbrev Oe:aP:=(0,0,sx,0)
def J6:Nat->List ay->Int->Bool
 | 0,_,_=>false
 | d+1,ns,id=>(qQ ns id).all fun k=>J6 d ns k
theorem Cq:∀{d:Nat} {ns:List ay} {id:Int},J6 d ns id=true->Deep d ns id
 | 0,_,_,h=>by cases h
 | d+1,_,_,h=>fun k hk=>Cq (List.all_eq_true.1 h k hk)
section
variable {d:Nat} {A:Nat->Prop} {h:H} {a:Addr} {x:cd}
theorem jS (hA:At (dZ (d+1)) A h a x):∃kb kn kc,cell h (a.add 2)=some (S x.name)/\cell h (a.add 5)=some (.slice kb kn kc)/\Row (dZ d) A h kb kn kc x.kids:=by
 obtain⟨_,cs,hR,hc⟩:=hA
 obtain⟨ab,an,ac,kb,kn,kc,rfl,ra,hz,rk,pN,r1,r2,r3,r4⟩:=zx hR
 exact⟨kb,kn,kc,hc 2 _ rfl,hc 5 _ rfl,rk⟩
end
end Go.Proofs
