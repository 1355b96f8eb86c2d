import Derived.Test.YtijoifkjeamonaaGreatHc
import Derived.Test.YtijoifkjeamonaaGreatMoR
import Derived.Test.YtijoifkjeamonaaGreatDpE
import Derived.Test.YtijoifkjeamonaaGreatDrF
import Derived.Test.YtijoifkjeamonaaGreatHmI
import Derived.Deep.Slices
import Derived.Deep.Fields
import Derived.ChangeSame
import Derived.SizedLaws
import Derived.Carry
import Derived.OpenShut
import Derived.ProofKit
namespace Go.Proofs
open Go Go.Sh
set_option linter.unusedVariables false
set_option maxRecDepth 100000
theorem EI {s w1 w2:Bs} {A B:Prop} (ht:s ∈ [w1,w2]->A) (hf:s ∉ [w1,w2]->B):aO (s=w1) A (aO (s=w2) A B):=
 ⟨fun e=>ht (by simp[e]),fun e1=>⟨fun e=>ht (by simp[e]),fun e2=>hf (by simp[e1,e2])⟩⟩
theorem SN {s w1 w2 w3:Bs} {A B:Prop} (ht:s ∈ [w1,w2,w3]->A) (hf:s ∉ [w1,w2,w3]->B):aO (s=w1) A (aO (s=w2) A (aO (s=w3) A B)):=
 ⟨fun e=>ht (by simp[e]),fun e1=>EI (fun h=>ht (List.mem_cons_of_mem _ h)) fun h=>hf fun hm=>(List.mem_cons.1 hm).elim e1 h⟩
theorem acZ {s w1 w2 w3 w4:Bs} {A B:Prop} (ht:s ∈ [w1,w2,w3,w4]->A) (hf:s ∉ [w1,w2,w3,w4]->B):aO (s=w1) A (aO (s=w2) A (aO (s=w3) A (aO (s=w4) A B))):=
 ⟨fun e=>ht (by simp[e]),fun e1=>SN (fun h=>ht (List.mem_cons_of_mem _ h)) fun h=>hf fun hm=>(List.mem_cons.1 hm).elim e1 h⟩
section
variable {Bp:Nat->Prop} {h:H} {K:KV} {col:cd} {a w:Addr} {mm:MM} {u v x:Nat} {t:bJ} {b:OA} {n c:Nat} {ns:List Bs} {s:Bs}
theorem zc {ws:List Bs} {k:Nat} (hn:ws.length=k) (hs:tK ws=true) (hl:Nat.ble ws.length maxLen=true) {A B:H->Prop} (ht:∀h',KB h h'->s ∈ ws->A h') (hf:∀h',KB h h'->s ∉ ws->B h'):
  aw h (sW ws) 9 fun a127 SO=>zC 106 [.slice (some a127) k k,S s] SO fun SP JK=>au SP fun SQ=>cond SQ (A JK) (B JK):=
 oX hn hs hl fun a1 h1 r1 k1=>oY r1 (ag (aR (fun e=>ht h1 k1 (of_decide_eq_true e)) fun e=>hf h1 k1 (of_decide_eq_false e)))
theorem Ck {A B:H->Prop} (ht:∀h',KB h h'->s ∈ yw->A h') (hf:∀h',KB h h'->s ∉ yw->B h'):
  zC 111 [] h fun H2 Cl=>aA H2 fun wk wm wo=>zC 106 [.slice wk wm wo,S s] Cl fun v109 vd=>au v109 fun JL=>cond JL (A vd) (B vd):=
 vM fun a1 h1 r1 k1=>aC (oY r1 (ag (aR (fun e=>ht h1 k1 (of_decide_eq_true e)) fun e=>hf h1 k1 (of_decide_eq_false e))))
theorem SR (C:CR h col a w mm u v x) (hu:u<=700000) (hv:v<=10000) (T:fj h col t b n c) (ht:t.2.1=[97]) (hk:jb h col a w K {mm with w:=iq (nj mm.w t.2.1) t} (u+v+33) (v+1) x):zC 117 [.pointer (some a),.agg ⟨aT (bP t b n c)⟩] h K:=by
 rw[ht] at hk
 unfold nj at hk
 refine Xfl.ok _ _ _ _ (T.new C.f fun a1 h1 l1 k1 _=>?_)
 have C1:=C.cY k1
 obtain⟨tr,T1,W1⟩:=C1.p.ex
 obtain⟨ob,oc,mb,mn,mc,vw,o,om⟩:=W1.ex
 refine aa ⟨_,C1.V.cell 0 rfl,aa ⟨_,_,_,vw.cell 2 rfl,qM om.row (aN (bh (fun e=>aF ?_) fun e=>aE ?_))⟩⟩
 ·have e:0<=fC mm.w.aD [97]:=e
  rw[if_pos e] at hk
  obtain⟨k,ek,dJ,h0⟩:=mu e
  have tL:mm.w.aD.getD k noMark=mm.w.aD[k]:=aJ dJ
  have eid:zd mm.w [97]=mm.w.aD[k].1:=by unfold zd;rw[ek,<-tL];rfl
  rw[eid] at hk
  rw[tL] at h0
  rw[ek]
  obtain⟨id,hid⟩:∃id,mm.w.aD[k].1=id:=⟨_,rfl⟩
  rw[hid] at hk h0
  refine aa ⟨_,C1.V.cell 0 rfl,aa ⟨_,_,_,vw.cell 2 rfl,om.row.bn (i:=k) dJ rfl fun q hA=>⟨_,hA.fst.int.1,?_⟩⟩⟩
  rw[hid]
  refine EJ C1 (by omega) hv fun h5 c5 C5 E5=>?_
  obtain⟨tr,T5,W5⟩:=C5.p.ex
  obtain⟨WQ,oc5,Xz,WR,XA,BY,o5,Jt⟩:=W5.ex
  have ad1:(bV mm.w [97]).aD.length<=v:=C5.s.A.D.ml
  have SS:(bV mm.w [97]).aD.length=WR:=Jt.len
  have XB:=Jt.cap
  obtain⟨xs,he,hc,_⟩:=Jt.parts
  have l5:=l1.ext E5
  have JM:al RX h col h5 c5:=(al.kb k1).trans E5
  have fin:∀h8 c8,CR h8 c8 a w {mm with w:=dM (bV mm.w [97]) id} (u+32) v x->al RX h5 c5 h8 c8->ae (some a) fun a4=>∃p5,cell h8 (a4.add 0)=some (.pointer p5)/\(zC 120 [.pointer p5,.int .i64 id] h8 fun v6 h7=>bL h7 a1 fun t1=>zC 172 [.pointer (some a),.agg ⟨aT t1⟩] h7 fun v2 h3=>K (.tuple ⟨[]⟩) h3):=fun h8 c8 C8 E8=>by
   have jZ:=C8.s.A.D.lo
   refine aa ⟨_,C8.V.cell 0 rfl,iY C8.p (by omega) C8.s.A.D.nd fun h9 c9 p9 E9=>?_⟩
   have l9:=(l5.ext E8).ext E9
   have C9:=C8.ra p9 E9.ra (C8.s.drop id)
   exact l9.ld (oZ C9 (by omega) hv l9.T fun cS On C10 E10=>hk cS On (C10.mono (by omega)) (JM.trans (E8.trans (E9.ra.rx.trans E10))))
  refine aa ⟨_,C5.V.cell 0 rfl,aa ⟨_,_,_,BY.cell 2 rfl,gM Jt.row (aN (bh (fun e2=>aF ?_) fun e2=>aE ?_))⟩⟩
  ·have e2:0<=br (bV mm.w [97]).aD id:=e2
   obtain⟨_,hfl,_⟩:=gp e2
   obtain⟨q,eq⟩:=Int.eq_ofNat_of_zero_le e2
   have eqn:(br (bV mm.w [97]).aD id).toNat=q:=by rw[eq];rfl
   rw[eqn] at hfl
   have SU:dM (bV mm.w [97]) id=bW (bV mm.w [97]) q:=by unfold dM;rw[if_pos e2,eqn]
   rw[eq]
   refine aa ⟨_,C5.V.cell 0 rfl,aa ⟨_,_,_,BY.cell 2 rfl,⟨by omega,by omega,by omega⟩,?_⟩⟩
   rw[qN]
   have e1:Int.toNat (q:Int) - Int.toNat (0:Int)=q:=by rw[Int.toNat_natCast];rfl
   rw[e1]
   refine o0 cZ he (fun k hk=>hk.2) hc SS (hi:=q) (by omega) (by omega) (by omega) fun b6 c6 h6 o6 k6=>aC (aa ⟨_,(C5.V.kb k6).cell 0 rfl,aa ⟨_,_,_,(BY.kb k6).cell 2 rfl,aG (by omega) (by omega),⟨by omega,by omega,by omega⟩,?_⟩⟩)
   have e3:((q:Int)+(1:Int))=((q+1:Nat):Int):=rfl
   rw[e3,Int.toNat_natCast,Int.toNat_natCast]
   refine pc cZ (lo:=q+1) o6 (fun k hk=>hk.2) k6 (Nat.le_refl _) k6.1 he (fun k hk=>hk.2) hc SS (by omega) XB.1 (by omega) (by omega) fun b7 c7 h7 o7 k7=>aC (aa ⟨_,(C5.V.kb k7).cell 0 rfl,aa ?_⟩)
   rw[<-List.eraseIdx_eq_take_drop_succ] at o7
   refine dZ W5 C5.f k7 o7 fun h8 W8 E8 f8 _=>?_
   have XC:al RA h5 c5 h8 _:=E8.mono fun s hs=>.inl (.inr hs)
   have p8:RW h8 (cw c5 h5 b7 (3,2)) w (dM (bV mm.w [97]) id):=by rw[SU];exact⟨tr,T5.cJ (Z:=fun k=>k=3) (by decide) E8 f8,W8⟩
   exact fin h8 _ (C5.ra p8 XC (C5.s.EK id)) XC.rx
  ·have SU:dM (bV mm.w [97]) id=bV mm.w [97]:=by unfold dM;rw[if_neg e2]
   exact fin h5 c5 (by rw[SU];exact C5) (.refl _ _ _)
 ·have e:¬0<=fC mm.w.aD [97]:=e
  rw[if_neg e] at hk
  exact l1.ld (oZ C1 (by omega) hv l1.T fun h3 c3 C3 E3=>hk h3 c3 (C3.mono (by omega)) ((al.kb k1).trans E3))
theorem Cm (x:aP):pd x=lg [(0,0,[98],0),x] 0 [[98]]:=by rw[Cn];exact(Am (by decide) (nk (by decide))).symm
theorem JN (C:CR h col a w mm u v x) (hu:u<=890000) {id:Int} (hk:∀h',KB h h'->K (.bool (qO mm.w id)) h'):zC 119 [.pointer (some a),.int .i64 id] h K:=by
 obtain⟨tr,T,W⟩:=C.p.ex
 obtain⟨ob,oc,mb,mn,mc,vw,o,om⟩:=W.ex
 have jZ:=C.s.A.D.lo
 unfold qO at hk
 refine SV.ok _ _ _ _ (aa ⟨_,C.V.cell 0 rfl,aa ⟨_,_,_,vw.cell 1 rfl,aG (by omega) (by omega),mm.w.op.length+1,?_⟩⟩)
 have key:∀i h1,i<=mm.w.op.length->KB h h1->(∀j (hj:j<mm.w.op.length),i<=j->mm.w.op[j].1≠id/\pd mm.w.op[j]=true)->
   SV.cR (fun h=>K (.bool false) h) (fun h=>K (.bool false) h) (fun y4 h=>K (.bool y4) h) (i+1) (some a) id ((i:Int) - 1) h1:=by
  intro i
  induction i with
  | zero=>
   intro h1 _ k1 bq
   unfold SV.cR LP SV.bS
   refine bX (by omega) ?_
   have:=hk h1 k1
   have dk:¬0<=gm mm.w.op id:=fun h0=>by
    obtain⟨hi,e,_⟩:=fD h0
    exact(bq _ hi (Nat.zero_le _)).1 (of_decide_eq_true e)
   rwa[decide_eq_false dk,Bool.false_and] at this
  | succ i ih=>
   intro h1 hi k1 bq
   unfold SV.cR LP SV.bS
   have bM:i<mm.w.op.length:=by omega
   have EM:((i+1:Nat):Int) - 1=(i:Int):=by omega
   rw[EM]
   have o1:=o.kb k1
   refine bQ (by omega) (aa ⟨_,(C.V.kb k1).cell 0 rfl,aa ⟨_,_,_,(vw.kb k1).cell 1 rfl,o1.row.bn (i:=i) bM rfl fun q hA=>df hA fun ow=>af fun a6 h7 v6 k6 e6 s6=>aQ v6 (by show 4<=4;omega) fun h8 v8 k8 s8=>?_⟩⟩)
   have Rm:KB h1 h8:=KB.step k6 k8 (by omega)
   have v8:Var h8 a6 77 (aX mm.w.op[i]):=v8
   refine⟨_,v8.cell 0 rfl,bh (fun e=>?_) fun e=>ib (m:=mm.w.op[i]) v8 ?_⟩
   ·have e:mm.w.op[i].1=id:=e
    have ea:=C.s.A.tM bM
    rw[e] at ea
    have:=hk h8 (k1.trans Rm)
    have hs:eT (mm.w.op.drop (i+1))=true:=by
     unfold eT
     refine List.all_eq_true.2 fun y hy=>?_
     obtain⟨j,hj,rfl⟩:=List.mem_iff_getElem.1 hy
     rw[List.getElem_drop]
     exact(bq _ (by rw[List.length_drop] at hj;omega) (by omega)).2
    rwa[ea,decide_eq_true (by omega),Int.toNat_natCast,hs] at this
   ·have e:¬mm.w.op[i].1=id:=e
    refine af fun pU dA np fX N4 Rn=>af (cs:=[S [98]]) fun pV gX tN GB e15 Ep=>?_
    have hx:mm.w.op[i] ∈ mm.w.op:=List.getElem_mem bM
    have SW:gN (0,0,[98],0):=⟨⟨by decide,by decide⟩,⟨by decide,by decide⟩,by decide,⟨by decide,by decide⟩⟩
    have r2:Row bp (rX gX.size) gX (some pU) 2 2 [(0,0,[98],0),mm.w.op[i]]:=
     Row.of (xs:=aX (0,0,[98],0)++aX mm.w.op[i]) ⟨aX (0,0,[98],0),_,rfl,SW.r,aX mm.w.op[i],[],by simp,ow.r,rfl⟩ (fun jj x hx=>⟨pU,rfl,(np.kb GB).cell jj hx⟩) rfl (Nat.le_refl _) (by decide) fun x e=>by cases e;exact(np.kb GB).lt
    have XD:KB h1 gX:=(Rm.trans fX).trans GB
    refine nq (sc:=0) r2 (fun x Er=>?_) (iN (ws:=[[98]]) tN (by decide) (by decide)) fun gO XE=>ag (aR (fun hb=>⟨aG (by omega) (by omega),ih gO (by omega) (k1.trans (XD.trans XE)) fun j hj hij=>?_⟩) fun hb=>?_)
    ·rcases List.mem_cons.1 Er with e | e
     ·rw[e];decide
     ·rw[List.mem_singleton.1 e];exact C.WS _ hx
    ·by_cases e2:j=i
     ·subst e2;exact⟨e,by rw[Cm];exact hb⟩
     ·exact bq j hj (by omega)
    ·have:=hk gO (k1.trans (XD.trans XE))
     have dk:(decide (0<=gm mm.w.op id)&&eT (mm.w.op.drop ((gm mm.w.op id).toNat+1)))=false:=by
      refine Bool.eq_false_iff.2 fun ht=>?_
      rw[Bool.and_eq_true] at ht
      obtain⟨BZ,ek1,_⟩:=fD (of_decide_eq_true ht.1)
      have BZ:(gm mm.w.op id).toNat<mm.w.op.length:=BZ
      have ek1:mm.w.op[(gm mm.w.op id).toNat].1=id:=of_decide_eq_true ek1
      have cP:(gm mm.w.op id).toNat<i:=by
       rcases Nat.lt_trichotomy (gm mm.w.op id).toNat i with hh | hh | hh
       ·exact hh
       ·subst hh;exact absurd ek1 e
       ·exact absurd ek1 (bq _ BZ (by omega)).1
      have uw:mm.w.op[i] ∈ mm.w.op.drop ((gm mm.w.op id).toNat+1):=List.mem_drop_iff_getElem.2 ⟨i - ((gm mm.w.op id).toNat+1),by omega,by congr 1;omega⟩
      have h2:=List.all_eq_true.1 ht.2 _ uw
      rw[Cm] at h2
      have hb:lg [(0,0,[98],0),mm.w.op[i]] 0 [[98]]=false:=hb
      rw[hb] at h2;cases h2
     rwa[dk] at this
 exact key mm.w.op.length h (Nat.le_refl _) (KB.refl _) fun j hj hij=>absurd hj (by omega)
end
section
variable {Bp:Nat->Prop} {h:H} {K:KV} {col:cd} {a w:Addr} {mm:MM} {u v x:Nat} {t:bJ} {b:OA} {n c:Nat} {ns:List Bs} {s:Bs}
theorem Co (C:CR h col a w mm u v x) (hu:u<=700000) (hv:v<=10000) (T:fj h col t b n c)
  (hM:∀{h1:H} {c1:cd} (C1:CR h1 c1 a w mm u v x) (T1:fj h1 c1 t b n c) {K:KV},(∀k,k<14->t.2.1 ∉ Cp.getD k [])->jb h1 c1 a w K (ga mm t) (u+2*v+40) (v+1) x->zC 118 [.pointer (some a),.agg ⟨aT (bP t b n c)⟩] h1 K)
  (hk:jb h col a w K (ga mm t) (u+2*v+40) (v+1) x):zC 46 [.pointer (some a),.agg ⟨aT (bP t b n c)⟩] h K:=by
 refine Xfq.ok _ _ _ _ (T.new C.f fun a1 h1 l1 k1 g1=>⟨_,l1.nm,?_⟩)
 have C1:=C.cY k1
 have fin:∀{k:Nat} (ek:oF t.2.1=k) {mm2:MM} {u2 v2:Nat} {hc:H} (kc:KB h1 hc) h2 c2,wq mm t k=mm2->CR h2 c2 a w mm2 u2 v2 x->u2<=u+2*v+40->v2<=v+1->al RX hc col h2 c2->K (.tuple ⟨[]⟩) h2:=fun {k} ek {mm2 u2 v2 hc} kc h2 c2 em C2 h1 ve E2=>by
  unfold ga at hk
  rw[ek,em] at hk
  exact hk h2 c2 (C2.se h1 ve) ((al.kb (k1.trans kc)).trans E2)
 refine zc (ws:=wS1) rfl (by decide) (by decide) (fun hh kk hm=>aF ?_) fun y1 j1 n1=>aE ?_
 ·have kq:=(KB.refl h1).trans kk
  exact fin (aM 0 (by decide) hm) kq hh col rfl (C1.cY kq) (by omega) (by omega) (.refl _ _ _)
 have q1:=(KB.refl h1).trans j1
 refine zc (ws:=wS2) rfl (by decide) (by decide) (fun hh kk hm=>aF ?_) fun y2 j2 n2=>aE ?_
 ·have kq:=q1.trans kk
  exact(l1.kb kq).ld (An (C1.cY kq) (by omega) (l1.kb kq).T fun h2 c2 C2 E2=>fin (aM 1 (by decide) hm) kq h2 c2 rfl C2 (by omega) (by omega) E2)
 have q2:=q1.trans j2
 refine bh (fun hm=>aF ?_) fun n3=>aE ?_
 ·exact(l1.kb q2).ld (GC (C1.cY q2) (by omega) (l1.kb q2).T 1 fun h2 c2 C2 E2=>fin (aM 2 (by decide) (by rw[hm];decide)) q2 h2 c2 rfl C2 (by omega) (by omega) E2)
 refine zc (ws:=wS4) rfl (by decide) (by decide) (fun hh kk hm=>aF ?_) fun y4 j4 n4=>aE ?_
 ·have kq:=q2.trans kk
  exact(l1.kb kq).ld (GC (C1.cY kq) (by omega) (l1.kb kq).T 2 fun h2 c2 C2 E2=>fin (aM 3 (by decide) hm) kq h2 c2 rfl C2 (by omega) (by omega) E2)
 have q4:=q2.trans j4
 refine bh (fun hm=>aF ?_) fun n5=>aE ?_
 ·exact(l1.kb q4).ld (GC (C1.cY q4) (by omega) (l1.kb q4).T 3 fun h2 c2 C2 E2=>fin (aM 4 (by decide) (by rw[hm];decide)) q4 h2 c2 rfl C2 (by omega) (by omega) E2)
 refine zc (ws:=wS6) rfl (by decide) (by decide) (fun hh kk hm=>aF ?_) fun y6 j6 n6=>aE ?_
 ·have kq:=q4.trans kk
  exact kr (C1.cY kq) (by omega) (l1.kb kq) (Q:=fun _ h=>K (.tuple ⟨[]⟩) h) fun h2 c2 C2 E2=>fin (aM 5 (by decide) hm) kq h2 c2 rfl C2 (by omega) (by omega) E2
 have q6:=q4.trans j6
 refine Ck (fun hh kk hm=>aF ?_) fun y7 j7 n7=>aE ?_
 ·have kq:=q6.trans kk
  refine mv (C1.cY kq) fun h2 c2 C2 E2=>vM fun a3 h3 r3 k3=>aC (XF (C2.cY k3) (by omega) r3 fun h4 k4=>?_)
  have C4:=(C2.cY k3).cY k4
  have E4:al RX hh col h4 c2:=E2.trans (.kb (k3.trans k4))
  have l4:=(l1.kb kq).ext E4
  refine ag (aR (fun e=>?_) fun e=>?_)
  ·have e:Es (pW mm.w) yw=true:=e
   exact ze C4 (by omega) fun h5 c5 C5 E5=>jq C5 (by omega) (l4.ext E5) (Q:=fun _ h=>K (.tuple ⟨[]⟩) h) fun h6 c6 C6 E6=>fin (aM 6 (by decide) hm) kq h6 c6 (by show({mm with w:=fe (sf mm.w) t}:MM)=_;unfold sf;rw[if_pos e]) C6 (by omega) (by omega) (E4.trans (E5.trans E6))
  ·have e:Es (pW mm.w) yw=false:=e
   exact jq C4 (by omega) l4 (Q:=fun _ h=>K (.tuple ⟨[]⟩) h) fun h6 c6 C6 E6=>fin (aM 6 (by decide) hm) kq h6 c6 (by show({mm with w:=fe (sf mm.w) t}:MM)=_;unfold sf;rw[if_neg (by rw[e];decide)]) C6 (by omega) (by omega) (E4.trans E6)
 have q7:=q6.trans j7
 refine EI (fun hm=>aF ?_) fun n8=>aE ?_
 ·exact kr (C1.cY q7) (by omega) (l1.kb q7) (Q:=fun _ h=>ae (some a) fun JO=>aZ (JO.add 4) [.bool true] 0 h fun yh=>K (.tuple ⟨[]⟩) yh) fun h2 c2 C2 E2=>aa (C2.H3 (mm2:={mm with w:=dN mm.w t,skip:=true}) rfl rfl (by decide) fun h3 C3 E3=>fin (aM 7 (by decide) hm) q7 h3 _ rfl C3 (by omega) (by omega) (E2.trans E3))
 refine bh (fun hm=>aF ?_) fun n9=>aE ?_
 ·refine aa ⟨_,(C1.cY q7).V.cell 3 rfl,bh (fun e=>?_) fun e=>?_⟩
  ·have e:mm.fm<0:=e
   exact kr (C1.cY q7) (by omega) (l1.kb q7) (Q:=fun i h=>ae (some a) fun a53=>aZ (a53.add 3) [.int .i64 i] 0 h fun JP=>K (.tuple ⟨[]⟩) JP) fun h2 c2 C2 E2=>aa (C2.H3 (mm2:={mm with w:=dN mm.w t,fm:=(mm.w.ns.length:Int)}) rfl rfl (by decide) fun h3 C3 E3=>fin (aM 8 (by decide) (by rw[hm];decide)) q7 h3 _ (by show ux mm t=_;unfold ux;rw[if_pos e]) C3 (by omega) (by omega) (E2.trans E3))
  ·have e:¬mm.fm<0:=e
   exact fin (aM 8 (by decide) (by rw[hm];decide)) q7 y7 col (by show ux mm t=_;unfold ux;rw[if_neg e]) (C1.cY q7) (by omega) (by omega) (.refl _ _ _)
 refine bh (fun hm=>aF ?_) fun sg=>aE ?_
 ·exact(l1.kb q7).ld (eN (by decide) fun a3 h3 r3 k3=>JQ ((C1.cY q7).cY k3) (by omega) ((l1.kb q7).kb k3).T r3 fun h4 c4 C4 E4=>fin (aM 9 (by decide) (by rw[hm];decide)) q7 h4 c4 rfl C4 (by omega) (by omega) ((al.kb k3).trans E4))
 refine EI (fun hm=>aF ?_) fun Ao=>aE ?_
 ·exact(l1.kb q7).ld (oX (ws:=H4) rfl (by decide) (by decide) fun a3 h3 r3 k3=>JQ ((C1.cY q7).cY k3) (by omega) ((l1.kb q7).kb k3).T r3 fun h4 c4 C4 E4=>fin (aM 10 (by decide) hm) q7 h4 c4 rfl C4 (by omega) (by omega) ((al.kb k3).trans E4))
 refine bh (fun hm=>aF ?_) fun uy=>aE ?_
 ·exact kr (C1.cY q7) (by omega) (l1.kb q7) (Q:=fun _ h=>ae (some a) fun JO=>aZ (JO.add 5) [.int .u8 4] 0 h fun yh=>K (.tuple ⟨[]⟩) yh) fun h2 c2 C2 E2=>aa (C2.H3 (mm2:={mm with w:=dN mm.w t,read:=4}) rfl rfl (by decide) fun h3 C3 E3=>fin (aM 11 (by decide) (by rw[hm];decide)) q7 h3 _ rfl C3 (by omega) (by omega) (E2.trans E3))
 refine bh (fun hm=>aF ?_) fun JR=>aE ?_
 ·exact pf (C1.cY q7) 0 [] (s:=[98,117,116,116,111,110]) (by decide) (Q:=fun h=>ae (some a) fun XG=>∃p80,cell h (XG.add 0)=some (.pointer p80)/\(zC 44 [.pointer p80] h fun v81 SX=>bL SX a1 fun t83=>zC 110 [.pointer (some a),.agg ⟨aT t83⟩] SX fun v84 SY=>aL .i64 v84 fun i86=>K (.tuple ⟨[]⟩) SY)) fun h2 c2 C2 E2=>pg C2 (by omega) hv ((l1.kb q7).ext E2) (Q:=fun _ h=>K (.tuple ⟨[]⟩) h) fun h3 c3 i C3 E3=>fin (aM 12 (by decide) (by rw[hm];decide)) q7 h3 c3 rfl C3 (by omega) (by omega) (E2.trans E3)
 refine bh (fun hm=>?_) fun Ju=>?_
 ·exact(l1.kb q7).ld (SR (C1.cY q7) hu hv (l1.kb q7).T hm fun h2 c2 C2 E2=>fin (aM 13 (by decide) (by rw[hm];decide)) q7 h2 c2 rfl C2 (by omega) (by omega) E2)
 ·refine(l1.kb q7).ld (hM (C1.cY q7) (l1.kb q7).T (fun k hk=>?_) fun h2 c2 C2 E2=>hk h2 c2 C2 ((al.kb (k1.trans q7)).trans E2))
  match k,hk with
  | 0,_=>exact n1
  | 1,_=>exact n2
  | 2,_=>exact cE n3
  | 3,_=>exact n4
  | 4,_=>exact cE n5
  | 5,_=>exact n6
  | 6,_=>exact n7
  | 7,_=>exact n8
  | 8,_=>exact cE n9
  | 9,_=>exact cE sg
  | 10,_=>exact Ao
  | 11,_=>exact cE uy
  | 12,_=>exact cE JR
  | 13,_=>exact cE Ju
  | k+14,hk=>exact absurd hk (by omega)
theorem Oo:Cq.all (fun s=>oF s == 0||(Cp.getD 13 []).elem s||decide (s=[110,111,98,114]))=true:=by decide+kernel
theorem GD (C:CR h col a w mm u v x) (hu:u<=700000) (hv:v<=10000) (T:fj h col t b n c) (dk:∀k,k<14->t.2.1 ∉ Cp.getD k [])
  (hI:t.2.1=[105,109,97,103,101]->∀{h1:H} {c1:cd} (C1:CR h1 c1 a w mm u v x) (T1:fj h1 c1 (nr t) b n c) {K:KV},jb h1 c1 a w K (ga mm (nr t)) (u+2*v+40) (v+1) x->zC 46 [.pointer (some a),.agg ⟨aT (bP (nr t) b n c)⟩] h1 K)
  (hk:jb h col a w K (ga mm t) (u+2*v+40) (v+1) x):zC 118 [.pointer (some a),.agg ⟨aT (bP t b n c)⟩] h K:=by
 refine Xfn.ok _ _ _ _ (T.new C.f fun a1 h1 l1 k1 g1=>⟨_,l1.nm,?_⟩)
 have C1:=C.cY k1
 have fin:∀{k:Nat} (ek:oF t.2.1=k) {mm2:MM} {u2 v2:Nat} {hc:H} (kc:KB h1 hc) h2 c2,wq mm t k=mm2->CR h2 c2 a w mm2 u2 v2 x->u2<=u+2*v+40->v2<=v+1->al RX hc col h2 c2->K (.tuple ⟨[]⟩) h2:=fun {k} ek {mm2 u2 v2 hc} kc h2 c2 em C2 h1 ve E2=>by
  unfold ga at hk
  rw[ek,em] at hk
  exact hk h2 c2 (C2.se h1 ve) ((al.kb (k1.trans kc)).trans E2)
 refine bh (fun hm=>aF ?_) fun n15=>aE ?_
 ·have ek:oF t.2.1=15:=(aM 14 (by decide) (by rw[hm];decide))
  refine aa ⟨_,(C1.cY (KB.refl h1)).V.cell 0 rfl,uz (C1.cY (KB.refl h1)) (by omega) hv fun h2 c2 C2 E2=>eN (s:=[110,111,98,114]) (by decide) fun a3 h3 r3 k3=>pX (C2.cY k3) r3 0 fun h4 k4=>?_⟩
  have C4:=(C2.cY k3).cY k4
  have E4:al RX h1 col h4 c2:=E2.trans (.kb (k3.trans k4))
  have l4:=(l1.kb (KB.refl h1)).ext E4
  refine ag (aR (fun e=>?_) fun e=>?_)
  ·have e:lg (aU mm.w).op 0 [[110,111,98,114]]=true:=e
   exact EJ C4 (by omega) hv fun h5 c5 C5 E5=>(l4.ext E5).ld (oZ C5 (by omega) hv (l4.ext E5).T fun h6 c6 C6 E6=>fin ek (KB.refl h1) h6 c6 (by show({mm with w:=iq (si (aU mm.w) t.2.1) t}:MM)=_;unfold si;rw[hm,if_pos e]) C6 (by omega) (by omega) (E4.trans (E5.trans E6)))
  ·have e:lg (aU mm.w).op 0 [[110,111,98,114]]=false:=e
   exact l4.ld (oZ C4 (by omega) hv l4.T fun h6 c6 C6 E6=>fin ek (KB.refl h1) h6 c6 (by show({mm with w:=iq (si (aU mm.w) t.2.1) t}:MM)=_;unfold si;rw[hm,if_neg (by rw[e];decide)]) C6 (by omega) (by omega) (E4.trans E6))
 refine jF fun h0 j0=>ag (aR (fun e=>aF ?_) fun nf=>aE ?_)
 ·have hf:t.2.1 ∈ Cq:=of_decide_eq_true e
  have ea:oF t.2.1=0:=by
   have h1:=List.all_eq_true.1 Oo _ hf
   rw[Bool.or_eq_true,Bool.or_eq_true] at h1
   rcases h1 with (h1 | h1) | h1
   ·exact eq_of_beq h1
   ·exact absurd (List.elem_iff.1 h1) (dk 13 (by decide))
   ·exact absurd (of_decide_eq_true h1) n15
  exact(l1.kb j0).ld (oZ (C1.cY j0) (by omega) hv (l1.kb j0).T fun h2 c2 C2 E2=>fin ea j0 h2 c2 (by show lU mm t=_;unfold lU;rw[if_pos e]) C2 (by omega) (by omega) E2)
 refine SN (fun hm=>aF ?_) fun n16=>aE ?_
 ·exact pg (C1.cY j0) (by omega) hv (l1.kb j0) (Q:=fun _ h=>zC 173 [.pointer (some a)] h fun Jv tO=>K (.tuple ⟨[]⟩) tO) fun h2 c2 i C2 E2=>JS C2 hv fun h3 c3 C3 E3=>fin (aM 15 (by decide) hm) j0 h3 c3 rfl C3 (by omega) (by omega) (E2.trans E3)
 refine bh (fun hm=>aF ?_) fun n17=>aE ?_
 ·exact kr (C1.cY j0) (by omega) (l1.kb j0) (Q:=fun _ h=>ae (some a) fun JO=>aZ (JO.add 1) [.int .u8 2] 0 h fun yh=>K (.tuple ⟨[]⟩) yh) fun h2 c2 C2 E2=>aa (C2.H3 (mm2:={mm with w:=dN mm.w t,mode:=2}) rfl rfl (by decide) fun h3 C3 E3=>fin (aM 16 (by decide) (by rw[hm];decide)) j0 h3 _ rfl C3 (by omega) (by omega) (E2.trans E3))
 refine zc (ws:=SZ) rfl (by decide) (by decide) (fun hh kk hm=>aF ?_) fun y18 j18 n18=>aE ?_
 ·have kq:=j0.trans kk
  exact aa ⟨_,(C1.cY kq).V.cell 0 rfl,uz (C1.cY kq) (by omega) hv fun h2 c2 C2 E2=>((l1.kb kq).ext E2).ld (An C2 (by omega) ((l1.kb kq).ext E2).T fun h3 c3 C3 E3=>fin (aM 17 (by decide) hm) kq h3 c3 rfl C3 (by omega) (by omega) (E2.trans E3))⟩
 have lh:=j0.trans j18
 refine bh (fun hm=>aF ?_) fun n19=>aE ?_
 ·have ek:oF t.2.1=19:=(aM 18 (by decide) (by rw[hm];decide))
  refine ck (m:=1) (i:=0) (l1.kb lh).V (by show 1+0+1<=5;omega) fun h2 v2 k2 s2=>?_
  have gI:KB h h2:=KB.step (k1.trans lh) k2 g1
  have l2:LT h2 col a1 (nr t) b n c:=⟨v2,l1.O,⟨(T.kb gI).r,T.z,T.k,(by decide:([105,109,103]:Bs).length<=4000),T.s.2⟩⟩
  refine l2.ld (hI hm (C.cY gI) l2.T fun h3 c3 C3 E3=>?_)
  unfold ga at hk
  rw[ek] at hk
  exact hk h3 c3 C3 ((al.kb gI).trans E3)
 refine bh (fun hm=>aF ?_) fun n20=>aE ?_
 ·exact mv (C1.cY lh) fun h2 c2 C2 E2=>((l1.kb lh).ext E2).ld (An C2 (by omega) ((l1.kb lh).ext E2).T fun h3 c3 C3 E3=>fin (aM 19 (by decide) (by rw[hm];decide)) lh h3 c3 rfl C3 (by omega) (by omega) (E2.trans E3))
 refine bh (fun hm=>aF ?_) fun n21=>aE ?_
 ·exact jq (C1.cY lh) (by omega) (l1.kb lh) (Q:=fun _ h=>ae (some a) fun a59=>aZ (a59.add 4) [.bool true] 0 h fun H5=>bL H5 a1 fun t61=>zC 166 [.pointer (some a),.agg ⟨aT t61⟩,.int .u8 1] H5 fun v62 ll=>K (.tuple ⟨[]⟩) ll) fun h2 c2 C2 E2=>aa (C2.H3 (mm2:={mm with w:=fe mm.w t,skip:=true}) rfl rfl (by decide) fun h3 C3 E3=>(((l1.kb lh).ext E2).ext E3).ld (JT C3 (((l1.kb lh).ext E2).ext E3).T 1 fun h4 c4 C4 E4=>fin (aM 20 (by decide) (by rw[hm];decide)) lh h4 c4 rfl C4 (by omega) (by omega) (E2.trans (E3.trans E4))))
 refine bh (fun hm=>aF ?_) fun n22=>aE ?_
 ·exact mv (C1.cY lh) fun h2 c2 C2 E2=>aa ⟨_,C2.V.cell 0 rfl,uz C2 (by omega) hv fun h3 c3 C3 E3=>(((l1.kb lh).ext E2).ext E3).ld (GC C3 (by omega) (((l1.kb lh).ext E2).ext E3).T 2 fun h4 c4 C4 E4=>fin (aM 21 (by decide) (by rw[hm];decide)) lh h4 c4 rfl C4 (by omega) (by omega) (E2.trans (E3.trans E4)))⟩
 refine EI (fun hm=>aF ?_) fun n23=>aE ?_
 ·refine eN (s:=[111,112,116,105,111,110]) (by decide) fun a3 h3 r3 k3=>XF ((C1.cY lh).cY k3) (by omega) r3 fun h4 k4=>?_
  have C4:=((C1.cY lh).cY k3).cY k4
  have l4:=((l1.kb lh).kb k3).kb k4
  have E4:al RX y18 col h4 col:=.kb (k3.trans k4)
  refine ag (aR (fun e=>aF ?_) fun e=>aE ?_)
  ·have e:Es mm.w [[111,112,116,105,111,110]]=true:=e
   exact ze C4 (by omega) fun h5 c5 C5 E5=>pg C5 (by omega) hv (l4.ext E5) (Q:=fun _ h=>K (.tuple ⟨[]⟩) h) fun h6 c6 i C6 E6=>fin (aM 22 (by decide) hm) lh h6 c6 (by show({mm with w:=gY (Ap mm.w) t}:MM)=_;unfold Ap;rw[if_pos e]) C6 (by omega) (by omega) (E4.trans (E5.trans E6))
  ·have e:Es mm.w [[111,112,116,105,111,110]]=false:=e
   exact pg C4 (by omega) hv l4 (Q:=fun _ h=>K (.tuple ⟨[]⟩) h) fun h6 c6 i C6 E6=>fin (aM 22 (by decide) hm) lh h6 c6 (by show({mm with w:=gY (Ap mm.w) t}:MM)=_;unfold Ap;rw[if_neg (by rw[e];decide)]) C6 (by omega) (by omega) (E4.trans E6)
 refine acZ (fun hm=>aF ?_) fun n24=>aE ?_
 ·have ek:oF t.2.1=24:=(aM 23 (by decide) hm)
  refine eN (s:=[114,117,98,121]) (by decide) fun a3 h3 r3 k3=>pX ((C1.cY lh).cY k3) r3 0 fun h4 k4=>?_
  have C4:=((C1.cY lh).cY k3).cY k4
  have l4:=((l1.kb lh).kb k3).kb k4
  have E4:al RX y18 col h4 col:=.kb (k3.trans k4)
  refine ag (aR (fun e=>?_) fun e=>?_)
  ·have e:lg mm.w.op 0 Cr=true:=e
   refine bh (fun e1=>aF ?_) fun e1=>bh (fun e2=>aF ?_) fun e2=>aF ?_
   ·have ex:JU t.2.1=[114,116,99]:=by unfold JU;rw[if_pos (.inl e1)]
    exact j3 C4 [114,116,99] fun h5 c5 C5 E5=>jq C5 (by omega) (l4.ext E5) (Q:=fun _ h=>K (.tuple ⟨[]⟩) h) fun h6 c6 C6 E6=>fin (aM 23 (by decide) hm) lh h6 c6 (by show({mm with w:=fe (jc mm.w t.2.1) t}:MM)=_;unfold jc;rw[if_pos e,ex]) C6 (by omega) (by omega) (E4.trans (E5.trans E6))
   ·have ex:JU t.2.1=[114,116,99]:=by unfold JU;rw[if_pos (.inr e2)]
    exact j3 C4 [114,116,99] fun h5 c5 C5 E5=>jq C5 (by omega) (l4.ext E5) (Q:=fun _ h=>K (.tuple ⟨[]⟩) h) fun h6 c6 C6 E6=>fin (aM 23 (by decide) hm) lh h6 c6 (by show({mm with w:=fe (jc mm.w t.2.1) t}:MM)=_;unfold jc;rw[if_pos e,ex]) C6 (by omega) (by omega) (E4.trans (E5.trans E6))
   ·have ex:JU t.2.1=[]:=by unfold JU;rw[if_neg (fun h=>h.elim e1 e2)]
    exact j3 C4 [] fun h5 c5 C5 E5=>jq C5 (by omega) (l4.ext E5) (Q:=fun _ h=>K (.tuple ⟨[]⟩) h) fun h6 c6 C6 E6=>fin (aM 23 (by decide) hm) lh h6 c6 (by show({mm with w:=fe (jc mm.w t.2.1) t}:MM)=_;unfold jc;rw[if_pos e,ex]) C6 (by omega) (by omega) (E4.trans (E5.trans E6))
  ·have e:lg mm.w.op 0 Cr=false:=e
   refine bh (fun e1=>aE ?_) fun e1=>bh (fun e2=>aE ?_) fun e2=>aE ?_
   ·exact jq C4 (by omega) l4 (Q:=fun _ h=>K (.tuple ⟨[]⟩) h) fun h6 c6 C6 E6=>fin (aM 23 (by decide) hm) lh h6 c6 (by show({mm with w:=fe (jc mm.w t.2.1) t}:MM)=_;unfold jc;rw[if_neg (by rw[e];decide)]) C6 (by omega) (by omega) (E4.trans E6)
   ·exact jq C4 (by omega) l4 (Q:=fun _ h=>K (.tuple ⟨[]⟩) h) fun h6 c6 C6 E6=>fin (aM 23 (by decide) hm) lh h6 c6 (by show({mm with w:=fe (jc mm.w t.2.1) t}:MM)=_;unfold jc;rw[if_neg (by rw[e];decide)]) C6 (by omega) (by omega) (E4.trans E6)
   ·exact jq C4 (by omega) l4 (Q:=fun _ h=>K (.tuple ⟨[]⟩) h) fun h6 c6 C6 E6=>fin (aM 23 (by decide) hm) lh h6 c6 (by show({mm with w:=fe (jc mm.w t.2.1) t}:MM)=_;unfold jc;rw[if_neg (by rw[e];decide)]) C6 (by omega) (by omega) (E4.trans E6)
 refine EI (fun hm=>aF ?_) fun n25=>aE ?_
 ·have ek:oF t.2.1=25:=(aM 24 (by decide) hm)
  refine bh (fun e1=>?_) fun e1=>?_
  ·have hsp:nt t.2.1=1:=by unfold nt;rw[if_pos e1]
   refine aa ⟨_,(C1.cY lh).V.cell 0 rfl,uz (C1.cY lh) (by omega) hv fun h2 c2 C2 E2=>aa ⟨_,C2.V.cell 0 rfl,((l1.kb lh).ext E2).ld (tP C2 (by omega) ((l1.kb lh).ext E2).T (sp:=1) ⟨by decide,by decide⟩ fun h3 c3 C3 E3=>aN ⟨_,(((l1.kb lh).ext E2).ext E3).V.cell 3 rfl,aR (fun ez=>?_) fun ez=>?_⟩)⟩⟩
   ·have ez:t.2.2.2.1=true:=ez
    exact ze C3 (by omega) fun h4 c4 C4 E4=>fin (aM 24 (by decide) hm) lh h4 c4 (by show({mm with w:=iO mm.w t}:MM)=_;unfold iO;simp only[];rw[if_pos ez,hsp]) C4 (by omega) (by omega) (E2.trans (E3.trans E4))
   ·have ez:t.2.2.2.1=false:=ez
    exact fin (aM 24 (by decide) hm) lh h3 c3 (by show({mm with w:=iO mm.w t}:MM)=_;unfold iO;simp only[];rw[if_neg (by rw[ez];decide),hsp]) C3 (by omega) (by omega) (E2.trans E3)
  ·have hsp:nt t.2.1=2:=by unfold nt;rw[if_neg e1]
   refine aa ⟨_,(C1.cY lh).V.cell 0 rfl,uz (C1.cY lh) (by omega) hv fun h2 c2 C2 E2=>aa ⟨_,C2.V.cell 0 rfl,((l1.kb lh).ext E2).ld (tP C2 (by omega) ((l1.kb lh).ext E2).T (sp:=2) ⟨by decide,by decide⟩ fun h3 c3 C3 E3=>aN ⟨_,(((l1.kb lh).ext E2).ext E3).V.cell 3 rfl,aR (fun ez=>?_) fun ez=>?_⟩)⟩⟩
   ·have ez:t.2.2.2.1=true:=ez
    exact ze C3 (by omega) fun h4 c4 C4 E4=>fin (aM 24 (by decide) hm) lh h4 c4 (by show({mm with w:=iO mm.w t}:MM)=_;unfold iO;simp only[];rw[if_pos ez,hsp]) C4 (by omega) (by omega) (E2.trans (E3.trans E4))
   ·have ez:t.2.2.2.1=false:=ez
    exact fin (aM 24 (by decide) hm) lh h3 c3 (by show({mm with w:=iO mm.w t}:MM)=_;unfold iO;simp only[];rw[if_neg (by rw[ez];decide),hsp]) C3 (by omega) (by omega) (E2.trans E3)
 have ea:oF t.2.1=0:=GF (dk 0 (by decide)) (dk 1 (by decide)) (dk 2 (by decide)) (dk 3 (by decide)) (dk 4 (by decide)) (dk 5 (by decide)) (dk 6 (by decide)) (dk 7 (by decide)) (dk 8 (by decide)) (dk 9 (by decide)) (dk 10 (by decide)) (dk 11 (by decide)) (dk 12 (by decide)) (dk 13 (by decide)) (cE n15) n16 (cE n17) n18 (cE n19) (cE n20) (cE n21) (cE n22) n23 n24 n25
 exact pg (C1.cY lh) (by omega) hv (l1.kb lh) (Q:=fun _ h=>K (.tuple ⟨[]⟩) h) fun h2 c2 i C2 E2=>fin ea lh h2 c2 (by show lU mm t=_;unfold lU;rw[if_neg (by rw[show dS t.2.1=false from nf];decide)]) C2 (by omega) (by omega) E2
theorem Oq (bI:t.2.1≠ [105,109,97,103,101]) (C:CR h col a w mm u v x) (hu:u<=700000) (hv:v<=10000) (T:fj h col t b n c) (dk:∀k,k<14->t.2.1 ∉ Cp.getD k []) (hk:jb h col a w K (ga mm t) (u+2*v+40) (v+1) x):zC 118 [.pointer (some a),.agg ⟨aT (bP t b n c)⟩] h K:=
 GD C hu hv T dk (fun e=>absurd e bI) hk
theorem JV (bI:t.2.1≠ [105,109,97,103,101]) (C:CR h col a w mm u v x) (hu:u<=700000) (hv:v<=10000) (T:fj h col t b n c) (hk:jb h col a w K (ga mm t) (u+2*v+40) (v+1) x):zC 46 [.pointer (some a),.agg ⟨aT (bP t b n c)⟩] h K:=
 Co C hu hv T (fun C1 T1 _ dk BZ=>Oq bI C1 hu hv T1 dk BZ) hk
theorem GG (C:CR h col a w mm u v x) (hu:u<=700000) (hv:v<=10000) (T:fj h col t b n c) (hk:jb h col a w K (ga mm t) (u+2*v+40) (v+1) x):zC 46 [.pointer (some a),.agg ⟨aT (bP t b n c)⟩] h K:=
 Co C hu hv T (fun C1 T1 _ dk BZ=>GD C1 hu hv T1 dk (fun _ _ _ C2 T2 _ yi=>JV (t:=nr t) (by show([105,109,103]:Bs)≠_;decide) C2 hu hv T2 yi) BZ) hk
theorem Ot:Cq.all (fun s=>my s == 0)=true:=by decide+kernel
theorem XH (C:CR h col a w mm u v x) (hu:u<=700000) (hv:v<=10000) (T:fj h col t b n c) (hk:jb h col a w K (H6 mm t.2.1) (u+2*v+40) (v+1) x):zC 47 [.pointer (some a),.agg ⟨aT (bP t b n c)⟩] h K:=by
 refine Xfh.ok _ _ _ _ (T.new C.f fun a1 h1 l1 k1 g1=>⟨_,l1.nm,?_⟩)
 have C1:=C.cY k1
 have fin:∀{k:Nat} (ek:my t.2.1=k) {w2:WM} {f2:Int} {u2 v2:Nat} {hc:H} (kc:KB h1 hc) h2 c2,EN mm.w t.2.1 mm.fm k=w2->(if k=3 then -1 else mm.fm)=f2->CR h2 c2 a w {mm with w:=w2,fm:=f2} u2 v2 x->u2<=u+2*v+40->v2<=v+1->al RX hc col h2 c2->K (.tuple ⟨[]⟩) h2:=fun {k} ek {w2 f2 u2 v2 hc} kc h2 c2 em ef C2 h1 ve E2=>by
  unfold H6 at hk
  rw[ek,em,ef] at hk
  exact hk h2 c2 (C2.se h1 ve) ((al.kb (k1.trans kc)).trans E2)
 refine EI (fun hm=>aF ?_) fun n1=>aE ?_
 ·exact fin (bK 0 (by decide) hm) (KB.refl h1) h1 col rfl (if_neg (by decide)) (C1.cY (KB.refl h1)) (by omega) (by omega) (.refl _ _ _)
 refine zc (ws:=wE2) rfl (by decide) (by decide) (fun hh kk hm=>aF ?_) fun y2 j2 n2=>aE ?_
 ·have kq:=(KB.refl h1).trans kk
  exact pf (C1.cY kq) 0 [] T.s.1 (Q:=fun h=>K (.tuple ⟨[]⟩) h) fun h2 c2 C2 E2=>fin (bK 1 (by decide) hm) kq h2 c2 rfl (if_neg (by decide)) C2 (by omega) (by omega) E2
 have q2:=(KB.refl h1).trans j2
 refine bh (fun hm=>aF ?_) fun n3=>aE ?_
 ·have ek:my t.2.1=3:=(bK 2 (by decide) (by rw[hm];decide))
  refine aa ⟨_,(C1.cY q2).V.cell 3 rfl,aa ((C1.cY q2).H3 (mm2:={mm with fm:= -1}) rfl rfl (by decide) fun h2 C2 E2=>?_)⟩
  refine bh (fun e=>JN C2 (by omega) fun h3 k3=>ag (aR (fun e2=>aF ?_) fun e2=>aE ?_)) fun e=>aE ?_
  ·have e:0<=mm.fm:=e
   have e2:qO mm.w mm.fm=true:=e2
   refine j3 (C2.cY k3) [] fun h4 c4 C4 E4=>aa ⟨_,C4.V.cell 0 rfl,?_⟩
   have jZ:=C4.s.A.D.lo
   exact iY C4.p (by omega) C4.s.A.D.nd fun h5 c5 p5 E5=>fin (bK 2 (by decide) (by rw[hm];decide)) q2 h5 c5 (by show gP mm.w mm.fm=_;unfold gP;rw[if_pos ⟨e,e2⟩]) (if_pos rfl) (C4.ra p5 E5.ra (C4.s.drop _)) (by omega) (by omega) (E2.trans ((al.kb k3).trans (E4.trans E5.ra.rx)))
  ·have e2:qO mm.w mm.fm=false:=e2
   exact fin (bK 2 (by decide) (by rw[hm];decide)) q2 h3 _ (by show gP mm.w mm.fm=_;unfold gP;rw[if_neg (by rw[e2];exact fun h=>by cases h.2)]) (if_pos rfl) (C2.cY k3) (by omega) (by omega) (E2.trans (.kb k3))
  ·have e:¬0<=mm.fm:=e
   exact fin (bK 2 (by decide) (by rw[hm];decide)) q2 h2 _ (by show gP mm.w mm.fm=_;unfold gP;rw[if_neg (fun h=>e h.1)]) (if_pos rfl) C2 (by omega) (by omega) E2
 refine bh (fun hm=>aF ?_) fun n4=>aE ?_
 ·have ek:my t.2.1=4:=(bK 3 (by decide) (by rw[hm];decide))
  refine eN (s:=[112]) (by decide) fun a3 h3 r3 k3=>pX ((C1.cY q2).cY k3) r3 2 fun h4 k4=>?_
  have C4:=((C1.cY q2).cY k3).cY k4
  have E4:al RX y2 col h4 col:=.kb (k3.trans k4)
  refine ag (aR (fun e=>?_) fun e=>?_)
  ·have e:lg mm.w.op 2 wP=true:=e
   exact mv C4 fun h5 c5 C5 E5=>fin (bK 3 (by decide) (by rw[hm];decide)) q2 h5 c5 (by show uA mm.w=_;unfold uA;rw[if_pos e]) (if_neg (by decide)) C5 (by omega) (by omega) (E4.trans E5)
  ·have e:lg mm.w.op 2 wP=false:=e
   have T4:=fj.nil h4 col zf (nm:=[112]) (by decide)
   exact sj (t:=sm 0 [112]) (b:=none) (n:=0) (c:=0) C4 (by omega) T4 fun h5 c5 C5 E5=>aN (mv C5 fun h6 c6 C6 E6=>fin (bK 3 (by decide) (by rw[hm];decide)) q2 h6 c6 (by show uA mm.w=_;unfold uA;rw[if_neg (by rw[e];decide)];rfl) (if_neg (by decide)) C6 (by omega) (by omega) (E4.trans (E5.trans E6)))
 refine bh (fun hm=>aF ?_) fun n5=>aE ?_
 ·exact pf (C1.cY q2) 1 [108,105] (s:=[108,105]) (by decide) (Q:=fun h=>K (.tuple ⟨[]⟩) h) fun h2 c2 C2 E2=>fin (bK 4 (by decide) (by rw[hm];decide)) q2 h2 c2 (by show dF mm.w (if t.2.1=[108,105] then 1 else 0) t.2.1 [t.2.1]=_;rw[if_pos hm,hm]) (if_neg (by decide)) C2 (by omega) (by omega) E2
 refine EI (fun hm=>aF ?_) fun n5b=>aE ?_
 ·have hm5:t.2.1 ∈ JW.getD 4 []:=List.mem_cons_of_mem _ hm
  exact pf (C1.cY q2) 0 t.2.1 T.s.1 (Q:=fun h=>K (.tuple ⟨[]⟩) h) fun h2 c2 C2 E2=>fin (bK 4 (by decide) hm5) q2 h2 c2 (by show dF mm.w (if t.2.1=[108,105] then 1 else 0) t.2.1 [t.2.1]=_;rw[if_neg n5]) (if_neg (by decide)) C2 (by omega) (by omega) E2
 refine Ck (fun hh kk hm=>aF ?_) fun y6 j6 n6=>aE ?_
 ·have kq:=q2.trans kk
  have ek:my t.2.1=6:=(bK 5 (by decide) hm)
  refine vM fun a3 h3 r3 k3=>aC (pX ((C1.cY kq).cY k3) r3 0 fun h4 k4=>?_)
  have C4:=((C1.cY kq).cY k3).cY k4
  have E4:al RX hh col h4 col:=.kb (k3.trans k4)
  refine ag (aR (fun e=>?_) fun e=>?_)
  ·have e:lg mm.w.op 0 yw=true:=e
   exact j3 C4 [] fun h5 c5 C5 E5=>vM fun a6 h6 r6 k6=>aC (XI (C5.cY k6) r6 fun h7 c7 C7 E7=>fin (bK 5 (by decide) hm) kq h7 c7 (by show dF mm.w 0 [] yw=_;unfold dF;rw[if_pos e];rfl) (if_neg (by decide)) C7 (by omega) (by omega) (E4.trans (E5.trans ((al.kb k6).trans E7))))
  ·have e:lg mm.w.op 0 yw=false:=e
   exact fin (bK 5 (by decide) hm) kq h4 col (by show dF mm.w 0 [] yw=_;unfold dF;rw[if_neg (by rw[e];decide)]) (if_neg (by decide)) C4 (by omega) (by omega) E4
 have q6:=q2.trans j6
 refine jF fun h0 j0=>ag (aR (fun e=>aF ?_) fun nf=>aE ?_)
 ·have ea:my t.2.1=0:=eq_of_beq (List.all_eq_true.1 Ot _ (of_decide_eq_true e))
  exact EJ (C1.cY (q6.trans j0)) (by omega) hv fun h2 c2 C2 E2=>fin ea (q6.trans j0) h2 c2 (by show(if dS t.2.1=true then bV mm.w t.2.1 else fq mm.w t.2.1)=_;rw[if_pos e]) (if_neg (by decide)) C2 (by omega) (by omega) E2
 have q0:=q6.trans j0
 refine SN (fun hm=>aF ?_) fun n7=>aE ?_
 ·have ek:my t.2.1=7:=(bK 6 (by decide) hm)
  refine eN T.s.1 fun a3 h3 r3 k3=>pX ((C1.cY q0).cY k3) r3 0 fun h4 k4=>?_
  have C4:=((C1.cY q0).cY k3).cY k4
  have E4:al RX h0 col h4 col:=.kb (k3.trans k4)
  refine ag (aR (fun e=>aF ?_) fun e=>aE ?_)
  ·have e:lg mm.w.op 0 [t.2.1]=true:=e
   refine EO C4 [] T.s.1 fun h5 c5 C5 E5=>?_
   obtain⟨tr,T5,W5⟩:=C5.p.ex
   obtain⟨ob,oc,mb,mn,mc,vw,o,om⟩:=W5.ex
   have jn:=C5.s.A.D.ml
   have hl:=om.len
   obtain⟨xs,he,Et,_⟩:=om.parts
   refine aa ⟨_,C5.V.cell 0 rfl,aa ⟨_,C5.V.cell 0 rfl,aa ⟨_,_,_,vw.cell 2 rfl,wu (fun k hk=>hk.2) om.row he Et (by omega) fun b6 n6 c6 h6 o6 k6=>aC ⟨k6.ext,aa (dZ W5 C5.f k6 o6 fun h7 W7 E7 f7 _=>?_)⟩⟩⟩⟩
   have E7a:al RA h5 c5 h7 _:=E7.mono fun s hs=>.inl (.inr hs)
   have p7:RW h7 (cw c5 h5 b6 (3,2)) w {wv mm.w [] [t.2.1] with aD:=lV mm.w.aD}:=⟨tr,T5.cJ (Z:=fun k=>k=3) (by decide) E7 f7,W7⟩
   exact fin (bK 6 (by decide) hm) q0 h7 _ (by show lE mm.w t.2.1=_;unfold lE;rw[if_pos e]) (if_neg (by decide)) (C5.ra p7 E7a C5.s.clear) (by omega) (by omega) (E4.trans (E5.trans E7a.rx))
  ·have e:lg mm.w.op 0 [t.2.1]=false:=e
   exact fin (bK 6 (by decide) hm) q0 h4 col (by show lE mm.w t.2.1=_;unfold lE;rw[if_neg (by rw[e];decide)]) (if_neg (by decide)) C4 (by omega) (by omega) E4
 have na:t.2.1≠ [98,114]->my t.2.1=0:=fun n8=>GH n1 n2 (cE n3) (cE n4) (fun hm=>(List.mem_cons.1 hm).elim n5 n5b) n6 n7 (cE n8)
 refine bh (fun hm=>?_) fun n8=>?_
 ·have ek:my t.2.1=8:=bK 7 (by decide) (by rw[hm];decide)
  have T1:=fj.nil h0 col zf (nm:=[98,114]) (by decide)
  have es:ga mm (sm 0 [98,114])={mm with w:=jr (aU mm.w) (sm 0 [98,114])}:=by unfold ga;rw[show oF (sm 0 [98,114]).2.1=18 from aM 17 (by decide) (by decide)];rfl
  refine GG (t:=sm 0 [98,114]) (b:=none) (n:=0) (c:=0) (C1.cY q0) hu hv T1 fun h2 c2 C2 E2=>?_
  rw[es] at C2
  exact fin ek q0 h2 c2 rfl (if_neg (by decide)) C2 (by omega) (by omega) E2
 ·have jZ:=C1.s.A.D.lo
  exact aa ⟨_,(C1.cY q0).V.cell 0 rfl,mz (C1.cY q0).p (by omega) fun h3 c3 p3 E3=>fin (na n8) q0 h3 c3 (by show(if dS t.2.1=true then bV mm.w t.2.1 else fq mm.w t.2.1)=_;rw[if_neg (by rw[show dS t.2.1=false from nf];decide)]) (if_neg (by decide)) ((C1.cY q0).ra p3 E3.ra ((C1.cY q0).s.close _)) (by omega) (by omega) E3.ra.rx⟩
end
section
variable {B:Nat->Prop} {h:H} {K:KV} {col:cd} {a w:Addr} {mm:MM} {u v x:Nat} {t:bJ} {b:OA} {n c:Nat} {ns:List Bs} {s:Bs} {l:List bJ}
theorem GI (C:CR h col a w mm u v x) (hu:u<=890000) (hx:x<=100000000) (hs:s.length<=4000) (hk:jb h col a w K {mm with w:=gb mm.w s} (u+1) v (x+4000)):zC 38 [.pointer (some w),S s] h K:=by
 have jZ:=C.s.A.D.lo
 have rB:=C.s.A.D.ln
 exact wx C.p C.s.A.D.G C.s.A.D.ne (by omega) (by omega) (C.nh hx hs) (by simp only[maxLen];omega) fun h2 c2 p2 E2=>hk h2 c2 (C.ra p2 E2.ra (C.s.write hs)) E2.ra.rx
theorem S0 (C:CR h col a w mm u v x) (hu:u<=700000) (hv:v<=10000) (hx:x<=100000000) (T:fj h col t b n c) (hk:jb h col a w K (sr mm t) (u+2*v+40) (v+1) (x+4000)):zC 22 [.pointer (some a),.agg ⟨aT (bP t b n c)⟩] h K:=by
 unfold sr at hk
 refine Xe4.ok _ _ _ _ (T.new C.f fun a1 h1 l1 k1 _=>⟨_,l1.V.cell 0 rfl,?_⟩)
 have C1:=C.cY k1
 refine bh (fun e=>aF ?_) fun e=>aE (bh (fun e2=>aF ?_) fun e2=>aE (bh (fun e3=>?_) fun e3=>bh (fun e4=>?_) fun e4=>?_))
 ·have e:t.1=1:=e
  rw[if_pos e] at hk
  exact aa ⟨_,C1.V.cell 0 rfl,uz C1 (by omega) hv fun h2 c2 C2 E2=>aa ⟨_,C2.V.cell 0 rfl,_,(l1.ext E2).V.cell 4 rfl,GI C2 (by omega) hx T.s.2.2.2 fun h3 c3 C3 E3=>hk h3 c3 (C3.se (by omega) (by omega)) ((al.kb k1).trans (E2.trans E3))⟩⟩
 ·have e:¬t.1=1:=e
  have e2:t.1=4:=e2
  rw[if_neg e,if_pos e2] at hk
  have jZ:=C1.s.A.D.lo
  have rB:=C1.s.A.D.ln
  have ht:=T.s.2.2.2
  exact aa ⟨_,C1.V.cell 0 rfl,_,l1.V.cell 4 rfl,yx C1.p C1.s.A.D.G C1.s.A.D.ne (by omega) (by omega) (by show t.2.2.2.2.length<=_;simp only[maxLen];omega) fun h2 c2 p2 E2=>hk h2 c2 ((C1.ra p2 E2.ra (C1.s.note ht)).se (by omega) (by omega)) ((al.kb k1).trans E2.ra.rx)⟩
 ·have e:¬t.1=1:=e
  have e2:¬t.1=4:=e2
  have e3:t.1=2:=e3
  rw[if_neg e,if_neg e2,if_pos e3] at hk
  exact l1.ld (GG C1 hu hv l1.T fun h2 c2 C2 E2=>hk h2 c2 (C2.ph (Nat.le_refl _) (Nat.le_refl _) (by omega)) ((al.kb k1).trans E2))
 ·have e:¬t.1=1:=e
  have e2:¬t.1=4:=e2
  have e3:¬t.1=2:=e3
  have e4:t.1=3:=e4
  rw[if_neg e,if_neg e2,if_neg e3,if_pos e4] at hk
  exact l1.ld (XH C1 hu hv l1.T fun h2 c2 C2 E2=>hk h2 c2 (C2.ph (Nat.le_refl _) (Nat.le_refl _) (by omega)) ((al.kb k1).trans E2))
 ·have e:¬t.1=1:=e
  have e2:¬t.1=4:=e2
  have e3:¬t.1=2:=e3
  have e4:¬t.1=3:=e4
  rw[if_neg e,if_neg e2,if_neg e3,if_neg e4] at hk
  exact hk h1 col (C1.ph (by omega) (by omega) (by omega)) (.kb k1)
theorem Ou (C:CR h col a w mm u v x) (hu:u<=800000) (hx:x<=100000000) (T:fj h col t b n c) (hk:jb h col a w K (su mm t) (u+1) v (x+4000)):zC 20 [.pointer (some a),.agg ⟨aT (bP t b n c)⟩] h K:=by
 unfold su at hk
 refine Xfc.ok _ _ _ _ (T.new C.f fun a1 h1 l1 k1 _=>⟨_,l1.V.cell 0 rfl,?_⟩)
 have C1:=C.cY k1
 refine bh (fun e=>?_) fun e=>?_
 ·have e:t.1=1:=e
  rw[if_pos e] at hk
  exact aa ⟨_,C1.V.cell 0 rfl,_,l1.V.cell 4 rfl,GI C1 (by omega) hx T.s.2.2.2 fun h3 c3 C3 E3=>hk h3 c3 C3 ((al.kb k1).trans E3)⟩
 ·have e:¬t.1=1:=e
  rw[if_neg e] at hk
  exact ze C1 (by omega) fun h2 c2 C2 E2=>aa ⟨_,C2.V.cell 2 rfl,aa (C2.H3 (mm2:={mm with w:=sv mm.w,mode:=mm.back}) rfl rfl (by decide) fun h3 C3 E3=>aa (C3.H3 (mm2:={mm with w:=sv mm.w,mode:=mm.back,read:=0}) rfl rfl (by decide) fun h4 C4 E4=>aa (C4.H3 (mm2:={mm with w:=sv mm.w,mode:=mm.back,read:=0,nm:=[]}) rfl rfl (by decide) fun h5 C5 E5=>hk h5 _ (C5.ph (by omega) (Nat.le_refl _) (by omega)) ((al.kb k1).trans (E2.trans (E3.trans (E4.trans E5)))))))⟩
theorem XJ {h:H} {col:cd} {K:KV} (f:bj h col) (L:kt h col) (hk:∀a w h' c',CR h' c' a w JX 1 0 0->al RX h col h' c'->K (.pointer (some a)) h'):zC 15 [] h K:=by
 refine Xfs.ok _ _ (Aq f fun w h1 c1 p1 E1=>cO (af fun a2 h2 v2 k2 e2 s2=>?_))
 have im:h1.size<=a2.block:=by omega
 have E2:al RX h1 c1 h2 (cp c1 a2.block (7,0)):=⟨k2.less fun k hk=>hk.1,fun k hk=>dG (by omega)⟩
 have f2:bj h2 (cp c1 a2.block (7,0)):=(p1.fresh.kb k2).cp v2.lt
 have p2:RW h2 (cp c1 a2.block (7,0)) w EP:=p1.ext (Z:=fun _=>False) ⟨k2.less fun k hk=>hk.1,fun k hk=>dG (by omega)⟩ id id f2
 exact hk a2 w h2 _ ⟨v2,gd,p2,f2,L.ext (E1.ra.rx.trans E2),⟨AI.zero,MW.zero⟩⟩ (E1.ra.rx.trans E2)
theorem H7 (C:CR h col a w mm u v x) (T:fj h col t b n c) (hk:∀h' c',CR h' c' a w (B0 mm) u v x->al RX h col h' c'->K (.tuple ⟨[.agg ⟨aT (bP (B4 mm t) b n c)⟩,.bool (JY mm t)]⟩) h'):
  zC 17 [.pointer (some a),.agg ⟨aT (bP t b n c)⟩] h K:=by
 refine XK.ok _ _ _ _ (T.new C.f fun a1 h1 l1 k1 g1=>af fun a2 h2 v2 k2 e2 s2=>?_)
 have C2:=(C.cY k1).cY k2
 have z1:=k1.1
 have Ro:=l1.V.lt
 have bI:a1.block≠a2.block:=by omega
 have E2:al (fun s=>s=7) h col h2 col:=.kb (k1.trans k2)
 have ca1:col a1.block=none:=l1.O
 have ca2:col a2.block=none:=C.f _ (by omega)
 have hW:∀h',al (fun s=>s=7) h col h' col->bj h' col->RW h' col w mm.w:=fun h' E f=>C.p.ext E (by decide) (by decide) f
 obtain⟨KR,Rp⟩:∃KR:XK.T0,KR=fun y4 y5 h=>bL h y4 fun t28=>K (.tuple ⟨[.agg ⟨aT t28⟩,.bool y5]⟩) h:=⟨_,rfl⟩
 have main:∀sk:Bool,mm.skip=sk->∀h3,CR h3 col a w (B0 mm) u v x->al (fun s=>s=7) h2 col h3 col->XK.n4 a1 a2 sk KR KR h3:=fun sk hsk h3 C3 E3=>by
  have w1:Var h3 a1 45 (aT (bP t b n c)):=(l1.V.kb k2).keep E3.eS ⟨ca1,(l1.V.kb k2).lt⟩
  have w2:=v2.keep E3.eS ⟨ca2,v2.lt⟩
  have ni:=E2.trans E3
  have fin:∀h5 (t':bJ) (lf:Bool),S1 a1.block a2.block h3 h5->B4 mm t=t'->JY mm t=lf->Var h5 a2 45 (aT (bP t' b n c))->KR a2 lf h5:=fun h5 t' lf k5 et el v5=>by
   subst et;subst el
   obtain⟨C5,E5⟩:=CG.two (mm:=B0 mm) (mmo:=mm) C hW C3 ni k5 g1 (by omega)
   rw[Rp]
   exact wy v5 (hk h5 col C5 (E5.mono fun s hs=>.inr hs))
  have no:Rq mm t=false->XK.n5 a1 a2 KR KR h3:=fun e=>wy w1 (aQ w2 (by show 5<=5;omega) fun h5 v5 k5 s5=>fin h5 t true ⟨k5.less fun k hk=>hk.2,s5⟩ (by unfold B4;rw[if_neg (by rw[e];decide)]) (by unfold JY;rw[if_neg (by rw[e];decide)]) v5)
  have eB:Rq mm t=(sk&&(decide (t.1=1)&&decide (t.2.2.2.2.head? =some 10))):=by rw[<-hsk];rfl
  refine aR (fun es=>⟨_,w1.cell 0 rfl,bh (fun e1=>⟨_,w1.cell 4 rfl,bh (fun e2=>aE (no ?_)) fun e2=>⟨_,w1.cell 4 rfl,⟨by omega,?_⟩,bh (fun e3=>aF ?_) fun e3=>aE (no ?_)⟩⟩) fun e1=>aE (no ?_)⟩) fun es=>aE (no ?_)
  ·have e2:t.2.2.2.2=[]:=e2
   rw[eB,e2];simp
  ·have e2:¬t.2.2.2.2=[]:=e2
   show(0:Int)<(t.2.2.2.2.length:Int)
   have:=List.length_pos_iff.2 e2
   omega
  ·have e1:t.1=1:=e1
   have e2:¬t.2.2.2.2=[]:=e2
   have hh:t.2.2.2.2.head? =some 10:=by
    cases hq:t.2.2.2.2 with
    | nil=>exact absurd hq e2
    | cons z l=>
     have e3:((List.getD t.2.2.2.2 (Int.toNat (0:Int)) 0).toNat:Int)=10:=e3
     rw[hq] at e3
     have e4:(z.toNat:Int)=10:=e3
     have:z=10:=UInt8.toNat_inj.1 (by show z.toNat=10;omega)
     rw[this];rfl
   have e:Rq mm t=true:=by rw[eB,es,decide_eq_true e1,decide_eq_true hh];rfl
   exact GJ w1 w2 rfl bI hh fun h5 v5 k5=>fin h5 (jN t) _ k5 (by unfold B4;rw[if_pos e]) (by unfold JY;rw[if_pos e]) v5
  ·have e2:¬t.2.2.2.2=[]:=e2
   have hh:¬t.2.2.2.2.head? =some 10:=fun hh=>by
    cases hq:t.2.2.2.2 with
    | nil=>exact e2 hq
    | cons z l=>
     rw[hq] at hh
     have hz:z=10:=Option.some.inj hh
     have e3:¬((List.getD t.2.2.2.2 (Int.toNat (0:Int)) 0).toNat:Int)=10:=e3
     rw[hq,hz] at e3
     exact e3 rfl
   rw[eB,decide_eq_false hh,Bool.and_false,Bool.and_false]
  ·have e1:¬t.1=1:=e1
   rw[eB,decide_eq_false e1,Bool.false_and,Bool.and_false]
  ·rw[eB,es,Bool.false_and]
 refine aa ⟨_,C2.V.cell 4 rfl,aR (fun e=>?_) fun e=>?_⟩
 all_goals
  refine aa (C2.st (mm2:=B0 mm) (fun h' E f=>C2.p.ext E (by decide) (by decide) f) rfl rfl (by decide) fun h3 C3 E3=>?_)
  have:=main _ e h3 C3 E3
  rw[Rp] at this
  exact this
theorem S3 (C:CR h col a w mm u v x) (D:Nat) (hD:Deep D mm.w.ns 0) (hk:∀h' b n c,KB h h'->ed (dC D) h' h.size 70 b n c (cT D mm.w.ns 0)->K (.slice b n c) h'):zC 26 [.pointer (some a)] h K:=by
 obtain⟨tr,T2,W2⟩:=C.p.ex
 obtain⟨ob,oc,mb,mn,mc,vw,o,om⟩:=W2.ex
 exact Xfd.ok _ _ _ (aa ⟨_,C.V.cell 0 rfl,aa ⟨_,vw.cell 0 rfl,Ov C.s.A.D.G C.s.A.D.B D 0 T2 hD fun h3 b3 n3 c3 k3 o3=>aC (hk h3 b3 n3 c3 k3 o3)⟩⟩)
theorem S4 (L:kt h (fun _=>none)) (f:bj h (fun _=>none)) (R:Row ja (bT (fun _=>none) h) h b n c l) (hl:wz l) (D:Nat) (hD:Deep D (ir l).w.ns 0)
  (hk:∀h' base b n c,h.size<=base->KB h h'->ed (dC D) h' base 70 b n c (cT D (ir l).w.ns 0)->K (.slice b n c) h'):zC 13 [.slice b n c] h K:=by
 have hlen:=R.len
 have Rr:=hl.1
 refine Jw.ok _ _ _ _ _ (XJ f L fun a w h1 c1 C1 E1=>cO ?_)
 refine⟨n+1,?_⟩
 have key:∀N i (mm:MM) h2 c2,i+N=n->CR h2 c2 a w mm (1+i*440) i (i*4000)->al RX h (fun _=>none) h2 c2->(l.drop i).foldl dr mm=ir l->
   Jw.fu (fun x3 h=>Jw.n4 x3 (fun gq gr gu h=>K (.slice gq gr gu) h) (fun gq gr gu h=>K (.slice gq gr gu) h) h) (fun x3 h=>Jw.n4 x3 (fun gq gr gu h=>K (.slice gq gr gu) h) (fun gq gr gu h=>K (.slice gq gr gu) h) h) (fun gq gr gu h=>K (.slice gq gr gu) h) (N+1) b n c (some a) (i:Int) h2:=by
  intro N
  induction N with
  | zero=>
   intro i mm h2 c2 hi C2 E2 hf
   unfold Jw.fu LP Jw.fg
   refine bX (by omega) ?_
   rw[List.drop_of_length_le (by omega)] at hf
   have hf:mm=ir l:=hf
   subst hf
   exact S3 C2 D hD fun h3 b3 n3 c3 k3 o3=>aC (hk h3 h2.size b3 n3 c3 E2.sk.1 (E2.kbz.trans k3) o3)
  | succ N ih=>
   intro i mm h2 c2 hi C2 E2 hf
   unfold Jw.fu LP Jw.fg
   have bM:i<l.length:=by omega
   rw[List.drop_eq_getElem_cons bM] at hf
   have hf:(l.drop (i+1)).foldl dr (dr mm l[i])=ir l:=hf
   refine bQ (by omega) ((E2.row R).bn bM rfl fun q hA=>?_)
   obtain⟨b',n',c',TC⟩:=pk hA
   have T2:fj h2 c2 l[i] b' n' c':=⟨TC.row,TC.nil,TC.rk,hl.2 _ (List.getElem_mem bM)⟩
   refine⟨_,TC.c0,_,TC.c1,_,_,_,TC.c2,_,TC.c3,_,TC.c4,H7 C2 T2 fun h6 c6 C6 E6=>?_⟩
   have wA:=E2.trans E6
   have T6:=Rs (mm:=mm) (T2.ext E6)
   have ss:dr mm l[i]=if JY mm l[i]=true then(if mm.mode=1 then su (B0 mm) (B4 mm l[i]) else sr (B0 mm) (B4 mm l[i])) else B0 mm:=rfl
   have go:∀h8 c8 (m8:MM) {u2 v2 x2:Nat},CR h8 c8 a w m8 u2 v2 x2->u2<=1+i*440+2*i+40->v2<=i+1->x2<=i*4000+4000->al RX h (fun _=>none) h8 c8->m8=dr mm l[i]->bc .i64 ((i:Int)+(1:Int))/\Jw.fu (fun x3 h=>Jw.n4 x3 (fun gq gr gu h=>K (.slice gq gr gu) h) (fun gq gr gu h=>K (.slice gq gr gu) h) h) (fun x3 h=>Jw.n4 x3 (fun gq gr gu h=>K (.slice gq gr gu) h) (fun gq gr gu h=>K (.slice gq gr gu) h) h) (fun gq gr gu h=>K (.slice gq gr gu) h) (N+1) b n c (some a) ((i:Int)+(1:Int)) h8:=fun h8 c8 m8 {u2 v2 x2} C8 h1 h2 h3 E8 e8=>by
    subst e8
    exact⟨aG (by omega) (by omega),ih (i+1) _ h8 c8 (by omega) (C8.ph (by omega) h2 (by omega)) E8 hf⟩
   refine Rt (aR (fun e=>?_) fun e=>?_)
   ·rw[if_pos e] at ss
    refine LT.copy T6 C6.f rfl fun a7 h7 l7 k7=>aF (aa ⟨_,(C6.cY k7).V.cell 1 rfl,bh (fun em=>?_) fun em=>?_⟩)
    ·have em:mm.mode=1:=em
     rw[if_pos em] at ss
     exact l7.ld (Ou (C6.cY k7) (by omega) (by omega) l7.T fun h8 c8 C8 E8=>go h8 c8 _ C8 (by omega) (by omega) (by omega) (wA.trans ((al.kb k7).trans E8)) ss.symm)
    ·have em:¬mm.mode=1:=em
     rw[if_neg em] at ss
     exact l7.ld (S0 (C6.cY k7) (by omega) (by omega) (by omega) l7.T fun h8 c8 C8 E8=>go h8 c8 _ C8 (by omega) (by omega) (by omega) (wA.trans ((al.kb k7).trans E8)) ss.symm)
   ·rw[if_neg (by rw[e];decide)] at ss
    exact LT.copy T6 C6.f rfl fun a7 h7 l7 k7=>aE (go h7 c6 _ (C6.cY k7) (by omega) (by omega) (by omega) (wA.trans (.kb k7)) ss.symm)
 exact key n 0 JX h1 c1 (by omega) C1 E1 rfl
end
def Cs (t:bJ):Bool:=decide (t.2.2.1=[])&&(decide (t.2.1.length<=100)&&(decide (t.2.2.2.2.length<=100)&&(decide (0<=t.1)&&decide (t.1<=9))))
theorem zg {t:bJ} (h:Cs t=true):t.2.2.1=[]/\t.2.1.length<=100/\t.2.2.2.2.length<=100/\0<=t.1/\t.1<=9:=by
 unfold Cs at h
 simp only[Bool.and_eq_true,decide_eq_true_eq] at h
 exact h
abbrev JZ (l:List bJ):List Value:=l.flatMap fun t=>ku t none 0 0
theorem GK {A:Nat->Prop} {h:H}:∀{l:List bJ},l.all Cs=true->eG ja A h l (JZ l)
 | [],_=>rfl
 | t::l,he=>by
  rw[List.all_cons,Bool.and_eq_true] at he
  obtain⟨e1,e2,e3,e4,e5⟩:=zg he.1
  exact⟨ku t none 0 0,JZ l,rfl,XL (by rw[e1];exact⟨rfl,Nat.le_refl _,Nat.zero_le _,fun i x hx=>by simp at hx⟩) (fun _=>rfl) ⟨by show(0:Int)<=_;omega,by show _<=(255:Int);omega⟩ (by simp only[maxLen];omega) (by simp only[maxLen];omega),GK he.2⟩
theorem XM {l:List bJ} (he:l.all Cs=true) (hn:l.length<=200):wz l:=⟨hn,fun t ht=>by
 obtain⟨e1,e2,e3,e4,e5⟩:=zg (List.all_eq_true.1 he t ht)
 exact⟨by omega,by rw[e1];exact Nat.zero_le _,(fun a ha=>by rw[e1] at ha;cases ha),by omega⟩⟩
section
variable {h:H} {K:KV}
theorem jd {s:Bs} (hk:∀h',KB h h'->K (.agg ⟨aT ⟨2,s,none,0,0,false,[]⟩⟩) h'):zC 30 [S s] h K:=by
 refine Xa4.ok _ _ _ (af fun a1 h1 v1 k1 e1 s1=>aQ v1 (Nat.le_refl 5) fun h2 v2 k2 s2=>?_)
 exact⟨_,v2.cell 0 rfl,_,v2.cell 1 rfl,_,_,_,v2.cell 2 rfl,_,v2.cell 3 rfl,_,v2.cell 4 rfl,hk h2 (KB.step k1 k2 (by omega))⟩
theorem iu {s:Bs} (hk:∀h',KB h h'->K (.agg ⟨aT ⟨1,[],none,0,0,false,s⟩⟩) h'):zC 31 [S s] h K:=by
 refine Xa5.ok _ _ _ (af fun a1 h1 v1 k1 e1 s1=>aQ v1 (Nat.le_refl 5) fun h2 v2 k2 s2=>?_)
 exact⟨_,v2.cell 0 rfl,_,v2.cell 1 rfl,_,_,_,v2.cell 2 rfl,_,v2.cell 3 rfl,_,v2.cell 4 rfl,hk h2 (KB.step k1 k2 (by omega))⟩
theorem J0 (ml:ML h):kt h (fun _=>none):=⟨ml,rfl⟩
theorem ER (h:H):bj h (fun _=>none):=fun _ _=>rfl
theorem _root_.Go.Sh.Row.J1 {α:Type} {E:El α} {A:Nat->Prop} {b:OA} {n c:Nat} {l:List α} (R:Row E A h b n c l):Row E (bT (fun _=>none) h) h b n c l:=
 R.H0.keep (bY.refl (fun _=>True) _ |>.less fun _ _=>trivial) fun k hk _=>⟨rfl,hk⟩
theorem ES {l:List bJ} {n:Nat} (hn:l.length=n) (h6:n<=200) (he:l.all Cs=true) {w:WM} (hp:ir l=mS w) (hd:J2 4 w.ns 0=true) (ml:ML h) {Q:OA->Nat->Nat->H->Prop}
  (hk:∀h' b n' c A,KB h h'->Row (dC 4) A h' b n' c (cT 4 w.ns 0)->Q b n' c h'):
  aw h ⟨JZ l⟩ 45 fun ET yj=>zC 8 [.slice (some ET) n n] yj fun B5 mq=>aA B5 fun sb sn sc=>Q sb sn sc mq:=by
 subst hn
 refine af fun a h1 v1 k1 e1 s1=>?_
 have R:Row ja (fun _=>True) h1 (some a) l.length l.length l:=Row.of (GK he) (fun j x hx=>⟨a,rfl,v1.cell j hx⟩) rfl (Nat.le_refl _) (by simp only[maxLen];omega) fun _ _=>trivial
 have e:(ir l).w=w:=by rw[hp]
 refine J3 (J0 (ml.kb k1)) (ER h1) R.J1 (XM he h6) 4 (by rw[e];exact Ct hd) fun h' base b n c hb k o=>aC ?_
 rw[e] at o
 exact hk h' b n c _ (k1.trans k) o.row
theorem qP {t:Tk} {Q:Tk->Prop} (h:Q t):dT (.agg ⟨aT t⟩) Q:=h
theorem yy (ml:ML h) (hk:∀h',KB h h'->K (.bool true) h'):zC 11 [] h K:=by
 refine Xa3.ok _ _ (jd fun h1 k1=>qP (iu fun h2 k2=>qP (jd fun h3 k3=>qP (iu fun h4 k4=>qP (jd fun h5 k5=>qP (iu fun h6 k6=>qP ?_))))))
 have kA:=((((k1.trans k2).trans k3).trans k4).trans k5).trans k6
 refine ES (l:=[zh [112],zi [49],zh [98],zi [50],zh [112],zi [51]]) rfl (by decide) (by decide+kernel) ade (by decide+kernel) (ml.kb kA) fun hA bA nA cA _ kA2 RA=>?_
 rw[XN] at RA
 refine jd fun h1 k1=>qP (iu fun h2 k2=>qP (jd fun h3 k3=>qP (iu fun h4 k4=>qP ?_)))
 have kB:=(((k1.trans k2).trans k3).trans k4)
 refine ES (l:=[zh [97],zi [49],zh [97],zi [50]]) rfl (by decide) (by decide+kernel) adf (by decide+kernel) (ml.kb ((kA.trans kA2).trans kB)) fun hB bB nB cB _ kB2 RB=>?_
 rw[XO] at RB
 have kAB:=(kA.trans kA2).trans (kB.trans kB2)
 have RA:=RA.kb (kB.trans kB2)
 have lA:2=nA:=RA.len
 have lB:2=nB:=RB.len
 refine bQ (by omega) (RA.bn (i:=0) (by decide) rfl fun q1 A1=>?_)
 obtain⟨kb1,kn1,kc1,_,s1,rk1⟩:=j5 A1
 have lk1:2=kn1:=rk1.len
 refine⟨_,_,_,s1,bQ (by omega) (RA.bn (i:=1) (by decide) rfl fun q2 A2=>?_)⟩
 obtain⟨WT,Ru,WU,_,s2,rk2⟩:=j5 A2
 have lk2:1=Ru:=rk2.len
 refine⟨_,_,_,s2,bQ (by omega) (RA.bn (i:=1) (by decide) rfl fun q3 A3=>?_)⟩
 obtain⟨kb3,kn3,kc3,_,s3,rk3⟩:=j5 A3
 refine⟨_,_,_,s3,rk3.bn (i:=0) (by decide) rfl fun q4 A4=>?_⟩
 obtain⟨kb4,kn4,kc4,t4,_,_⟩:=j5 A4
 refine⟨_,t4,bQ rfl ?_⟩
 refine ES (l:=[tkE [112]]) rfl (by decide) (by decide+kernel) adi (by decide+kernel) (ml.kb kAB) fun hC bC nC cC _ kC RC=>aF ?_
 have RC:Row (dC 4) _ hC bC nC cC [.mk 1 0 [112] [] [] []]:=RC
 have lC:1=nC:=RC.len
 refine bQ (by omega) ((RB.kb kC).bn (i:=1) (by decide) rfl fun q5 A5=>?_)
 obtain⟨kb5,kn5,kc5,t5,_,_⟩:=j5 A5
 refine⟨_,t5,bQ rfl (bQ (by omega) (RC.bn (i:=0) (by decide) rfl fun q6 A6=>?_))⟩
 obtain⟨kb6,kn6,kc6,t6,_,_⟩:=j5 A6
 exact⟨_,t6,bQ rfl (hk hC (kAB.trans kC))⟩
theorem hH.row {α:Type} {E:El α} {h h':H} {b:OA} {n c:Nat} {l:List α} {B:Nat->Prop} {A:Nat->Prop} (f:hH A h h') (R:Row E B h b n c l) (hd:∀k,B k->¬A k):Row E B h' b n c l:=
 R.keep (SK.w (f.sk.less fun k hk=>hd k hk.1)) fun k hk _=>hk
end
end Go.Proofs
namespace Go.Sh
open Go Go.ChangeShapes Go.WideShapes Go.Deep
set_option linter.unusedVariables false
variable {P:Program} {α β:Type}
def Reads (P:Program) (E:El α) (S:α->Prop) (t:TypeId):Prop:=
 ∀{H:Type} {enc:TypeId × Value->H} {w:World} {base fuel:Nat} {spare:Nat->Bool} {held:Bool} {cs:List Value} {x:DataW H × List MemPlace},
  DataW.trod enc P w base spare held fuel t cs=some x->(∀n ∈ x.1.weights P t,n<=reachBytes)->∃a,E.R (rX w.heap.size) w.heap a cs/\S a
def J4 {H:Type} (enc:TypeId × Value->H) (P:Program) (w:World) (base:Nat) (spare:Nat->Bool) (held:Bool):List TypeId->List Value->List (DataW H × List MemPlace)->Prop
 | [],cs,ys=>cs=[]/\ys=[]
 | t::ts,cs,ys=>∃c1 c2 y ys',cs=c1++c2/\ys=y::ys'/\(∃fuel,DataW.trod enc P w base spare held fuel t c1=some y)/\J4 enc P w base spare held ts c2 ys'
def Ar (P:Program) (E:El α) (S:α->Prop) (ts:List TypeId):Prop:=
 ∀{H:Type} {enc:TypeId × Value->H} {w:World} {base:Nat} {spare:Nat->Bool} {held:Bool} {vs:List Value} {ys:List (DataW H × List MemPlace)},
  J4 enc P w base spare held ts vs ys->(∀n ∈ DataW.weightsEach P ts (ys.map (·.1)),n<=reachBytes)->∃a,E.R (rX w.heap.size) w.heap a vs/\S a
theorem JJ {k:IntKind} {t:TypeId} (ht:P.underlying t=some (.int k)):Reads P (jG k) (fun _=>True) t:=by
 intro H enc w base fuel spare held cs x h _
 obtain⟨n,e,_,hw⟩:=DataW.trod_int ht h
 cases e
 refine⟨n,⟨rfl,?_⟩,trivial⟩
 simp[Lit.wf] at hw
 exact hw
theorem HZ {t:TypeId} (ht:P.underlying t=some .bool):Reads P EU (fun _=>True) t:=by
 intro H enc w base fuel spare held cs x h _
 obtain⟨n,e,_⟩:=DataW.trod_bool ht h
 cases e
 exact⟨n,rfl,trivial⟩
theorem sd {t:TypeId} (ht:P.underlying t=some .string):Reads P cL (fun s=>s.length<=reachBytes) t:=by
 intro H enc w base fuel spare held cs x h hz
 obtain⟨s,e,hx,hw⟩:=DataW.trod_string ht h
 cases e
 subst hx
 exact⟨s.data.toList,⟨rfl,by simpa using hw⟩,hz _ (by simp[DataW.weights])⟩
theorem wh {E:El α} {S:α->Prop} {t:TypeId} (h:Reads P E S t):Ar P E S [t]:=by
 intro H enc w base spare held vs ys ht hw
 obtain⟨c1,c2,y,ys',rfl,rfl,⟨fuel,hf⟩,rfl,rfl⟩:=ht
 rw[List.append_nil]
 exact h hf fun n hn=>hw n (by simp[DataW.weightsEach,hn])
theorem iZ {E:El α} {F:El β} {S:α->Prop} {T:β->Prop} {t:TypeId} {ts:List TypeId} (h:Reads P E S t) (k:Ar P F T ts):Ar P (iv E F) (fun x=>S x.1/\T x.2) (t::ts):=by
 intro H enc w base spare held vs ys ht hw
 obtain⟨c1,c2,y,ys',rfl,rfl,⟨fuel,hf⟩,hr⟩:=ht
 obtain⟨a,h1,h2⟩:=h hf fun n hn=>hw n (by simp[DataW.weightsEach,hn])
 obtain⟨b,h3,h4⟩:=k hr fun n hn=>hw n (by simp only[List.map_cons,DataW.weightsEach,List.mem_append];exact .inr hn)
 exact⟨(a,b),⟨c1,c2,rfl,h1,h3⟩,h2,h4⟩
def zj (P:Program):List Field->Nat->Bool
 | [],_=>true
 | f::fs,i=>Nat.beq f.offset i&&zj P fs (i+P.cellsOf f.type)
def GL (P:Program) (t n:Nat) (ts:List TypeId):Bool:=
 match P.underlying t with
 | some (.struct fs)=>zj P fs.toList 0&&decide (fs.toList.map (·.type)=ts)&&Nat.beq (P.cellsOf t) n&&Nat.beq ((ts.map P.cellsOf).foldr (·+·) 0) n
 | _=>false
theorem Cu {H:Type} {enc:TypeId × Value->H} {w:World} {base:Nat} {spare:Nat->Bool} {held:Bool} {n:Nat}:∀{fl:List Field} {i:Nat} {cs:List Value} {ys:List (DataW H × List MemPlace)},
  zj P fl i=true->cs.length=((fl.map (·.type)).map P.cellsOf).foldr (·+·) 0->ys.length=fl.length->
  (∀(j:Nat) (f:Field),fl[j]? =some f->DataW.trod enc P w base spare held n f.type ((cs.drop (f.offset - i)).take (P.cellsOf f.type))=ys[j]?)->J4 enc P w base spare held (fl.map (·.type)) cs ys
 | [],i,cs,ys,_,hc,hy,_=>⟨List.eq_nil_of_length_eq_zero (by simpa using hc),List.eq_nil_of_length_eq_zero (by simpa using hy)⟩
 | f::fl,i,cs,ys,ho,hc,hy,bq=>by
  simp only[zj,Bool.and_eq_true] at ho
  have e0:=Nat.eq_of_beq_eq_true ho.1
  cases ys with
  | nil=>simp at hy
  | cons y ys=>
   have h0:=bq 0 f rfl
   rw[e0,Nat.sub_self,List.drop_zero] at h0
   refine⟨cs.take (P.cellsOf f.type),cs.drop (P.cellsOf f.type),y,ys,(List.take_append_drop _ _).symm,rfl,⟨n,h0⟩,Cu (i:=i+P.cellsOf f.type) (n:=n) ho.2 (by simp only[List.length_drop,hc,List.map_cons,List.foldr_cons];omega) (by simpa using hy) fun j g hg=>?_⟩
   have:=bq (j+1) g (by simpa using hg)
   rw[List.drop_drop]
   have Ow:∀{l:List Field} {i j:Nat} {g:Field},zj P l i=true->l[j]? =some g->i<=g.offset:=by
    intro l
    induction l with
    | nil=>intro i j g _ hg;simp at hg
    | cons f l ih=>
     intro i j g ho hg
     simp only[zj,Bool.and_eq_true] at ho
     cases j with
     | zero=>simp at hg;subst hg;exact Nat.le_of_eq (Nat.eq_of_beq_eq_true ho.1).symm
     | succ j=>have:=ih ho.2 (by simpa using hg);omega
   have hge:=Ow ho.2 hg
   rw[show P.cellsOf f.type+(g.offset - (i+P.cellsOf f.type))=g.offset - i by omega]
   simpa using this
theorem uv {E:El α} {S:α->Prop} {t:TypeId} {ts:List TypeId} (hb:GL P t E.sz ts=true) (hr:Ar P E S ts):Reads P E S t:=by
 intro H enc w base fuel spare held cs x h hw
 unfold GL at hb
 split at hb
 ·rename_i fs hs
  simp only[Bool.and_eq_true,decide_eq_true_eq] at hb
  obtain⟨⟨⟨h1,h2⟩,h3⟩,h4⟩:=hb
  obtain⟨ys,n,_,rfl,hlen,hyl,hf⟩:=DataW.trod_struct hs h
  refine hr (enc:=enc) (base:=base) (spare:=spare) (held:=held) (ys:=ys) ?_ fun n hn=>hw n ?_
  ·rw[<-h2]
   exact Cu (i:=0) (n:=n) h1 (by rw[h2,hlen,Nat.eq_of_beq_eq_true h3,Nat.eq_of_beq_eq_true h4]) (by simpa using hyl) fun j f hj=>by
    rw[Nat.sub_zero];exact hf j f (by simpa using hj)
  ·simp only[DataW.weights,hs,h2]
   exact hn
 ·cases hb
theorem pn {H:Type} {e:TypeId} {d:DataW H}:∀{l:List (DataW H)},d ∈ l->∀n ∈ d.weights P e,n ∈ DataW.weightsAll P e l
 | x::l,hd,n,hn=>by
  simp only[DataW.weightsAll,List.mem_append]
  rcases List.mem_cons.1 hd with rfl | h
  ·exact .inl hn
  ·exact .inr (pn h n hn)
def sliceB (P:Program) (t e n by':Nat):Bool:=
 match P.underlying t with
 | some (.slice e')=>Nat.beq e' e&&(Nat.beq (P.cellsOf e) n&&Nat.beq (P.bytesOf e) by')
 | _=>false
theorem GA {E:El α} {S:α->Prop} {t e:TypeId} {by':Nat} (hb:sliceB P t e E.sz by'=true) (hr:Reads P E S e):
  Reads P (EH E) (fun l=>l.length*by'<=reachBytes/\∀x ∈ l,S x) t:=by
 intro H enc w base fuel spare held cs x h hw
 unfold sliceB at hb
 split at hb
 ·rename_i e' ht
  simp only[Bool.and_eq_true] at hb
  obtain⟨h1,h2,h3⟩:=hb
  have h1:=Nat.eq_of_beq_eq_true h1
  have hC:=Nat.eq_of_beq_eq_true h2
  have zk:=Nat.eq_of_beq_eq_true h3
  subst h1
  rcases open_slice ht h with ⟨rfl,rfl⟩ | ⟨a,len,cap,m,n,D,Pl,rfl,hb,hl,hm,hmm,rfl,hi⟩
  ·exact⟨[],⟨none,0,0,rfl,Row.nil _ _,fun _=>rfl⟩,by simp,fun x hx=>by cases hx⟩
  ·have hlm:len<=m:=by rw[hmm];split <;> omega
   simp only[DataW.weights,ht,List.mem_cons,List.mem_append] at hw
   have hlen:len*by'<=reachBytes:=by
    have:=hw _ (.inl rfl)
    simp only[List.length_map,List.length_range,zk] at this
    have h2:len*by'<=(len+(m - len))*by':=Nat.mul_le_mul_right _ (by omega)
    omega
   have each:∀i,i<len->∃x:α,S x/\∃vs,E.R (rX w.heap.size) w.heap x vs/\∀(j:Nat) u,vs[j]? =some u->cell w.heap (a.add (i*E.sz+j))=some u:=by
    intro i bM
    obtain⟨Rv,hc,ht'⟩:=hi i (by omega)
    rw[hC] at hc
    obtain⟨_,hcl,wB⟩:=World.cells?_some hc
    have je:D i ∈ (List.range len).map D:=List.mem_map.2 ⟨i,List.mem_range.2 bM,rfl⟩
    obtain⟨x,hx,hs⟩:=hr ht' fun n hn=>hw n (.inr (.inl (pn je n hn)))
    refine⟨x,hs,Rv,hx,fun j u hu=>?_⟩
    have hj:j<Rv.length:=(List.getElem?_eq_some_iff.1 hu).1
    have:=wB j (by omega)
    rw[lF,hu,Go.Sh.add_add] at this
    exact this
   have list:∀k,k<=len->∃l:List α,l.length=k/\(∀x ∈ l,S x)/\∀i x,l[i]? =some x->∃vs,E.R (rX w.heap.size) w.heap x vs/\∀(j:Nat) u,vs[j]? =some u->cell w.heap (a.add (i*E.sz+j))=some u:=by
    intro k
    induction k with
    | zero=>exact fun _=>⟨[],rfl,fun x hx=>by(cases hx),fun i x hx=>by simp at hx⟩
    | succ k ih=>
     intro hk
     obtain⟨l,h1,h2,h3⟩:=ih (by omega)
     obtain⟨x,hs,hx⟩:=each k (by omega)
     refine⟨l++ [x],by simp[h1],fun y hy=>?_,fun i y hy=>?_⟩
     ·rcases List.mem_append.1 hy with hy | hy
      ·exact h2 y hy
      ·rw[List.mem_singleton] at hy;subst hy;exact hs
     ·by_cases hi:i<l.length
      ·rw[List.getElem?_append_left hi] at hy;exact h3 i y hy
      ·rw[List.getElem?_append_right (by omega)] at hy
       cases hd:i - l.length with
       | zero=>
        rw[hd] at hy;simp at hy;subst hy
        have:i=k:=by omega
        subst this;exact hx
       | succ d=>rw[hd] at hy;simp at hy
   obtain⟨l,h1,h2,h3⟩:=list len (Nat.le_refl _)
   refine⟨l,⟨some a,len,cap,rfl,⟨h1,hl,hm,fun i x hx=>?_⟩,fun e=>by cases e⟩,by rw[h1];exact hlen,h2⟩
   obtain⟨vs,h4,h5⟩:=h3 i x hx
   have hp:=E.pos
   have hvl:=E.len _ _ _ _ h4
   refine⟨a,rfl,?_,vs,h4,fun j u hu=>by rw[Go.Sh.add_add];exact h5 j u hu⟩
   have:=fS (h5 0 _ (List.getElem?_eq_getElem (by omega)))
   rw[bo] at this ⊢
   exact this
 ·cases hb
section
variable {H:Type} {enc:TypeId × Value->H} {w:World} {base b0:Nat} {spare:Nat->Bool} {held:Bool} {r:Reach} {t:TypeId} {v:Value} {d:DataW H} {p:List MemPlace}
theorem Xy {E:El α} {S:List α->Prop} {e:TypeId} (ht:P.underlying t=some (.slice e)) (hr:Reads P (EH E) S t) (hv:Value.okWide P w r b0 t v) (h:DataW.Trod enc P w base spare held t v d p) (hw:∀n ∈ d.weights P t,n<=reachBytes):
  ∃(l:List α) (b:OA) (n c:Nat),v=.slice b n c/\Row E (rX w.heap.size) w.heap b n c l/\(b=none->c=0)/\S l:=by
 obtain⟨b,n,c,rfl⟩:=okWide_slice ht hv
 obtain⟨fuel,hf⟩:=h
 obtain⟨l,⟨b',n',c',e,hR,hz⟩,hs⟩:=hr hf hw
 simp[Value.cells] at e
 obtain⟨rfl,rfl,rfl⟩:=e
 exact⟨l,b,n,c,rfl,hR,hz,hs⟩
theorem bw.below {W W':World} (o:bw W W') (k:KB W.heap W'.heap):RowKit.Below W.heap.size W W':=⟨o.os,o.tape,o.output,k.1,fun b hb=>k.2 b hb⟩
def J5 (P:Program) (ts:List TypeId):Bool:=ts.all fun t=>P.readableRec t&&decide (t<P.types.size)
theorem qL (hl:laidOutB P=true) {W W':World} (hb:RowKit.Below W.heap.size W W'):∀{ts:List TypeId} {vs:List Value} {ds:List (DataW H)} {p:List MemPlace},J5 P ts=true->
  DataW.TrodAll enc P W 0 (fun _=>true) true ts vs ds p->(∀x ∈ p,x.block<W.heap.size)->DataW.TrodAll enc P W' 0 (fun b=>decide (b<W.heap.size)) true ts vs ds p
 | [],[],[],_,_,h,_=>h
 | [],_::_,_,_,_,h,_=>h.elim
 | [],[],_::_,_,_,h,_=>h.elim
 | _::_,[],_,_,_,h,_=>h.elim
 | _::_,_::_,[],_,_,h,_=>h.elim
 | t::ts,v::vs,d::ds,_,hr,⟨p,q,h1,h2,rfl⟩,cP=>by
  simp only[J5,List.all_cons,Bool.and_eq_true,decide_eq_true_eq] at hr
  exact⟨p,q,Go.RowKit.Below.trod hl hr.1.1 hr.1.2 h1 hb fun x hx=>cP x (List.mem_append_left _ hx),qL hl hb (by simpa [J5] using hr.2) h2 fun x hx=>cP x (List.mem_append_right _ hx),rfl⟩
end
end Go.Sh
namespace Go.Proofs
open Go Go.Sh
set_option linter.unusedVariables false
set_option maxRecDepth 100000
theorem wC {h h':H} {a:Addr} {v:Value} (e:cell h a=some v) (k:KB h h'):cell h' a=some v:=(KB.w k).cell (fS e) e
theorem Rw {h h':H} {g:Nat} (t:qQ h g) (k:KB h h'):qQ h' g:=by
 obtain⟨c,e,hg⟩:=t
 exact⟨c,e,by rw[k.2 g (Array.getElem?_eq_some_iff.1 hg).1];exact hg⟩
theorem qR.kb {A:Nat->Prop} {h h':H} {q:Addr} (k:KB h h'):qR A h q->qR A h' q
 | ⟨hA,ht,i,s,ab,an,ac,z,tx,c0,c1,c2,c3,c4,sa⟩=>⟨hA,Rw ht k,i,s,ab,an,ac,z,tx,wC c0 k,wC c1 k,wC c2 k,⟨wC c3.1 k,c3.2⟩,wC c4 k,sa.1,fun i hi=>by
  obtain⟨a,e,hA,ht,⟨s1,c1⟩,s2,c2⟩:=sa.2 i hi
  exact⟨a,e,hA,Rw ht k,⟨s1,wC c1 k⟩,s2,wC c2 k⟩⟩
theorem MQ.fold:∀{l:List bJ} {mm:MM} {u v x:Nat},MQ mm u v x->(∀t ∈ l,po t)->∃u v x,MQ (l.foldl dr mm) u v x
 | [],mm,u,v,x,q,_=>⟨u,v,x,q⟩
 | t::l,mm,u,v,x,q,h=>MQ.fold (l:=l) (q.step (h t (List.mem_cons_self ..))) fun y hy=>h y (List.mem_cons_of_mem _ hy)
theorem H8 {l:List bJ} (hl:wz l):∃D,Deep D (ir l).w.ns 0:=by
 obtain⟨u,v,x,q⟩:=MQ.fold MQ.zero hl.2
 obtain⟨D,hD⟩:=q.s.A.D.G.deep
 exact⟨D,hD D (Nat.le_refl _) 0⟩
theorem wj {A:Nat->Prop} {h:H} {K:KV} {b:OA} {n c:Nat} {l:List bJ} (ml:ML h) (R:Row ja A h b n c l) (hk:∀h',KB h h'->K (.bool true) h'):
  zC 3 [.slice b n c] h K:=by
 refine Xa1.ok _ _ _ _ _ (yz R fun v hv=>ag (aR (fun _=>hk h (KB.refl h)) fun ev=>?_))
 have hl:=hv ev
 obtain⟨D,hD⟩:=H8 hl
 refine Cv R hl fun b1 c1 h1 o1 k1=>aC ?_
 have k1s:=k1.1
 refine J3 (J0 (ml.kb k1)) (ER h1) o1.GM.row.J1 hl D hD fun h2 base b2 n2 c2 hb k2 o2=>aC ?_
 have o1':=o1.kb k2
 refine wD o1'.GM.row (R.kb (k1.trans k2)) fun h3 k3=>ag (aF ?_)
 have o3:=o1'.kb k3
 have fX:=k2.trans k3
 have qy:=k1.trans fX
 have hA:∀i,i<n->∃a,b1=some a/\qR (fun k=>h.size<=k/\k<h1.size) h3 (a.add (i*5)):=fun i hi=>by
  obtain⟨a,ea,sh⟩:=H9 o1 i hi
  exact⟨a,ea,qR.kb fX sh⟩
 refine As (Nat.le_trans R.cap R.max) hA fun h4 s4=>?_
 have jo:KB h h4:=SK.trans qy (s4.sk.less fun k hk hA=>by have hk:k<h.size:=hk;omega)
 have r2:Row (dC D) (fun k=>base<=k/\k<h3.size) h4 b2 n2 c2 _:=s4.row (o2.kb k3).row fun k hk hA=>by omega
 refine yy (ml.kb jo) fun h5 k5=>ag (aF (aF ?_))
 have J6:=jo.trans k5
 refine S4 (J0 (ml.kb J6)) (ER h5) (R.kb J6).J1 hl D hD fun h6 alj b6 n6 c6 WV k6 o6=>aC ?_
 refine vf D ((r2.kb k5).kb k6) o6.row fun h7 k7=>?_
 rw[kv rfl]
 exact ag (aF (hk h7 ((J6.trans k6).trans k7)))
end Go.Proofs
