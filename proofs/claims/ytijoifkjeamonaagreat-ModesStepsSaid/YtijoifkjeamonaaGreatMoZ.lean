import Derived.Test.YtijoifkjeamonaaGreatHc
import Derived.Test.YtijoifkjeamonaaGreatMoS
import Derived.Test.YtijoifkjeamonaaGreatAaD
import Derived.Test.YtijoifkjeamonaaGreatDrF
import Derived.Test.YtijoifkjeamonaaGreatHmI
import Derived.Deep.Slices
import Derived.Deep.Fields
import Derived.ChangeSame
import Derived.SizedLaws
import Derived.Carry
import Derived.OpenShut
import Derived.ProofKit
namespace Go.Proofs
open Go Go.Sh
set_option linter.unusedVariables false
set_option maxRecDepth 100000
section
variable {Bp:Nat->Prop} {h:H} {K:KV} {col:bY} {a w:Addr} {mm:MM} {u v x:Nat} {t:cm} {b:OA} {n c:Nat} {ns:List Bs} {s:Bs}
theorem Cj (C:CR h col a w mm u v x) (hu:u<=700000) (hv:v<=10000) (T:fc h col t b n c)
  (hM:∀{h1:H} {c1:bY} (C1:CR h1 c1 a w mm u v x) (T1:fc h1 c1 t b n c) {K:KV},(∀k,k<14->t.2.1 ∉ Ck.getD k [])->iW h1 c1 a w K (fV mm t) (u+2*v+40) (v+1) x->zC 118 [.pointer (some a),.agg ⟨aT (bR t b n c)⟩] h1 K)
  (hk:iW h col a w K (fV mm t) (u+2*v+40) (v+1) x):zC 46 [.pointer (some a),.agg ⟨aT (bR t b n c)⟩] h K:=by
 refine Xfo.ok _ _ _ _ (T.new C.f fun a1 h1 l1 k1 g1=>⟨_,l1.nm,?_⟩)
 have C1:=C.da k1
 have fin:∀{k:Nat} (ek:oq t.2.1=k) {mm2:MM} {u2 v2:Nat} {hc:H} (kc:KB h1 hc) h2 c2,wa mm t k=mm2->CR h2 c2 a w mm2 u2 v2 x->u2<=u+2*v+40->v2<=v+1->al RX hc col h2 c2->K (.tuple ⟨[]⟩) h2:=fun {k} ek {mm2 u2 v2 hc} kc h2 c2 em C2 h1 u0 E2=>by
  unfold fV at hk
  rw[ek,em] at hk
  exact hk h2 c2 (C2.rX h1 u0) ((al.kb (k1.trans kc)).trans E2)
 refine zd (ws:=wS1) rfl (by decide) (by decide) (fun hh kk hm=>aD ?_) fun y1 j1 n1=>aC ?_
 ·have kq:=(KB.refl h1).trans kk
  exact fin (aN 0 (by decide) hm) kq hh col rfl (C1.da kq) (by omega) (by omega) (.refl _ _ _)
 have q1:=(KB.refl h1).trans j1
 refine zd (ws:=wS2) rfl (by decide) (by decide) (fun hh kk hm=>aD ?_) fun y2 j2 n2=>aC ?_
 ·have kq:=q1.trans kk
  exact(l1.kb kq).ld (Aq (C1.da kq) (by omega) (l1.kb kq).T fun h2 c2 C2 E2=>fin (aN 1 (by decide) hm) kq h2 c2 rfl C2 (by omega) (by omega) E2)
 have q2:=q1.trans j2
 refine bf (fun hm=>aD ?_) fun n3=>aC ?_
 ·exact(l1.kb q2).ld (GH (C1.da q2) (by omega) (l1.kb q2).T 1 fun h2 c2 C2 E2=>fin (aN 2 (by decide) (by rw[hm];decide)) q2 h2 c2 rfl C2 (by omega) (by omega) E2)
 refine zd (ws:=wS4) rfl (by decide) (by decide) (fun hh kk hm=>aD ?_) fun y4 j4 n4=>aC ?_
 ·have kq:=q2.trans kk
  exact(l1.kb kq).ld (GH (C1.da kq) (by omega) (l1.kb kq).T 2 fun h2 c2 C2 E2=>fin (aN 3 (by decide) hm) kq h2 c2 rfl C2 (by omega) (by omega) E2)
 have q4:=q2.trans j4
 refine bf (fun hm=>aD ?_) fun n5=>aC ?_
 ·exact(l1.kb q4).ld (GH (C1.da q4) (by omega) (l1.kb q4).T 3 fun h2 c2 C2 E2=>fin (aN 4 (by decide) (by rw[hm];decide)) q4 h2 c2 rfl C2 (by omega) (by omega) E2)
 refine zd (ws:=wS6) rfl (by decide) (by decide) (fun hh kk hm=>aD ?_) fun y6 j6 n6=>aC ?_
 ·have kq:=q4.trans kk
  exact jY (C1.da kq) (by omega) (l1.kb kq) (Q:=fun _ h=>K (.tuple ⟨[]⟩) h) fun h2 c2 C2 E2=>fin (aN 5 (by decide) hm) kq h2 c2 rfl C2 (by omega) (by omega) E2
 have q6:=q4.trans j6
 refine Cl (fun hh kk hm=>aD ?_) fun y7 j7 n7=>aC ?_
 ·have kq:=q6.trans kk
  refine lZ (C1.da kq) fun h2 c2 C2 E2=>vG fun a3 h3 r3 k3=>aH (XZ (C2.da k3) (by omega) r3 fun h4 k4=>?_)
  have C4:=(C2.da k3).da k4
  have E4:al RX hh col h4 c2:=E2.trans (.kb (k3.trans k4))
  have l4:=(l1.kb kq).ext E4
  refine ag (aR (fun e=>?_) fun e=>?_)
  ·have e:Et (pW mm.w) yy=true:=e
   exact ze C4 (by omega) fun h5 c5 C5 E5=>ji C5 (by omega) (l4.ext E5) (Q:=fun _ h=>K (.tuple ⟨[]⟩) h) fun h6 c6 C6 E6=>fin (aN 6 (by decide) hm) kq h6 c6 (by show({mm with w:=fe (rY mm.w) t}:MM)=_;unfold rY;rw[if_pos e]) C6 (by omega) (by omega) (E4.trans (E5.trans E6))
  ·have e:Et (pW mm.w) yy=false:=e
   exact ji C4 (by omega) l4 (Q:=fun _ h=>K (.tuple ⟨[]⟩) h) fun h6 c6 C6 E6=>fin (aN 6 (by decide) hm) kq h6 c6 (by show({mm with w:=fe (rY mm.w) t}:MM)=_;unfold rY;rw[if_neg (by rw[e];decide)]) C6 (by omega) (by omega) (E4.trans E6)
 have q7:=q6.trans j7
 refine EK (fun hm=>aD ?_) fun n8=>aC ?_
 ·exact jY (C1.da q7) (by omega) (l1.kb q7) (Q:=fun _ h=>ae (some a) fun JT=>bc (JT.add 4) [.bool true] 0 h fun yf=>K (.tuple ⟨[]⟩) yf) fun h2 c2 C2 E2=>aa (C2.H9 (mm2:={mm with w:=dM mm.w t,skip:=true}) rfl rfl (by decide) fun h3 C3 E3=>fin (aN 7 (by decide) hm) q7 h3 _ rfl C3 (by omega) (by omega) (E2.trans E3))
 refine bf (fun hm=>aD ?_) fun n9=>aC ?_
 ·refine aa ⟨_,(C1.da q7).V.cell 3 rfl,bf (fun e=>?_) fun e=>?_⟩
  ·have e:mm.fm<0:=e
   exact jY (C1.da q7) (by omega) (l1.kb q7) (Q:=fun i h=>ae (some a) fun a53=>bc (a53.add 3) [.int .i64 i] 0 h fun JU=>K (.tuple ⟨[]⟩) JU) fun h2 c2 C2 E2=>aa (C2.H9 (mm2:={mm with w:=dM mm.w t,fm:=(mm.w.ns.length:Int)}) rfl rfl (by decide) fun h3 C3 E3=>fin (aN 8 (by decide) (by rw[hm];decide)) q7 h3 _ (by show uh mm t=_;unfold uh;rw[if_pos e]) C3 (by omega) (by omega) (E2.trans E3))
  ·have e:¬mm.fm<0:=e
   exact fin (aN 8 (by decide) (by rw[hm];decide)) q7 y7 col (by show uh mm t=_;unfold uh;rw[if_neg e]) (C1.da q7) (by omega) (by omega) (.refl _ _ _)
 refine bf (fun hm=>aD ?_) fun rZ=>aC ?_
 ·exact(l1.kb q7).ld (eM (by decide) fun a3 h3 r3 k3=>JV ((C1.da q7).da k3) (by omega) ((l1.kb q7).kb k3).T r3 fun h4 c4 C4 E4=>fin (aN 9 (by decide) (by rw[hm];decide)) q7 h4 c4 rfl C4 (by omega) (by omega) ((al.kb k3).trans E4))
 refine EK (fun hm=>aD ?_) fun Ar=>aC ?_
 ·exact(l1.kb q7).ld (oL (ws:=Ia) rfl (by decide) (by decide) fun a3 h3 r3 k3=>JV ((C1.da q7).da k3) (by omega) ((l1.kb q7).kb k3).T r3 fun h4 c4 C4 E4=>fin (aN 10 (by decide) hm) q7 h4 c4 rfl C4 (by omega) (by omega) ((al.kb k3).trans E4))
 refine bf (fun hm=>aD ?_) fun ui=>aC ?_
 ·exact jY (C1.da q7) (by omega) (l1.kb q7) (Q:=fun _ h=>ae (some a) fun JT=>bc (JT.add 5) [.int .u8 4] 0 h fun yf=>K (.tuple ⟨[]⟩) yf) fun h2 c2 C2 E2=>aa (C2.H9 (mm2:={mm with w:=dM mm.w t,read:=4}) rfl rfl (by decide) fun h3 C3 E3=>fin (aN 11 (by decide) (by rw[hm];decide)) q7 h3 _ rfl C3 (by omega) (by omega) (E2.trans E3))
 refine bf (fun hm=>aD ?_) fun JW=>aC ?_
 ·exact oM (C1.da q7) 0 [] (s:=[98,117,116,116,111,110]) (by decide) (Q:=fun h=>ae (some a) fun X0=>∃p80,cell h (X0.add 0)=some (.pointer p80)/\(zC 44 [.pointer p80] h fun v81 SZ=>bJ SZ a1 fun t83=>zC 110 [.pointer (some a),.agg ⟨aT t83⟩] SZ fun v84 S0=>aL .i64 v84 fun i86=>K (.tuple ⟨[]⟩) S0)) fun h2 c2 C2 E2=>oN C2 (by omega) hv ((l1.kb q7).ext E2) (Q:=fun _ h=>K (.tuple ⟨[]⟩) h) fun h3 c3 i C3 E3=>fin (aN 12 (by decide) (by rw[hm];decide)) q7 h3 c3 rfl C3 (by omega) (by omega) (E2.trans E3)
 refine bf (fun hm=>?_) fun JD=>?_
 ·exact(l1.kb q7).ld (S1 (C1.da q7) hu hv (l1.kb q7).T hm fun h2 c2 C2 E2=>fin (aN 13 (by decide) (by rw[hm];decide)) q7 h2 c2 rfl C2 (by omega) (by omega) E2)
 ·refine(l1.kb q7).ld (hM (C1.da q7) (l1.kb q7).T (fun k hk=>?_) fun h2 c2 C2 E2=>hk h2 c2 C2 ((al.kb (k1.trans q7)).trans E2))
  match k,hk with
  | 0,_=>exact n1
  | 1,_=>exact n2
  | 2,_=>exact cH n3
  | 3,_=>exact n4
  | 4,_=>exact cH n5
  | 5,_=>exact n6
  | 6,_=>exact n7
  | 7,_=>exact n8
  | 8,_=>exact cH n9
  | 9,_=>exact cH rZ
  | 10,_=>exact Ar
  | 11,_=>exact cH ui
  | 12,_=>exact cH JW
  | 13,_=>exact cH JD
  | k+14,hk=>exact absurd hk (by omega)
theorem OF:Cm.all (fun s=>oq s == 0||(Ck.getD 13 []).elem s||decide (s=[110,111,98,114]))=true:=by decide+kernel
theorem GI (C:CR h col a w mm u v x) (hu:u<=700000) (hv:v<=10000) (T:fc h col t b n c) (dk:∀k,k<14->t.2.1 ∉ Ck.getD k [])
  (hI:t.2.1=[105,109,97,103,101]->∀{h1:H} {c1:bY} (C1:CR h1 c1 a w mm u v x) (T1:fc h1 c1 (mU t) b n c) {K:KV},iW h1 c1 a w K (fV mm (mU t)) (u+2*v+40) (v+1) x->zC 46 [.pointer (some a),.agg ⟨aT (bR (mU t) b n c)⟩] h1 K)
  (hk:iW h col a w K (fV mm t) (u+2*v+40) (v+1) x):zC 118 [.pointer (some a),.agg ⟨aT (bR t b n c)⟩] h K:=by
 refine Xfl.ok _ _ _ _ (T.new C.f fun a1 h1 l1 k1 g1=>⟨_,l1.nm,?_⟩)
 have C1:=C.da k1
 have fin:∀{k:Nat} (ek:oq t.2.1=k) {mm2:MM} {u2 v2:Nat} {hc:H} (kc:KB h1 hc) h2 c2,wa mm t k=mm2->CR h2 c2 a w mm2 u2 v2 x->u2<=u+2*v+40->v2<=v+1->al RX hc col h2 c2->K (.tuple ⟨[]⟩) h2:=fun {k} ek {mm2 u2 v2 hc} kc h2 c2 em C2 h1 u0 E2=>by
  unfold fV at hk
  rw[ek,em] at hk
  exact hk h2 c2 (C2.rX h1 u0) ((al.kb (k1.trans kc)).trans E2)
 refine bf (fun hm=>aD ?_) fun n15=>aC ?_
 ·have ek:oq t.2.1=15:=(aN 14 (by decide) (by rw[hm];decide))
  refine aa ⟨_,(C1.da (KB.refl h1)).V.cell 0 rfl,uj (C1.da (KB.refl h1)) (by omega) hv fun h2 c2 C2 E2=>eM (s:=[110,111,98,114]) (by decide) fun a3 h3 r3 k3=>pI (C2.da k3) r3 0 fun h4 k4=>?_⟩
  have C4:=(C2.da k3).da k4
  have E4:al RX h1 col h4 c2:=E2.trans (.kb (k3.trans k4))
  have l4:=(l1.kb (KB.refl h1)).ext E4
  refine ag (aR (fun e=>?_) fun e=>?_)
  ·have e:kQ (aU mm.w).op 0 [[110,111,98,114]]=true:=e
   exact EM C4 (by omega) hv fun h5 c5 C5 E5=>(l4.ext E5).ld (oO C5 (by omega) hv (l4.ext E5).T fun h6 c6 C6 E6=>fin ek (KB.refl h1) h6 c6 (by show({mm with w:=ic (r8 (aU mm.w) t.2.1) t}:MM)=_;unfold r8;rw[hm,if_pos e]) C6 (by omega) (by omega) (E4.trans (E5.trans E6)))
  ·have e:kQ (aU mm.w).op 0 [[110,111,98,114]]=false:=e
   exact l4.ld (oO C4 (by omega) hv l4.T fun h6 c6 C6 E6=>fin ek (KB.refl h1) h6 c6 (by show({mm with w:=ic (r8 (aU mm.w) t.2.1) t}:MM)=_;unfold r8;rw[hm,if_neg (by rw[e];decide)]) C6 (by omega) (by omega) (E4.trans E6))
 refine jy fun h0 j0=>ag (aR (fun e=>aD ?_) fun nf=>aC ?_)
 ·have hf:t.2.1 ∈ Cm:=of_decide_eq_true e
  have ea:oq t.2.1=0:=by
   have h1:=List.all_eq_true.1 OF _ hf
   rw[Bool.or_eq_true,Bool.or_eq_true] at h1
   rcases h1 with (h1 | h1) | h1
   ·exact eq_of_beq h1
   ·exact absurd (List.elem_iff.1 h1) (dk 13 (by decide))
   ·exact absurd (of_decide_eq_true h1) n15
  exact(l1.kb j0).ld (oO (C1.da j0) (by omega) hv (l1.kb j0).T fun h2 c2 C2 E2=>fin ea j0 h2 c2 (by show lG mm t=_;unfold lG;rw[if_pos e]) C2 (by omega) (by omega) E2)
 refine S3 (fun hm=>aD ?_) fun n16=>aC ?_
 ·exact oN (C1.da j0) (by omega) hv (l1.kb j0) (Q:=fun _ h=>zC 173 [.pointer (some a)] h fun Od u3=>K (.tuple ⟨[]⟩) u3) fun h2 c2 i C2 E2=>JX C2 hv fun h3 c3 C3 E3=>fin (aN 15 (by decide) hm) j0 h3 c3 rfl C3 (by omega) (by omega) (E2.trans E3)
 refine bf (fun hm=>aD ?_) fun n17=>aC ?_
 ·exact jY (C1.da j0) (by omega) (l1.kb j0) (Q:=fun _ h=>ae (some a) fun JT=>bc (JT.add 1) [.int .u8 2] 0 h fun yf=>K (.tuple ⟨[]⟩) yf) fun h2 c2 C2 E2=>aa (C2.H9 (mm2:={mm with w:=dM mm.w t,mode:=2}) rfl rfl (by decide) fun h3 C3 E3=>fin (aN 16 (by decide) (by rw[hm];decide)) j0 h3 _ rfl C3 (by omega) (by omega) (E2.trans E3))
 refine zd (ws:=S4) rfl (by decide) (by decide) (fun hh kk hm=>aD ?_) fun y18 j18 n18=>aC ?_
 ·have kq:=j0.trans kk
  exact aa ⟨_,(C1.da kq).V.cell 0 rfl,uj (C1.da kq) (by omega) hv fun h2 c2 C2 E2=>((l1.kb kq).ext E2).ld (Aq C2 (by omega) ((l1.kb kq).ext E2).T fun h3 c3 C3 E3=>fin (aN 17 (by decide) hm) kq h3 c3 rfl C3 (by omega) (by omega) (E2.trans E3))⟩
 have kR:=j0.trans j18
 refine bf (fun hm=>aD ?_) fun n19=>aC ?_
 ·have ek:oq t.2.1=19:=(aN 18 (by decide) (by rw[hm];decide))
  refine cv (m:=1) (i:=0) (l1.kb kR).V (by show 1+0+1<=5;omega) fun h2 v2 k2 s2=>?_
  have gy:KB h h2:=KB.step (k1.trans kR) k2 g1
  have l2:LT h2 col a1 (mU t) b n c:=⟨v2,l1.O,⟨(T.kb gy).r,T.z,T.k,(by decide:([105,109,103]:Bs).length<=4000),T.s.2⟩⟩
  refine l2.ld (hI hm (C.da gy) l2.T fun h3 c3 C3 E3=>?_)
  unfold fV at hk
  rw[ek] at hk
  exact hk h3 c3 C3 ((al.kb gy).trans E3)
 refine bf (fun hm=>aD ?_) fun n20=>aC ?_
 ·exact lZ (C1.da kR) fun h2 c2 C2 E2=>((l1.kb kR).ext E2).ld (Aq C2 (by omega) ((l1.kb kR).ext E2).T fun h3 c3 C3 E3=>fin (aN 19 (by decide) (by rw[hm];decide)) kR h3 c3 rfl C3 (by omega) (by omega) (E2.trans E3))
 refine bf (fun hm=>aD ?_) fun n21=>aC ?_
 ·exact ji (C1.da kR) (by omega) (l1.kb kR) (Q:=fun _ h=>ae (some a) fun a59=>bc (a59.add 4) [.bool true] 0 h fun Eu=>bJ Eu a1 fun t61=>zC 166 [.pointer (some a),.agg ⟨aT t61⟩,.int .u8 1] Eu fun Xn jZ=>K (.tuple ⟨[]⟩) jZ) fun h2 c2 C2 E2=>aa (C2.H9 (mm2:={mm with w:=fe mm.w t,skip:=true}) rfl rfl (by decide) fun h3 C3 E3=>(((l1.kb kR).ext E2).ext E3).ld (JY C3 (((l1.kb kR).ext E2).ext E3).T 1 fun h4 c4 C4 E4=>fin (aN 20 (by decide) (by rw[hm];decide)) kR h4 c4 rfl C4 (by omega) (by omega) (E2.trans (E3.trans E4))))
 refine bf (fun hm=>aD ?_) fun n22=>aC ?_
 ·exact lZ (C1.da kR) fun h2 c2 C2 E2=>aa ⟨_,C2.V.cell 0 rfl,uj C2 (by omega) hv fun h3 c3 C3 E3=>(((l1.kb kR).ext E2).ext E3).ld (GH C3 (by omega) (((l1.kb kR).ext E2).ext E3).T 2 fun h4 c4 C4 E4=>fin (aN 21 (by decide) (by rw[hm];decide)) kR h4 c4 rfl C4 (by omega) (by omega) (E2.trans (E3.trans E4)))⟩
 refine EK (fun hm=>aD ?_) fun n23=>aC ?_
 ·refine eM (s:=[111,112,116,105,111,110]) (by decide) fun a3 h3 r3 k3=>XZ ((C1.da kR).da k3) (by omega) r3 fun h4 k4=>?_
  have C4:=((C1.da kR).da k3).da k4
  have l4:=((l1.kb kR).kb k3).kb k4
  have E4:al RX y18 col h4 col:=.kb (k3.trans k4)
  refine ag (aR (fun e=>aD ?_) fun e=>aC ?_)
  ·have e:Et mm.w [[111,112,116,105,111,110]]=true:=e
   exact ze C4 (by omega) fun h5 c5 C5 E5=>oN C5 (by omega) hv (l4.ext E5) (Q:=fun _ h=>K (.tuple ⟨[]⟩) h) fun h6 c6 i C6 E6=>fin (aN 22 (by decide) hm) kR h6 c6 (by show({mm with w:=gO (As mm.w) t}:MM)=_;unfold As;rw[if_pos e]) C6 (by omega) (by omega) (E4.trans (E5.trans E6))
  ·have e:Et mm.w [[111,112,116,105,111,110]]=false:=e
   exact oN C4 (by omega) hv l4 (Q:=fun _ h=>K (.tuple ⟨[]⟩) h) fun h6 c6 i C6 E6=>fin (aN 22 (by decide) hm) kR h6 c6 (by show({mm with w:=gO (As mm.w) t}:MM)=_;unfold As;rw[if_neg (by rw[e];decide)]) C6 (by omega) (by omega) (E4.trans E6)
 refine adG (fun hm=>aD ?_) fun n24=>aC ?_
 ·have ek:oq t.2.1=24:=(aN 23 (by decide) hm)
  refine eM (s:=[114,117,98,121]) (by decide) fun a3 h3 r3 k3=>pI ((C1.da kR).da k3) r3 0 fun h4 k4=>?_
  have C4:=((C1.da kR).da k3).da k4
  have l4:=((l1.kb kR).kb k3).kb k4
  have E4:al RX y18 col h4 col:=.kb (k3.trans k4)
  refine ag (aR (fun e=>?_) fun e=>?_)
  ·have e:kQ mm.w.op 0 Cn=true:=e
   refine bf (fun e1=>aD ?_) fun e1=>bf (fun e2=>aD ?_) fun e2=>aD ?_
   ·have ex:JZ t.2.1=[114,116,99]:=by unfold JZ;rw[if_pos (.inl e1)]
    exact jP C4 [114,116,99] fun h5 c5 C5 E5=>ji C5 (by omega) (l4.ext E5) (Q:=fun _ h=>K (.tuple ⟨[]⟩) h) fun h6 c6 C6 E6=>fin (aN 23 (by decide) hm) kR h6 c6 (by show({mm with w:=fe (iX mm.w t.2.1) t}:MM)=_;unfold iX;rw[if_pos e,ex]) C6 (by omega) (by omega) (E4.trans (E5.trans E6))
   ·have ex:JZ t.2.1=[114,116,99]:=by unfold JZ;rw[if_pos (.inr e2)]
    exact jP C4 [114,116,99] fun h5 c5 C5 E5=>ji C5 (by omega) (l4.ext E5) (Q:=fun _ h=>K (.tuple ⟨[]⟩) h) fun h6 c6 C6 E6=>fin (aN 23 (by decide) hm) kR h6 c6 (by show({mm with w:=fe (iX mm.w t.2.1) t}:MM)=_;unfold iX;rw[if_pos e,ex]) C6 (by omega) (by omega) (E4.trans (E5.trans E6))
   ·have ex:JZ t.2.1=[]:=by unfold JZ;rw[if_neg (fun h=>h.elim e1 e2)]
    exact jP C4 [] fun h5 c5 C5 E5=>ji C5 (by omega) (l4.ext E5) (Q:=fun _ h=>K (.tuple ⟨[]⟩) h) fun h6 c6 C6 E6=>fin (aN 23 (by decide) hm) kR h6 c6 (by show({mm with w:=fe (iX mm.w t.2.1) t}:MM)=_;unfold iX;rw[if_pos e,ex]) C6 (by omega) (by omega) (E4.trans (E5.trans E6))
  ·have e:kQ mm.w.op 0 Cn=false:=e
   refine bf (fun e1=>aC ?_) fun e1=>bf (fun e2=>aC ?_) fun e2=>aC ?_
   ·exact ji C4 (by omega) l4 (Q:=fun _ h=>K (.tuple ⟨[]⟩) h) fun h6 c6 C6 E6=>fin (aN 23 (by decide) hm) kR h6 c6 (by show({mm with w:=fe (iX mm.w t.2.1) t}:MM)=_;unfold iX;rw[if_neg (by rw[e];decide)]) C6 (by omega) (by omega) (E4.trans E6)
   ·exact ji C4 (by omega) l4 (Q:=fun _ h=>K (.tuple ⟨[]⟩) h) fun h6 c6 C6 E6=>fin (aN 23 (by decide) hm) kR h6 c6 (by show({mm with w:=fe (iX mm.w t.2.1) t}:MM)=_;unfold iX;rw[if_neg (by rw[e];decide)]) C6 (by omega) (by omega) (E4.trans E6)
   ·exact ji C4 (by omega) l4 (Q:=fun _ h=>K (.tuple ⟨[]⟩) h) fun h6 c6 C6 E6=>fin (aN 23 (by decide) hm) kR h6 c6 (by show({mm with w:=fe (iX mm.w t.2.1) t}:MM)=_;unfold iX;rw[if_neg (by rw[e];decide)]) C6 (by omega) (by omega) (E4.trans E6)
 refine EK (fun hm=>aD ?_) fun n25=>aC ?_
 ·have ek:oq t.2.1=25:=(aN 24 (by decide) hm)
  refine bf (fun e1=>?_) fun e1=>?_
  ·have hsp:mV t.2.1=1:=by unfold mV;rw[if_pos e1]
   refine aa ⟨_,(C1.da kR).V.cell 0 rfl,uj (C1.da kR) (by omega) hv fun h2 c2 C2 E2=>aa ⟨_,C2.V.cell 0 rfl,((l1.kb kR).ext E2).ld (tE C2 (by omega) ((l1.kb kR).ext E2).T (sp:=1) ⟨by decide,by decide⟩ fun h3 c3 C3 E3=>aO ⟨_,(((l1.kb kR).ext E2).ext E3).V.cell 3 rfl,aR (fun ez=>?_) fun ez=>?_⟩)⟩⟩
   ·have ez:t.2.2.2.1=true:=ez
    exact ze C3 (by omega) fun h4 c4 C4 E4=>fin (aN 24 (by decide) hm) kR h4 c4 (by show({mm with w:=iJ mm.w t}:MM)=_;unfold iJ;simp only[];rw[if_pos ez,hsp]) C4 (by omega) (by omega) (E2.trans (E3.trans E4))
   ·have ez:t.2.2.2.1=false:=ez
    exact fin (aN 24 (by decide) hm) kR h3 c3 (by show({mm with w:=iJ mm.w t}:MM)=_;unfold iJ;simp only[];rw[if_neg (by rw[ez];decide),hsp]) C3 (by omega) (by omega) (E2.trans E3)
  ·have hsp:mV t.2.1=2:=by unfold mV;rw[if_neg e1]
   refine aa ⟨_,(C1.da kR).V.cell 0 rfl,uj (C1.da kR) (by omega) hv fun h2 c2 C2 E2=>aa ⟨_,C2.V.cell 0 rfl,((l1.kb kR).ext E2).ld (tE C2 (by omega) ((l1.kb kR).ext E2).T (sp:=2) ⟨by decide,by decide⟩ fun h3 c3 C3 E3=>aO ⟨_,(((l1.kb kR).ext E2).ext E3).V.cell 3 rfl,aR (fun ez=>?_) fun ez=>?_⟩)⟩⟩
   ·have ez:t.2.2.2.1=true:=ez
    exact ze C3 (by omega) fun h4 c4 C4 E4=>fin (aN 24 (by decide) hm) kR h4 c4 (by show({mm with w:=iJ mm.w t}:MM)=_;unfold iJ;simp only[];rw[if_pos ez,hsp]) C4 (by omega) (by omega) (E2.trans (E3.trans E4))
   ·have ez:t.2.2.2.1=false:=ez
    exact fin (aN 24 (by decide) hm) kR h3 c3 (by show({mm with w:=iJ mm.w t}:MM)=_;unfold iJ;simp only[];rw[if_neg (by rw[ez];decide),hsp]) C3 (by omega) (by omega) (E2.trans E3)
 have ea:oq t.2.1=0:=GJ (dk 0 (by decide)) (dk 1 (by decide)) (dk 2 (by decide)) (dk 3 (by decide)) (dk 4 (by decide)) (dk 5 (by decide)) (dk 6 (by decide)) (dk 7 (by decide)) (dk 8 (by decide)) (dk 9 (by decide)) (dk 10 (by decide)) (dk 11 (by decide)) (dk 12 (by decide)) (dk 13 (by decide)) (cH n15) n16 (cH n17) n18 (cH n19) (cH n20) (cH n21) (cH n22) n23 n24 n25
 exact oN (C1.da kR) (by omega) hv (l1.kb kR) (Q:=fun _ h=>K (.tuple ⟨[]⟩) h) fun h2 c2 i C2 E2=>fin ea kR h2 c2 (by show lG mm t=_;unfold lG;rw[if_neg (by rw[show dS t.2.1=false from nf];decide)]) C2 (by omega) (by omega) E2
theorem OG (bL:t.2.1≠ [105,109,97,103,101]) (C:CR h col a w mm u v x) (hu:u<=700000) (hv:v<=10000) (T:fc h col t b n c) (dk:∀k,k<14->t.2.1 ∉ Ck.getD k []) (hk:iW h col a w K (fV mm t) (u+2*v+40) (v+1) x):zC 118 [.pointer (some a),.agg ⟨aT (bR t b n c)⟩] h K:=
 GI C hu hv T dk (fun e=>absurd e bL) hk
theorem J0 (bL:t.2.1≠ [105,109,97,103,101]) (C:CR h col a w mm u v x) (hu:u<=700000) (hv:v<=10000) (T:fc h col t b n c) (hk:iW h col a w K (fV mm t) (u+2*v+40) (v+1) x):zC 46 [.pointer (some a),.agg ⟨aT (bR t b n c)⟩] h K:=
 Cj C hu hv T (fun C1 T1 _ dk BZ=>OG bL C1 hu hv T1 dk BZ) hk
theorem GK (C:CR h col a w mm u v x) (hu:u<=700000) (hv:v<=10000) (T:fc h col t b n c) (hk:iW h col a w K (fV mm t) (u+2*v+40) (v+1) x):zC 46 [.pointer (some a),.agg ⟨aT (bR t b n c)⟩] h K:=
 Cj C hu hv T (fun C1 T1 _ dk BZ=>GI C1 hu hv T1 dk (fun _ _ _ C2 T2 _ yg=>J0 (t:=mU t) (by show([105,109,103]:Bs)≠_;decide) C2 hu hv T2 yg) BZ) hk
theorem OH:Cm.all (fun s=>ma s == 0)=true:=by decide+kernel
theorem X1 (C:CR h col a w mm u v x) (hu:u<=700000) (hv:v<=10000) (T:fc h col t b n c) (hk:iW h col a w K (Ib mm t.2.1) (u+2*v+40) (v+1) x):zC 47 [.pointer (some a),.agg ⟨aT (bR t b n c)⟩] h K:=by
 refine Xff.ok _ _ _ _ (T.new C.f fun a1 h1 l1 k1 g1=>⟨_,l1.nm,?_⟩)
 have C1:=C.da k1
 have fin:∀{k:Nat} (ek:ma t.2.1=k) {w2:WM} {f2:Int} {u2 v2:Nat} {hc:H} (kc:KB h1 hc) h2 c2,EN mm.w t.2.1 mm.fm k=w2->(if k=3 then -1 else mm.fm)=f2->CR h2 c2 a w {mm with w:=w2,fm:=f2} u2 v2 x->u2<=u+2*v+40->v2<=v+1->al RX hc col h2 c2->K (.tuple ⟨[]⟩) h2:=fun {k} ek {w2 f2 u2 v2 hc} kc h2 c2 em ef C2 h1 u0 E2=>by
  unfold Ib at hk
  rw[ek,em,ef] at hk
  exact hk h2 c2 (C2.rX h1 u0) ((al.kb (k1.trans kc)).trans E2)
 refine EK (fun hm=>aD ?_) fun n1=>aC ?_
 ·exact fin (bN 0 (by decide) hm) (KB.refl h1) h1 col rfl (if_neg (by decide)) (C1.da (KB.refl h1)) (by omega) (by omega) (.refl _ _ _)
 refine zd (ws:=wE2) rfl (by decide) (by decide) (fun hh kk hm=>aD ?_) fun y2 j2 n2=>aC ?_
 ·have kq:=(KB.refl h1).trans kk
  exact oM (C1.da kq) 0 [] T.s.1 (Q:=fun h=>K (.tuple ⟨[]⟩) h) fun h2 c2 C2 E2=>fin (bN 1 (by decide) hm) kq h2 c2 rfl (if_neg (by decide)) C2 (by omega) (by omega) E2
 have q2:=(KB.refl h1).trans j2
 refine bf (fun hm=>aD ?_) fun n3=>aC ?_
 ·have ek:ma t.2.1=3:=(bN 2 (by decide) (by rw[hm];decide))
  refine aa ⟨_,(C1.da q2).V.cell 3 rfl,aa ((C1.da q2).H9 (mm2:={mm with fm:= -1}) rfl rfl (by decide) fun h2 C2 E2=>?_)⟩
  refine bf (fun e=>J1 C2 (by omega) fun h3 k3=>ag (aR (fun e2=>aD ?_) fun e2=>aC ?_)) fun e=>aC ?_
  ·have e:0<=mm.fm:=e
   have e2:qE mm.w mm.fm=true:=e2
   refine jP (C2.da k3) [] fun h4 c4 C4 E4=>aa ⟨_,C4.V.cell 0 rfl,?_⟩
   have jQ:=C4.s.A.D.lo
   exact iU C4.p (by omega) C4.s.A.D.nd fun h5 c5 p5 E5=>fin (bN 2 (by decide) (by rw[hm];decide)) q2 h5 c5 (by show gF mm.w mm.fm=_;unfold gF;rw[if_pos ⟨e,e2⟩]) (if_pos rfl) (C4.ra p5 E5.ra (C4.s.drop _)) (by omega) (by omega) (E2.trans ((al.kb k3).trans (E4.trans E5.ra.rx)))
  ·have e2:qE mm.w mm.fm=false:=e2
   exact fin (bN 2 (by decide) (by rw[hm];decide)) q2 h3 _ (by show gF mm.w mm.fm=_;unfold gF;rw[if_neg (by rw[e2];exact fun h=>by cases h.2)]) (if_pos rfl) (C2.da k3) (by omega) (by omega) (E2.trans (.kb k3))
  ·have e:¬0<=mm.fm:=e
   exact fin (bN 2 (by decide) (by rw[hm];decide)) q2 h2 _ (by show gF mm.w mm.fm=_;unfold gF;rw[if_neg (fun h=>e h.1)]) (if_pos rfl) C2 (by omega) (by omega) E2
 refine bf (fun hm=>aD ?_) fun n4=>aC ?_
 ·have ek:ma t.2.1=4:=(bN 3 (by decide) (by rw[hm];decide))
  refine eM (s:=[112]) (by decide) fun a3 h3 r3 k3=>pI ((C1.da q2).da k3) r3 2 fun h4 k4=>?_
  have C4:=((C1.da q2).da k3).da k4
  have E4:al RX y2 col h4 col:=.kb (k3.trans k4)
  refine ag (aR (fun e=>?_) fun e=>?_)
  ·have e:kQ mm.w.op 2 wP=true:=e
   exact lZ C4 fun h5 c5 C5 E5=>fin (bN 3 (by decide) (by rw[hm];decide)) q2 h5 c5 (by show uk mm.w=_;unfold uk;rw[if_pos e]) (if_neg (by decide)) C5 (by omega) (by omega) (E4.trans E5)
  ·have e:kQ mm.w.op 2 wP=false:=e
   have T4:=fc.nil h4 col zf (nm:=[112]) (by decide)
   exact sd (t:=se 0 [112]) (b:=none) (n:=0) (c:=0) C4 (by omega) T4 fun h5 c5 C5 E5=>aO (lZ C5 fun h6 c6 C6 E6=>fin (bN 3 (by decide) (by rw[hm];decide)) q2 h6 c6 (by show uk mm.w=_;unfold uk;rw[if_neg (by rw[e];decide)];rfl) (if_neg (by decide)) C6 (by omega) (by omega) (E4.trans (E5.trans E6)))
 refine bf (fun hm=>aD ?_) fun n5=>aC ?_
 ·exact oM (C1.da q2) 1 [108,105] (s:=[108,105]) (by decide) (Q:=fun h=>K (.tuple ⟨[]⟩) h) fun h2 c2 C2 E2=>fin (bN 4 (by decide) (by rw[hm];decide)) q2 h2 c2 (by show dF mm.w (if t.2.1=[108,105] then 1 else 0) t.2.1 [t.2.1]=_;rw[if_pos hm,hm]) (if_neg (by decide)) C2 (by omega) (by omega) E2
 refine EK (fun hm=>aD ?_) fun n5b=>aC ?_
 ·have hm5:t.2.1 ∈ J2.getD 4 []:=List.mem_cons_of_mem _ hm
  exact oM (C1.da q2) 0 t.2.1 T.s.1 (Q:=fun h=>K (.tuple ⟨[]⟩) h) fun h2 c2 C2 E2=>fin (bN 4 (by decide) hm5) q2 h2 c2 (by show dF mm.w (if t.2.1=[108,105] then 1 else 0) t.2.1 [t.2.1]=_;rw[if_neg n5]) (if_neg (by decide)) C2 (by omega) (by omega) E2
 refine Cl (fun hh kk hm=>aD ?_) fun y6 j6 n6=>aC ?_
 ·have kq:=q2.trans kk
  have ek:ma t.2.1=6:=(bN 5 (by decide) hm)
  refine vG fun a3 h3 r3 k3=>aH (pI ((C1.da kq).da k3) r3 0 fun h4 k4=>?_)
  have C4:=((C1.da kq).da k3).da k4
  have E4:al RX hh col h4 col:=.kb (k3.trans k4)
  refine ag (aR (fun e=>?_) fun e=>?_)
  ·have e:kQ mm.w.op 0 yy=true:=e
   exact jP C4 [] fun h5 c5 C5 E5=>vG fun a6 h6 r6 k6=>aH (X2 (C5.da k6) r6 fun h7 c7 C7 E7=>fin (bN 5 (by decide) hm) kq h7 c7 (by show dF mm.w 0 [] yy=_;unfold dF;rw[if_pos e];rfl) (if_neg (by decide)) C7 (by omega) (by omega) (E4.trans (E5.trans ((al.kb k6).trans E7))))
  ·have e:kQ mm.w.op 0 yy=false:=e
   exact fin (bN 5 (by decide) hm) kq h4 col (by show dF mm.w 0 [] yy=_;unfold dF;rw[if_neg (by rw[e];decide)]) (if_neg (by decide)) C4 (by omega) (by omega) E4
 have q6:=q2.trans j6
 refine jy fun h0 j0=>ag (aR (fun e=>aD ?_) fun nf=>aC ?_)
 ·have ea:ma t.2.1=0:=eq_of_beq (List.all_eq_true.1 OH _ (of_decide_eq_true e))
  exact EM (C1.da (q6.trans j0)) (by omega) hv fun h2 c2 C2 E2=>fin ea (q6.trans j0) h2 c2 (by show(if dS t.2.1=true then bW mm.w t.2.1 else fk mm.w t.2.1)=_;rw[if_pos e]) (if_neg (by decide)) C2 (by omega) (by omega) E2
 have q0:=q6.trans j0
 refine S3 (fun hm=>aD ?_) fun n7=>aC ?_
 ·have ek:ma t.2.1=7:=(bN 6 (by decide) hm)
  refine eM T.s.1 fun a3 h3 r3 k3=>pI ((C1.da q0).da k3) r3 0 fun h4 k4=>?_
  have C4:=((C1.da q0).da k3).da k4
  have E4:al RX h0 col h4 col:=.kb (k3.trans k4)
  refine ag (aR (fun e=>aD ?_) fun e=>aC ?_)
  ·have e:kQ mm.w.op 0 [t.2.1]=true:=e
   refine EO C4 [] T.s.1 fun h5 c5 C5 E5=>?_
   obtain⟨tr,T5,W5⟩:=C5.p.ex
   obtain⟨ob,oc,mb,mn,mc,vw,o,om⟩:=W5.ex
   have jR:=C5.s.A.D.ml
   have hl:=om.len
   obtain⟨xs,he,Ev,_⟩:=om.parts
   refine aa ⟨_,C5.V.cell 0 rfl,aa ⟨_,C5.V.cell 0 rfl,aa ⟨_,_,_,vw.cell 2 rfl,wb (fun k hk=>hk.2) om.row he Ev (by omega) fun b6 n6 c6 h6 o6 k6=>aH ⟨k6.ext,aa (dY W5 C5.f k6 o6 fun h7 W7 E7 f7 _=>?_)⟩⟩⟩⟩
   have E7a:al RA h5 c5 h7 _:=E7.mono fun s hs=>.inl (.inr hs)
   have p7:RW h7 (cz c5 h5 b6 (3,2)) w {wc mm.w [] [t.2.1] with aE:=lH mm.w.aE}:=⟨tr,T5.cf (Z:=fun k=>k=3) (by decide) E7 f7,W7⟩
   exact fin (bN 6 (by decide) hm) q0 h7 _ (by show lh mm.w t.2.1=_;unfold lh;rw[if_pos e]) (if_neg (by decide)) (C5.ra p7 E7a C5.s.clear) (by omega) (by omega) (E4.trans (E5.trans E7a.rx))
  ·have e:kQ mm.w.op 0 [t.2.1]=false:=e
   exact fin (bN 6 (by decide) hm) q0 h4 col (by show lh mm.w t.2.1=_;unfold lh;rw[if_neg (by rw[e];decide)]) (if_neg (by decide)) C4 (by omega) (by omega) E4
 have na:t.2.1≠ [98,114]->ma t.2.1=0:=fun n8=>GL n1 n2 (cH n3) (cH n4) (fun hm=>(List.mem_cons.1 hm).elim n5 n5b) n6 n7 (cH n8)
 refine bf (fun hm=>?_) fun n8=>?_
 ·have ek:ma t.2.1=8:=bN 7 (by decide) (by rw[hm];decide)
  have T1:=fc.nil h0 col zf (nm:=[98,114]) (by decide)
  have es:fV mm (se 0 [98,114])={mm with w:=jk (aU mm.w) (se 0 [98,114])}:=by unfold fV;rw[show oq (se 0 [98,114]).2.1=18 from aN 17 (by decide) (by decide)];rfl
  refine GK (t:=se 0 [98,114]) (b:=none) (n:=0) (c:=0) (C1.da q0) hu hv T1 fun h2 c2 C2 E2=>?_
  rw[es] at C2
  exact fin ek q0 h2 c2 rfl (if_neg (by decide)) C2 (by omega) (by omega) E2
 ·have jQ:=C1.s.A.D.lo
  exact aa ⟨_,(C1.da q0).V.cell 0 rfl,me (C1.da q0).p (by omega) fun h3 c3 p3 E3=>fin (na n8) q0 h3 c3 (by show(if dS t.2.1=true then bW mm.w t.2.1 else fk mm.w t.2.1)=_;rw[if_neg (by rw[show dS t.2.1=false from nf];decide)]) (if_neg (by decide)) ((C1.da q0).ra p3 E3.ra ((C1.da q0).s.close _)) (by omega) (by omega) E3.ra.rx⟩
end
section
variable {B:Nat->Prop} {h:H} {K:KV} {col:bY} {a w:Addr} {mm:MM} {u v x:Nat} {t:cm} {b:OA} {n c:Nat} {ns:List Bs} {s:Bs} {l:List cm}
theorem GM (C:CR h col a w mm u v x) (hu:u<=890000) (hx:x<=100000000) (hs:s.length<=4000) (hk:iW h col a w K {mm with w:=fW mm.w s} (u+1) v (x+4000)):zC 38 [.pointer (some w),S s] h K:=by
 have jQ:=C.s.A.D.lo
 have qF:=C.s.A.D.ln
 exact we C.p C.s.A.D.G C.s.A.D.ne (by omega) (by omega) (C.mQ hx hs) (by simp only[maxLen];omega) fun h2 c2 p2 E2=>hk h2 c2 (C.ra p2 E2.ra (C.s.write hs)) E2.ra.rx
theorem S5 (C:CR h col a w mm u v x) (hu:u<=700000) (hv:v<=10000) (hx:x<=100000000) (T:fc h col t b n c) (hk:iW h col a w K (sf mm t) (u+2*v+40) (v+1) (x+4000)):zC 22 [.pointer (some a),.agg ⟨aT (bR t b n c)⟩] h K:=by
 unfold sf at hk
 refine Xe2.ok _ _ _ _ (T.new C.f fun a1 h1 l1 k1 _=>⟨_,l1.V.cell 0 rfl,?_⟩)
 have C1:=C.da k1
 refine bf (fun e=>aD ?_) fun e=>aC (bf (fun e2=>aD ?_) fun e2=>aC (bf (fun e3=>?_) fun e3=>bf (fun e4=>?_) fun e4=>?_))
 ·have e:t.1=1:=e
  rw[if_pos e] at hk
  exact aa ⟨_,C1.V.cell 0 rfl,uj C1 (by omega) hv fun h2 c2 C2 E2=>aa ⟨_,C2.V.cell 0 rfl,_,(l1.ext E2).V.cell 4 rfl,GM C2 (by omega) hx T.s.2.2.2 fun h3 c3 C3 E3=>hk h3 c3 (C3.rX (by omega) (by omega)) ((al.kb k1).trans (E2.trans E3))⟩⟩
 ·have e:¬t.1=1:=e
  have e2:t.1=4:=e2
  rw[if_neg e,if_pos e2] at hk
  have jQ:=C1.s.A.D.lo
  have qF:=C1.s.A.D.ln
  have ht:=T.s.2.2.2
  exact aa ⟨_,C1.V.cell 0 rfl,_,l1.V.cell 4 rfl,yz C1.p C1.s.A.D.G C1.s.A.D.ne (by omega) (by omega) (by show t.2.2.2.2.length<=_;simp only[maxLen];omega) fun h2 c2 p2 E2=>hk h2 c2 ((C1.ra p2 E2.ra (C1.s.note ht)).rX (by omega) (by omega)) ((al.kb k1).trans E2.ra.rx)⟩
 ·have e:¬t.1=1:=e
  have e2:¬t.1=4:=e2
  have e3:t.1=2:=e3
  rw[if_neg e,if_neg e2,if_pos e3] at hk
  exact l1.ld (GK C1 hu hv l1.T fun h2 c2 C2 E2=>hk h2 c2 (C2.nT (Nat.le_refl _) (Nat.le_refl _) (by omega)) ((al.kb k1).trans E2))
 ·have e:¬t.1=1:=e
  have e2:¬t.1=4:=e2
  have e3:¬t.1=2:=e3
  have e4:t.1=3:=e4
  rw[if_neg e,if_neg e2,if_neg e3,if_pos e4] at hk
  exact l1.ld (X1 C1 hu hv l1.T fun h2 c2 C2 E2=>hk h2 c2 (C2.nT (Nat.le_refl _) (Nat.le_refl _) (by omega)) ((al.kb k1).trans E2))
 ·have e:¬t.1=1:=e
  have e2:¬t.1=4:=e2
  have e3:¬t.1=2:=e3
  have e4:¬t.1=3:=e4
  rw[if_neg e,if_neg e2,if_neg e3,if_neg e4] at hk
  exact hk h1 col (C1.nT (by omega) (by omega) (by omega)) (.kb k1)
theorem OI (C:CR h col a w mm u v x) (hu:u<=800000) (hx:x<=100000000) (T:fc h col t b n c) (hk:iW h col a w K (sg mm t) (u+1) v (x+4000)):zC 20 [.pointer (some a),.agg ⟨aT (bR t b n c)⟩] h K:=by
 unfold sg at hk
 refine Xfa.ok _ _ _ _ (T.new C.f fun a1 h1 l1 k1 _=>⟨_,l1.V.cell 0 rfl,?_⟩)
 have C1:=C.da k1
 refine bf (fun e=>?_) fun e=>?_
 ·have e:t.1=1:=e
  rw[if_pos e] at hk
  exact aa ⟨_,C1.V.cell 0 rfl,_,l1.V.cell 4 rfl,GM C1 (by omega) hx T.s.2.2.2 fun h3 c3 C3 E3=>hk h3 c3 C3 ((al.kb k1).trans E3)⟩
 ·have e:¬t.1=1:=e
  rw[if_neg e] at hk
  exact ze C1 (by omega) fun h2 c2 C2 E2=>aa ⟨_,C2.V.cell 2 rfl,aa (C2.H9 (mm2:={mm with w:=sh mm.w,mode:=mm.back}) rfl rfl (by decide) fun h3 C3 E3=>aa (C3.H9 (mm2:={mm with w:=sh mm.w,mode:=mm.back,read:=0}) rfl rfl (by decide) fun h4 C4 E4=>aa (C4.H9 (mm2:={mm with w:=sh mm.w,mode:=mm.back,read:=0,nm:=[]}) rfl rfl (by decide) fun h5 C5 E5=>hk h5 _ (C5.nT (by omega) (Nat.le_refl _) (by omega)) ((al.kb k1).trans (E2.trans (E3.trans (E4.trans E5)))))))⟩
theorem X3 {h:H} {col:bY} {K:KV} (f:bh h col) (L:kS h col) (hk:∀a w h' c',CR h' c' a w J3 1 0 0->al RX h col h' c'->K (.pointer (some a)) h'):zC 15 [] h K:=by
 refine Xfq.ok _ _ (Au f fun w h1 c1 p1 E1=>cL (af fun a2 h2 v2 k2 e2 s2=>?_))
 have ib:h1.size<=a2.block:=by omega
 have E2:al RX h1 c1 h2 (cr c1 a2.block (7,0)):=⟨k2.less fun k hk=>hk.1,fun k hk=>dG (by omega)⟩
 have f2:bh h2 (cr c1 a2.block (7,0)):=(p1.fresh.kb k2).cr v2.lt
 have p2:RW h2 (cr c1 a2.block (7,0)) w EP:=p1.ext (Z:=fun _=>False) ⟨k2.less fun k hk=>hk.1,fun k hk=>dG (by omega)⟩ id id f2
 exact hk a2 w h2 _ ⟨v2,fX,p2,f2,L.ext (E1.ra.rx.trans E2),⟨AI.zero,MW.zero⟩⟩ (E1.ra.rx.trans E2)
theorem Ic (C:CR h col a w mm u v x) (T:fc h col t b n c) (hk:∀h' c',CR h' c' a w (zg mm) u v x->al RX h col h' c'->K (.tuple ⟨[.agg ⟨aT (bR (wg mm t) b n c)⟩,.bool (GN mm t)]⟩) h'):
  zC 17 [.pointer (some a),.agg ⟨aT (bR t b n c)⟩] h K:=by
 refine X4.ok _ _ _ _ (T.new C.f fun a1 h1 l1 k1 g1=>af fun a2 h2 v2 k2 e2 s2=>?_)
 have C2:=(C.da k1).da k2
 have z1:=k1.1
 have RF:=l1.V.lt
 have bL:a1.block≠a2.block:=by omega
 have E2:al (fun s=>s=7) h col h2 col:=.kb (k1.trans k2)
 have ca1:col a1.block=none:=l1.O
 have ca2:col a2.block=none:=C.f _ (by omega)
 have hW:∀h',al (fun s=>s=7) h col h' col->bh h' col->RW h' col w mm.w:=fun h' E f=>C.p.ext E (by decide) (by decide) f
 obtain⟨KR,RG⟩:∃KR:X4.T0,KR=fun y4 y5 h=>bJ h y4 fun t28=>K (.tuple ⟨[.agg ⟨aT t28⟩,.bool y5]⟩) h:=⟨_,rfl⟩
 have main:∀sk:Bool,mm.skip=sk->∀h3,CR h3 col a w (zg mm) u v x->al (fun s=>s=7) h2 col h3 col->X4.n4 a1 a2 sk KR KR h3:=fun sk hsk h3 C3 E3=>by
  have w1:Var h3 a1 45 (aT (bR t b n c)):=(l1.V.kb k2).keep E3.eR ⟨ca1,(l1.V.kb k2).lt⟩
  have w2:=v2.keep E3.eR ⟨ca2,v2.lt⟩
  have mT:=E2.trans E3
  have fin:∀h5 (t':cm) (lf:Bool),S6 a1.block a2.block h3 h5->wg mm t=t'->GN mm t=lf->Var h5 a2 45 (aT (bR t' b n c))->KR a2 lf h5:=fun h5 t' lf k5 et el v5=>by
   subst et;subst el
   obtain⟨C5,E5⟩:=CG.two (mm:=zg mm) (mmo:=mm) C hW C3 mT k5 g1 (by omega)
   rw[RG]
   exact wh v5 (hk h5 col C5 (E5.mono fun s hs=>.inr hs))
  have no:RH mm t=false->X4.n5 a1 a2 KR KR h3:=fun e=>wh w1 (aQ w2 (by show 5<=5;omega) fun h5 v5 k5 s5=>fin h5 t true ⟨k5.less fun k hk=>hk.2,s5⟩ (by unfold wg;rw[if_neg (by rw[e];decide)]) (by unfold GN;rw[if_neg (by rw[e];decide)]) v5)
  have eB:RH mm t=(sk&&(decide (t.1=1)&&decide (t.2.2.2.2.head? =some 10))):=by rw[<-hsk];rfl
  refine aR (fun es=>⟨_,w1.cell 0 rfl,bf (fun e1=>⟨_,w1.cell 4 rfl,bf (fun e2=>aC (no ?_)) fun e2=>⟨_,w1.cell 4 rfl,⟨by omega,?_⟩,bf (fun e3=>aD ?_) fun e3=>aC (no ?_)⟩⟩) fun e1=>aC (no ?_)⟩) fun es=>aC (no ?_)
  ·have e2:t.2.2.2.2=[]:=e2
   rw[eB,e2];simp
  ·have e2:¬t.2.2.2.2=[]:=e2
   show(0:Int)<(t.2.2.2.2.length:Int)
   have:=List.length_pos_iff.2 e2
   omega
  ·have e1:t.1=1:=e1
   have e2:¬t.2.2.2.2=[]:=e2
   have hh:t.2.2.2.2.head? =some 10:=by
    cases hq:t.2.2.2.2 with
    | nil=>exact absurd hq e2
    | cons z l=>
     have e3:((List.getD t.2.2.2.2 (Int.toNat (0:Int)) 0).toNat:Int)=10:=e3
     rw[hq] at e3
     have e4:(z.toNat:Int)=10:=e3
     have:z=10:=UInt8.toNat_inj.1 (by show z.toNat=10;omega)
     rw[this];rfl
   have e:RH mm t=true:=by rw[eB,es,decide_eq_true e1,decide_eq_true hh];rfl
   exact GO w1 w2 rfl bL hh fun h5 v5 k5=>fin h5 (jE t) _ k5 (by unfold wg;rw[if_pos e]) (by unfold GN;rw[if_pos e]) v5
  ·have e2:¬t.2.2.2.2=[]:=e2
   have hh:¬t.2.2.2.2.head? =some 10:=fun hh=>by
    cases hq:t.2.2.2.2 with
    | nil=>exact e2 hq
    | cons z l=>
     rw[hq] at hh
     have hz:z=10:=Option.some.inj hh
     have e3:¬((List.getD t.2.2.2.2 (Int.toNat (0:Int)) 0).toNat:Int)=10:=e3
     rw[hq,hz] at e3
     exact e3 rfl
   rw[eB,decide_eq_false hh,Bool.and_false,Bool.and_false]
  ·have e1:¬t.1=1:=e1
   rw[eB,decide_eq_false e1,Bool.false_and,Bool.and_false]
  ·rw[eB,es,Bool.false_and]
 refine aa ⟨_,C2.V.cell 4 rfl,aR (fun e=>?_) fun e=>?_⟩
 all_goals
  refine aa (C2.st (mm2:=zg mm) (fun h' E f=>C2.p.ext E (by decide) (by decide) f) rfl rfl (by decide) fun h3 C3 E3=>?_)
  have:=main _ e h3 C3 E3
  rw[RG] at this
  exact this
theorem S7 (C:CR h col a w mm u v x) (D:Nat) (hD:Deep D mm.w.ns 0) (hk:∀h' b n c,KB h h'->fK (dZ D) h' h.size 70 b n c (cY D mm.w.ns 0)->K (.slice b n c) h'):zC 26 [.pointer (some a)] h K:=by
 obtain⟨tr,T2,W2⟩:=C.p.ex
 obtain⟨ob,oc,mb,mn,mc,vw,o,om⟩:=W2.ex
 exact Xfb.ok _ _ _ (aa ⟨_,C.V.cell 0 rfl,aa ⟨_,vw.cell 0 rfl,OJ C.s.A.D.G C.s.A.D.B D 0 T2 hD fun h3 b3 n3 c3 k3 o3=>aH (hk h3 b3 n3 c3 k3 o3)⟩⟩)
end
def Co (t:cm):Bool:=decide (t.2.2.1=[])&&(decide (t.2.1.length<=100)&&(decide (t.2.2.2.2.length<=100)&&(decide (0<=t.1)&&decide (t.1<=9))))
theorem zh {t:cm} (h:Co t=true):t.2.2.1=[]/\t.2.1.length<=100/\t.2.2.2.2.length<=100/\0<=t.1/\t.1<=9:=by
 unfold Co at h
 simp only[Bool.and_eq_true,decide_eq_true_eq] at h
 exact h
abbrev J4 (l:List cm):List Value:=l.flatMap fun t=>wj t none 0 0
theorem GP {A:Nat->Prop} {h:H}:∀{l:List cm},l.all Co=true->eH oK A h l (J4 l)
 | [],_=>rfl
 | t::l,he=>by
  rw[List.all_cons,Bool.and_eq_true] at he
  obtain⟨e1,e2,e3,e4,e5⟩:=zh he.1
  exact⟨wj t none 0 0,J4 l,rfl,adL (by rw[e1];exact⟨rfl,Nat.le_refl _,Nat.zero_le _,fun i x hx=>by simp at hx⟩) (fun _=>rfl) ⟨by show(0:Int)<=_;omega,by show _<=(255:Int);omega⟩ (by simp only[maxLen];omega) (by simp only[maxLen];omega),GP he.2⟩
theorem X5 {l:List cm} (he:l.all Co=true) (hn:l.length<=200):Cp l:=⟨hn,fun t ht=>by
 obtain⟨e1,e2,e3,e4,e5⟩:=zh (List.all_eq_true.1 he t ht)
 exact⟨by omega,by rw[e1];exact Nat.zero_le _,(fun a ha=>by rw[e1] at ha;cases ha),by omega⟩⟩
section
variable {h:H} {K:KV}
theorem iY {s:Bs} (hk:∀h',KB h h'->K (.agg ⟨aT ⟨2,s,none,0,0,false,[]⟩⟩) h'):zC 30 [S s] h K:=by
 refine Xa4.ok _ _ _ (af fun a1 h1 v1 k1 e1 s1=>aQ v1 (Nat.le_refl 5) fun h2 v2 k2 s2=>?_)
 exact⟨_,v2.cell 0 rfl,_,v2.cell 1 rfl,_,_,_,v2.cell 2 rfl,_,v2.cell 3 rfl,_,v2.cell 4 rfl,hk h2 (KB.step k1 k2 (by omega))⟩
theorem ig {s:Bs} (hk:∀h',KB h h'->K (.agg ⟨aT ⟨1,[],none,0,0,false,s⟩⟩) h'):zC 31 [S s] h K:=by
 refine Xa5.ok _ _ _ (af fun a1 h1 v1 k1 e1 s1=>aQ v1 (Nat.le_refl 5) fun h2 v2 k2 s2=>?_)
 exact⟨_,v2.cell 0 rfl,_,v2.cell 1 rfl,_,_,_,v2.cell 2 rfl,_,v2.cell 3 rfl,_,v2.cell 4 rfl,hk h2 (KB.step k1 k2 (by omega))⟩
theorem RI (ml:ML h):kS h (fun _=>none):=⟨ml,rfl⟩
theorem J5 (h:H):bh h (fun _=>none):=fun _ _=>rfl
theorem _root_.Go.Sh.Row.RJ {α:Type} {E:El α} {A:Nat->Prop} {b:OA} {n c:Nat} {l:List α} (R:Row E A h b n c l):Row E (bT (fun _=>none) h) h b n c l:=
 R.JC.keep (bZ.refl (fun _=>True) _ |>.less fun _ _=>trivial) fun k hk _=>⟨rfl,hk⟩
theorem ER {l:List cm} {n:Nat} (hn:l.length=n) (h6:n<=200) (he:l.all Co=true) {w:WM} (hp:mf l=mS w) (hd:J6 4 w.ns 0=true) (ml:ML h) {Q:OA->Nat->Nat->H->Prop}
  (hk:∀h' b n' c A,KB h h'->Row (dZ 4) A h' b n' c (cY 4 w.ns 0)->Q b n' c h'):
  aw h ⟨J4 l⟩ 45 fun ES yh=>zC 8 [.slice (some ES) n n] yh fun B0 lW=>aB B0 fun sb sn sc=>Q sb sn sc lW:=by
 subst hn
 refine af fun a h1 v1 k1 e1 s1=>?_
 have R:Row oK (fun _=>True) h1 (some a) l.length l.length l:=Row.of (GP he) (fun j x hx=>⟨a,rfl,v1.cell j hx⟩) rfl (Nat.le_refl _) (by simp only[maxLen];omega) fun _ _=>trivial
 have e:(mf l).w=w:=by rw[hp]
 refine S8 (RI (ml.kb k1)) (J5 h1) R.RJ (X5 he h6) 4 (by rw[e];exact Cq hd) fun h' base b n c hb k o=>aH ?_
 rw[e] at o
 exact hk h' b n c _ (k1.trans k) o.row
theorem qG {t:Tk} {Q:Tk->Prop} (h:Q t):dT (.agg ⟨aT t⟩) Q:=h
theorem qH (ml:ML h) (hk:∀h',KB h h'->K (.bool true) h'):zC 11 [] h K:=by
 refine Xa3.ok _ _ (iY fun h1 k1=>qG (ig fun h2 k2=>qG (iY fun h3 k3=>qG (ig fun h4 k4=>qG (iY fun h5 k5=>qG (ig fun h6 k6=>qG ?_))))))
 have kA:=((((k1.trans k2).trans k3).trans k4).trans k5).trans k6
 refine ER (l:=[zi [112],zj [49],zi [98],zj [50],zi [112],zj [51]]) rfl (by decide) (by decide+kernel) adM (by decide+kernel) (ml.kb kA) fun hA bA nA cA _ kA2 RA=>?_
 rw[X6] at RA
 refine iY fun h1 k1=>qG (ig fun h2 k2=>qG (iY fun h3 k3=>qG (ig fun h4 k4=>qG ?_)))
 have kB:=(((k1.trans k2).trans k3).trans k4)
 refine ER (l:=[zi [97],zj [49],zi [97],zj [50]]) rfl (by decide) (by decide+kernel) adN (by decide+kernel) (ml.kb ((kA.trans kA2).trans kB)) fun hB bB nB cB _ kB2 RB=>?_
 rw[X7] at RB
 have kAB:=(kA.trans kA2).trans (kB.trans kB2)
 have RA:=RA.kb (kB.trans kB2)
 have lA:2=nA:=RA.len
 have lB:2=nB:=RB.len
 refine bK (by omega) (RA.bj (i:=0) (by decide) rfl fun q1 A1=>?_)
 obtain⟨kb1,kn1,kc1,_,s1,rk1⟩:=jS A1
 have lk1:2=kn1:=rk1.len
 refine⟨_,_,_,s1,bK (by omega) (RA.bj (i:=1) (by decide) rfl fun q2 A2=>?_)⟩
 obtain⟨Xo,RL,Xp,_,s2,rk2⟩:=jS A2
 have lk2:1=RL:=rk2.len
 refine⟨_,_,_,s2,bK (by omega) (RA.bj (i:=1) (by decide) rfl fun q3 A3=>?_)⟩
 obtain⟨kb3,kn3,kc3,_,s3,rk3⟩:=jS A3
 refine⟨_,_,_,s3,rk3.bj (i:=0) (by decide) rfl fun q4 A4=>?_⟩
 obtain⟨kb4,kn4,kc4,t4,_,_⟩:=jS A4
 refine⟨_,t4,bK rfl ?_⟩
 refine ER (l:=[tkE [112]]) rfl (by decide) (by decide+kernel) adQ (by decide+kernel) (ml.kb kAB) fun hC bC nC cC _ kC RC=>aD ?_
 have RC:Row (dZ 4) _ hC bC nC cC [.mk 1 0 [112] [] [] []]:=RC
 have lC:1=nC:=RC.len
 refine bK (by omega) ((RB.kb kC).bj (i:=1) (by decide) rfl fun q5 A5=>?_)
 obtain⟨kb5,kn5,kc5,t5,_,_⟩:=jS A5
 refine⟨_,t5,bK rfl (bK (by omega) (RC.bj (i:=0) (by decide) rfl fun q6 A6=>?_))⟩
 obtain⟨kb6,kn6,kc6,t6,_,_⟩:=jS A6
 exact⟨_,t6,bK rfl (hk hC (kAB.trans kC))⟩
theorem qg.row {α:Type} {E:El α} {h h':H} {b:OA} {n c:Nat} {l:List α} {B:Nat->Prop} {A:Nat->Prop} (f:qg A h h') (R:Row E B h b n c l) (hd:∀k,B k->¬A k):Row E B h' b n c l:=
 R.keep (SK.w (f.sk.less fun k hk=>hd k hk.1)) fun k hk _=>hk
end
end Go.Proofs
namespace Go.Sh
open Go Go.ChangeShapes Go.WideShapes Go.Deep
set_option linter.unusedVariables false
variable {P:Program} {α β:Type}
def Reads (P:Program) (E:El α) (S:α->Prop) (t:TypeId):Prop:=
 ∀{H:Type} {enc:TypeId × Value->H} {w:World} {base fuel:Nat} {spare:Nat->Bool} {held:Bool} {cs:List Value} {x:DataW H × List MemPlace},
  DataW.trod enc P w base spare held fuel t cs=some x->(∀n ∈ x.1.weights P t,n<=reachBytes)->∃a,E.R (rS w.heap.size) w.heap a cs/\S a
def J7 {H:Type} (enc:TypeId × Value->H) (P:Program) (w:World) (base:Nat) (spare:Nat->Bool) (held:Bool):List TypeId->List Value->List (DataW H × List MemPlace)->Prop
 | [],cs,ys=>cs=[]/\ys=[]
 | t::ts,cs,ys=>∃c1 c2 y ys',cs=c1++c2/\ys=y::ys'/\(∃fuel,DataW.trod enc P w base spare held fuel t c1=some y)/\J7 enc P w base spare held ts c2 ys'
def Av (P:Program) (E:El α) (S:α->Prop) (ts:List TypeId):Prop:=
 ∀{H:Type} {enc:TypeId × Value->H} {w:World} {base:Nat} {spare:Nat->Bool} {held:Bool} {vs:List Value} {ys:List (DataW H × List MemPlace)},
  J7 enc P w base spare held ts vs ys->(∀n ∈ DataW.weightsEach P ts (ys.map (·.1)),n<=reachBytes)->∃a,E.R (rS w.heap.size) w.heap a vs/\S a
theorem JS {k:IntKind} {t:TypeId} (ht:P.underlying t=some (.int k)):Reads P (jz k) (fun _=>True) t:=by
 intro H enc w base fuel spare held cs x h _
 obtain⟨n,e,_,hw⟩:=DataW.trod_int ht h
 cases e
 refine⟨n,⟨rfl,?_⟩,trivial⟩
 simp[Lit.wf] at hw
 exact hw
theorem H8 {t:TypeId} (ht:P.underlying t=some .bool):Reads P ET (fun _=>True) t:=by
 intro H enc w base fuel spare held cs x h _
 obtain⟨n,e,_⟩:=DataW.trod_bool ht h
 cases e
 exact⟨n,rfl,trivial⟩
theorem rW {t:TypeId} (ht:P.underlying t=some .string):Reads P cN (fun s=>s.length<=reachBytes) t:=by
 intro H enc w base fuel spare held cs x h hz
 obtain⟨s,e,hx,hw⟩:=DataW.trod_string ht h
 cases e
 subst hx
 exact⟨s.data.toList,⟨rfl,by simpa using hw⟩,hz _ (by simp[DataW.weights])⟩
theorem vY {E:El α} {S:α->Prop} {t:TypeId} (h:Reads P E S t):Av P E S [t]:=by
 intro H enc w base spare held vs ys ht hw
 obtain⟨c1,c2,y,ys',rfl,rfl,⟨fuel,hf⟩,rfl,rfl⟩:=ht
 rw[List.append_nil]
 exact h hf fun n hn=>hw n (by simp[DataW.weightsEach,hn])
theorem iV {E:El α} {F:El β} {S:α->Prop} {T:β->Prop} {t:TypeId} {ts:List TypeId} (h:Reads P E S t) (k:Av P F T ts):Av P (ik E F) (fun x=>S x.1/\T x.2) (t::ts):=by
 intro H enc w base spare held vs ys ht hw
 obtain⟨c1,c2,y,ys',rfl,rfl,⟨fuel,hf⟩,hr⟩:=ht
 obtain⟨a,h1,h2⟩:=h hf fun n hn=>hw n (by simp[DataW.weightsEach,hn])
 obtain⟨b,h3,h4⟩:=k hr fun n hn=>hw n (by simp only[List.map_cons,DataW.weightsEach,List.mem_append];exact .inr hn)
 exact⟨(a,b),⟨c1,c2,rfl,h1,h3⟩,h2,h4⟩
def zk (P:Program):List Field->Nat->Bool
 | [],_=>true
 | f::fs,i=>Nat.beq f.offset i&&zk P fs (i+P.cellsOf f.type)
def GQ (P:Program) (t n:Nat) (ts:List TypeId):Bool:=
 match P.underlying t with
 | some (.struct fs)=>zk P fs.toList 0&&decide (fs.toList.map (·.type)=ts)&&Nat.beq (P.cellsOf t) n&&Nat.beq ((ts.map P.cellsOf).foldr (·+·) 0) n
 | _=>false
theorem Cr {H:Type} {enc:TypeId × Value->H} {w:World} {base:Nat} {spare:Nat->Bool} {held:Bool} {n:Nat}:∀{fl:List Field} {i:Nat} {cs:List Value} {ys:List (DataW H × List MemPlace)},
  zk P fl i=true->cs.length=((fl.map (·.type)).map P.cellsOf).foldr (·+·) 0->ys.length=fl.length->
  (∀(j:Nat) (f:Field),fl[j]? =some f->DataW.trod enc P w base spare held n f.type ((cs.drop (f.offset - i)).take (P.cellsOf f.type))=ys[j]?)->J7 enc P w base spare held (fl.map (·.type)) cs ys
 | [],i,cs,ys,_,hc,hy,_=>⟨List.eq_nil_of_length_eq_zero (by simpa using hc),List.eq_nil_of_length_eq_zero (by simpa using hy)⟩
 | f::fl,i,cs,ys,ho,hc,hy,bm=>by
  simp only[zk,Bool.and_eq_true] at ho
  have e0:=Nat.eq_of_beq_eq_true ho.1
  cases ys with
  | nil=>simp at hy
  | cons y ys=>
   have h0:=bm 0 f rfl
   rw[e0,Nat.sub_self,List.drop_zero] at h0
   refine⟨cs.take (P.cellsOf f.type),cs.drop (P.cellsOf f.type),y,ys,(List.take_append_drop _ _).symm,rfl,⟨n,h0⟩,Cr (i:=i+P.cellsOf f.type) (n:=n) ho.2 (by simp only[List.length_drop,hc,List.map_cons,List.foldr_cons];omega) (by simpa using hy) fun j g hg=>?_⟩
   have:=bm (j+1) g (by simpa using hg)
   rw[List.drop_drop]
   have OK:∀{l:List Field} {i j:Nat} {g:Field},zk P l i=true->l[j]? =some g->i<=g.offset:=by
    intro l
    induction l with
    | nil=>intro i j g _ hg;simp at hg
    | cons f l ih=>
     intro i j g ho hg
     simp only[zk,Bool.and_eq_true] at ho
     cases j with
     | zero=>simp at hg;subst hg;exact Nat.le_of_eq (Nat.eq_of_beq_eq_true ho.1).symm
     | succ j=>have:=ih ho.2 (by simpa using hg);omega
   have hge:=OK ho.2 hg
   rw[show P.cellsOf f.type+(g.offset - (i+P.cellsOf f.type))=g.offset - i by omega]
   simpa using this
theorem ug {E:El α} {S:α->Prop} {t:TypeId} {ts:List TypeId} (hb:GQ P t E.sz ts=true) (hr:Av P E S ts):Reads P E S t:=by
 intro H enc w base fuel spare held cs x h hw
 unfold GQ at hb
 split at hb
 ·rename_i fs hs
  simp only[Bool.and_eq_true,decide_eq_true_eq] at hb
  obtain⟨⟨⟨h1,h2⟩,h3⟩,h4⟩:=hb
  obtain⟨ys,n,_,rfl,hlen,hyl,hf⟩:=DataW.trod_struct hs h
  refine hr (enc:=enc) (base:=base) (spare:=spare) (held:=held) (ys:=ys) ?_ fun n hn=>hw n ?_
  ·rw[<-h2]
   exact Cr (i:=0) (n:=n) h1 (by rw[h2,hlen,Nat.eq_of_beq_eq_true h3,Nat.eq_of_beq_eq_true h4]) (by simpa using hyl) fun j f hj=>by
    rw[Nat.sub_zero];exact hf j f (by simpa using hj)
  ·simp only[DataW.weights,hs,h2]
   exact hn
 ·cases hb
theorem oP {H:Type} {e:TypeId} {d:DataW H}:∀{l:List (DataW H)},d ∈ l->∀n ∈ d.weights P e,n ∈ DataW.weightsAll P e l
 | x::l,hd,n,hn=>by
  simp only[DataW.weightsAll,List.mem_append]
  rcases List.mem_cons.1 hd with rfl | h
  ·exact .inl hn
  ·exact .inr (oP h n hn)
def sliceB (P:Program) (t e n by':Nat):Bool:=
 match P.underlying t with
 | some (.slice e')=>Nat.beq e' e&&(Nat.beq (P.cellsOf e) n&&Nat.beq (P.bytesOf e) by')
 | _=>false
theorem GG {E:El α} {S:α->Prop} {t e:TypeId} {by':Nat} (hb:sliceB P t e E.sz by'=true) (hr:Reads P E S e):
  Reads P (EJ E) (fun l=>l.length*by'<=reachBytes/\∀x ∈ l,S x) t:=by
 intro H enc w base fuel spare held cs x h hw
 unfold sliceB at hb
 split at hb
 ·rename_i e' ht
  simp only[Bool.and_eq_true] at hb
  obtain⟨h1,h2,h3⟩:=hb
  have h1:=Nat.eq_of_beq_eq_true h1
  have hC:=Nat.eq_of_beq_eq_true h2
  have zl:=Nat.eq_of_beq_eq_true h3
  subst h1
  rcases open_slice ht h with ⟨rfl,rfl⟩ | ⟨a,len,cap,m,n,D,Pl,rfl,hb,hl,hm,hmm,rfl,hi⟩
  ·exact⟨[],⟨none,0,0,rfl,Row.nil _ _,fun _=>rfl⟩,by simp,fun x hx=>by cases hx⟩
  ·have hlm:len<=m:=by rw[hmm];split <;> omega
   simp only[DataW.weights,ht,List.mem_cons,List.mem_append] at hw
   have hlen:len*by'<=reachBytes:=by
    have:=hw _ (.inl rfl)
    simp only[List.length_map,List.length_range,zl] at this
    have h2:len*by'<=(len+(m - len))*by':=Nat.mul_le_mul_right _ (by omega)
    omega
   have each:∀i,i<len->∃x:α,S x/\∃vs,E.R (rS w.heap.size) w.heap x vs/\∀(j:Nat) u,vs[j]? =some u->cell w.heap (a.add (i*E.sz+j))=some u:=by
    intro i bQ
    obtain⟨RM,hc,ht'⟩:=hi i (by omega)
    rw[hC] at hc
    obtain⟨_,hcl,wk⟩:=World.cells?_some hc
    have iZ:D i ∈ (List.range len).map D:=List.mem_map.2 ⟨i,List.mem_range.2 bQ,rfl⟩
    obtain⟨x,hx,hs⟩:=hr ht' fun n hn=>hw n (.inr (.inl (oP iZ n hn)))
    refine⟨x,hs,RM,hx,fun j u hu=>?_⟩
    have hj:j<RM.length:=(List.getElem?_eq_some_iff.1 hu).1
    have:=wk j (by omega)
    rw[lj,hu,Go.Sh.add_add] at this
    exact this
   have list:∀k,k<=len->∃l:List α,l.length=k/\(∀x ∈ l,S x)/\∀i x,l[i]? =some x->∃vs,E.R (rS w.heap.size) w.heap x vs/\∀(j:Nat) u,vs[j]? =some u->cell w.heap (a.add (i*E.sz+j))=some u:=by
    intro k
    induction k with
    | zero=>exact fun _=>⟨[],rfl,fun x hx=>by(cases hx),fun i x hx=>by simp at hx⟩
    | succ k ih=>
     intro hk
     obtain⟨l,h1,h2,h3⟩:=ih (by omega)
     obtain⟨x,hs,hx⟩:=each k (by omega)
     refine⟨l++ [x],by simp[h1],fun y hy=>?_,fun i y hy=>?_⟩
     ·rcases List.mem_append.1 hy with hy | hy
      ·exact h2 y hy
      ·rw[List.mem_singleton] at hy;subst hy;exact hs
     ·by_cases hi:i<l.length
      ·rw[List.getElem?_append_left hi] at hy;exact h3 i y hy
      ·rw[List.getElem?_append_right (by omega)] at hy
       cases hd:i - l.length with
       | zero=>
        rw[hd] at hy;simp at hy;subst hy
        have:i=k:=by omega
        subst this;exact hx
       | succ d=>rw[hd] at hy;simp at hy
   obtain⟨l,h1,h2,h3⟩:=list len (Nat.le_refl _)
   refine⟨l,⟨some a,len,cap,rfl,⟨h1,hl,hm,fun i x hx=>?_⟩,fun e=>by cases e⟩,by rw[h1];exact hlen,h2⟩
   obtain⟨vs,h4,h5⟩:=h3 i x hx
   have hp:=E.pos
   have hvl:=E.len _ _ _ _ h4
   refine⟨a,rfl,?_,vs,h4,fun j u hu=>by rw[Go.Sh.add_add];exact h5 j u hu⟩
   have:=fP (h5 0 _ (List.getElem?_eq_getElem (by omega)))
   rw[br] at this ⊢
   exact this
 ·cases hb
section
variable {H:Type} {enc:TypeId × Value->H} {w:World} {base b0:Nat} {spare:Nat->Bool} {held:Bool} {r:Reach} {t:TypeId} {v:Value} {d:DataW H} {p:List MemPlace}
theorem XY {E:El α} {S:List α->Prop} {e:TypeId} (ht:P.underlying t=some (.slice e)) (hr:Reads P (EJ E) S t) (hv:Value.okWide P w r b0 t v) (h:DataW.Trod enc P w base spare held t v d p) (hw:∀n ∈ d.weights P t,n<=reachBytes):
  ∃(l:List α) (b:OA) (n c:Nat),v=.slice b n c/\Row E (rS w.heap.size) w.heap b n c l/\(b=none->c=0)/\S l:=by
 obtain⟨b,n,c,rfl⟩:=okWide_slice ht hv
 obtain⟨fuel,hf⟩:=h
 obtain⟨l,⟨b',n',c',e,hR,hz⟩,hs⟩:=hr hf hw
 simp[Value.cells] at e
 obtain⟨rfl,rfl,rfl⟩:=e
 exact⟨l,b,n,c,rfl,hR,hz,hs⟩
theorem bu.below {W W':World} (o:bu W W') (k:KB W.heap W'.heap):RowKit.Below W.heap.size W W':=⟨o.os,o.tape,o.output,k.1,fun b hb=>k.2 b hb⟩
def J8 (P:Program) (ts:List TypeId):Bool:=ts.all fun t=>P.readableRec t&&decide (t<P.types.size)
theorem qD (hl:laidOutB P=true) {W W':World} (hb:RowKit.Below W.heap.size W W'):∀{ts:List TypeId} {vs:List Value} {ds:List (DataW H)} {p:List MemPlace},J8 P ts=true->
  DataW.TrodAll enc P W 0 (fun _=>true) true ts vs ds p->(∀x ∈ p,x.block<W.heap.size)->DataW.TrodAll enc P W' 0 (fun b=>decide (b<W.heap.size)) true ts vs ds p
 | [],[],[],_,_,h,_=>h
 | [],_::_,_,_,_,h,_=>h.elim
 | [],[],_::_,_,_,h,_=>h.elim
 | _::_,[],_,_,_,h,_=>h.elim
 | _::_,_::_,[],_,_,h,_=>h.elim
 | t::ts,v::vs,d::ds,_,hr,⟨p,q,h1,h2,rfl⟩,cR=>by
  simp only[J8,List.all_cons,Bool.and_eq_true,decide_eq_true_eq] at hr
  exact⟨p,q,Go.RowKit.Below.trod hl hr.1.1 hr.1.2 h1 hb fun x hx=>cR x (List.mem_append_left _ hx),qD hl hb (by simpa [J8] using hr.2) h2 fun x hx=>cR x (List.mem_append_right _ hx),rfl⟩
end
end Go.Sh
namespace Go.Proofs
open Go Go.Sh
set_option linter.unusedVariables false
set_option maxRecDepth 100000
theorem wm {h h':H} {a:Addr} {v:Value} (e:cell h a=some v) (k:KB h h'):cell h' a=some v:=(KB.w k).cell (fP e) e
theorem RN {h h':H} {g:Nat} (t:GR h g) (k:KB h h'):GR h' g:=by
 obtain⟨c,e,hg⟩:=t
 exact⟨c,e,by rw[k.2 g (Array.getElem?_eq_some_iff.1 hg).1];exact hg⟩
theorem J9.kb {A:Nat->Prop} {h h':H} {q:Addr} (k:KB h h'):J9 A h q->J9 A h' q
 | ⟨hA,ht,i,s,ab,an,ac,z,tx,c0,c1,c2,c3,c4,sa⟩=>⟨hA,RN ht k,i,s,ab,an,ac,z,tx,wm c0 k,wm c1 k,wm c2 k,⟨wm c3.1 k,c3.2⟩,wm c4 k,sa.1,fun i hi=>by
  obtain⟨a,e,hA,ht,⟨s1,c1⟩,s2,c2⟩:=sa.2 i hi
  exact⟨a,e,hA,RN ht k,⟨s1,wm c1 k⟩,s2,wm c2 k⟩⟩
def AX (s:Nat):Prop:=PX s∨RX s
structure DM (h:H) (col:bY) (a w b r:Addr) (mm:MM) (u v x:Nat):Prop where
 P:CP h col a w mm u v x
 R:CR h col b r mm u v x
abbrev T4S:=zm.T4
abbrev T5S:=zm.T5
abbrev T0S:=zm.T0
section
variable {h h' h1:H} {col col' c1:bY} {a w b r:Addr} {mm m1:MM} {u v x u1 v1 x1:Nat} {K:KV} {tb:OA} {n c:Nat} {l:List cm} {i:Nat}
theorem CG.wo (R:CR h col b r mm u v x) (E:al PX h col h' col') (f:bh h' col'):CR h' col' b r mm u v x:=
 R.act (Z:=PX) (R.p.ext E (by unfold PX PA PS;omega) (by unfold PX PA PS;omega) f) f E (by unfold PX PA PS;omega) R.s
theorem CG.cf (P:CP h col a w mm u v x) (E:al RX h col h' col') (f:bh h' col'):CP h' col' a w mm u v x:=
 P.act (Z:=RX) (P.p.ext E (by unfold RX RA RS;omega) (by unfold RX RA RS;omega) f) f E (by unfold RX RA RS;omega) P.s
theorem al.ax (e:al PX h col h' col'):al AX h col h' col':=e.mono fun s hs=>.inl hs
theorem al.bx (e:al RX h col h' col'):al AX h col h' col':=e.mono fun s hs=>.inr hs
theorem DM.kb (D:DM h col a w b r mm u v x) (k:KB h h'):DM h' col a w b r mm u v x:=⟨D.P.cU k,D.R.da k⟩
theorem DM.mono (D:DM h col a w b r mm u v x) (h1:u<=u1) (h2:v<=v1) (h3:x<=x1):DM h col a w b r mm u1 v1 x1:=⟨D.P.nT h1 h2 h3,D.R.nT h1 h2 h3⟩
theorem Ie (C:DM h col a w b r mm u v x) (Kn Ke1:T5S) (Ke0:T4S) (Kr:T0S) (hk:∀h',KB h h'->Kn tb n c (some a) (some b) (i:Int) h'):zm.n19 tb n c (some a) (some b) (i:Int) Kn Ke1 Ke0 Kr h:=by
 obtain⟨tr,cp,T,W⟩:=C.P.p.ex
 obtain⟨tr2,T2,W2⟩:=C.R.p.ex
 obtain⟨ob,oc,mb,mn,mc,vw,o,om⟩:=W.ex
 obtain⟨X8,X9,Ya,Yb,Yc,vr,o2,om2⟩:=W2.ex
 obtain⟨D,hD⟩:=C.P.s.A.D.G.deep
 have hD:=hD D (Nat.le_refl _) 0
 have P:=C.P.V
 have R:=C.R.V
 refine aa ⟨_,P.cell 1 rfl,aa ⟨_,R.cell 1 rfl,bK rfl (aa ⟨_,P.cell 2 rfl,aa ⟨_,R.cell 2 rfl,bK rfl (aa ⟨_,P.cell 3 rfl,aa ⟨_,R.cell 3 rfl,bK rfl (aa ⟨_,P.cell 4 rfl,aR (fun e=>?_) fun e=>?_⟩)⟩⟩)⟩⟩)⟩⟩
 all_goals
  refine aa ⟨_,R.cell 4 rfl,?_⟩
  rw[e]
  first | refine aD ?_ | refine aC ?_
  refine aa ⟨_,P.cell 5 rfl,aa ⟨_,R.cell 5 rfl,bK rfl (aa ⟨_,P.cell 6 rfl,aa ⟨_,R.cell 6 rfl,bK rfl ?_⟩⟩)⟩⟩
  refine aa ⟨_,P.cell 0 rfl,aa ⟨_,_,_,vw.cell 1 rfl,aa ⟨_,R.cell 0 rfl,aa ⟨_,_,_,vr.cell 1 rfl,wq o.row o2.row ?_⟩⟩⟩⟩
  rw[decide_eq_true rfl]
  refine ag (aD (aa ⟨_,P.cell 0 rfl,aa ⟨_,_,_,vw.cell 2 rfl,aa ⟨_,R.cell 0 rfl,aa ⟨_,_,_,vr.cell 2 rfl,u4 om.row om2.row ?_⟩⟩⟩⟩))
  rw[decide_eq_true rfl]
  refine ag (aD (aa ⟨_,P.cell 0 rfl,aa ⟨_,vw.cell 4 rfl,aa ⟨_,R.cell 0 rfl,aa ⟨_,vr.cell 4 rfl,bK rfl ?_⟩⟩⟩⟩))
  refine aa ⟨_,P.cell 0 rfl,aa ⟨_,vw.cell 0 rfl,um C.P.s.A.D.G D 0 T hD fun h3 b3 n3 c3 k3 o3=>aH ?_⟩⟩
  refine S7 (C.R.da k3) D hD fun h4 b4 n4 c4 k4 o4=>aH (u5 D (o3.row.kb k4) o4.row fun h5 k5=>?_)
  rw[j3 rfl]
  exact ag (aD (hk h5 ((k3.trans k4).trans k5)))
theorem Ig (C:DM h col a w b r (zg mm) u v x) {t:cm} {a6 a8:Addr} {b6 b8:OA} {n6 c6 n8 c8:Nat} (l6:LT h col a6 (wg mm t) b6 n6 c6) (l8:LT h col a8 (wg mm t) b8 n8 c8) (hu:u<=600000) (hv:v<=10000) (hx:x<=100000000) (z:Bool) (hz:GN mm t=z) (Kn Ke1:T5S) (Ke0:T4S) (Kr:T0S)
  (after:∀h' c',DM h' c' a w b r (dH mm t) (u+2*v+40) (v+1) (x+4000)->al AX h col h' c'->Kn tb n c (some a) (some b) (i:Int) h'):zm.n18 tb n c (some a) (some b) (i:Int) a6 z a8 Kn Ke1 Ke0 Kr h:=by
 have ss:dH mm t=if GN mm t=true then(if mm.mode=1 then sg (zg mm) (wg mm t) else sf (zg mm) (wg mm t)) else zg mm:=rfl
 have fin:∀h' c' m' u' v' x',DM h' c' a w b r m' u' v' x'->m'=dH mm t->u'<=u+2*v+40->v'<=v+1->x'<=x+4000->al AX h col h' c'->zm.n19 tb n c (some a) (some b) (i:Int) Kn Ke1 Ke0 Kr h':=fun h' c' m' u' v' x' D e h1 h2 h3 E=>by
  subst e
  exact Ie D _ _ _ _ fun h5 k5=>after h5 c' ((D.mono h1 h2 h3).kb k5) (E.trans (.kb k5))
 cases z with
 | true=>
  rw[if_pos hz] at ss
  refine aD (aa ⟨_,C.R.V.cell 1 rfl,bf (fun em=>aD ?_) fun em=>aC (aD ?_)⟩)
  ·have em:mm.mode=1:=em
   rw[if_pos em] at ss
   exact l6.ld (Ka C.P (by omega) hx l6.T fun h2 c2 P2 E2=>(l8.ext E2).ld (OI (C.R.wo E2 P2.f) (by omega) hx (l8.ext E2).T fun h3 c3 R3 E3=>fin h3 c3 _ _ _ _ ⟨P2.cf E3 R3.f,R3⟩ ss.symm (by omega) (by omega) (by omega) (E2.ax.trans E3.bx)))
  ·have em:¬mm.mode=1:=em
   rw[if_neg em] at ss
   exact l6.ld (Kb C.P (by omega) hv hx l6.T fun h2 c2 P2 E2=>(l8.ext E2).ld (S5 (C.R.wo E2 P2.f) (by omega) hv hx (l8.ext E2).T fun h3 c3 R3 E3=>fin h3 c3 _ _ _ _ ⟨P2.cf E3 R3.f,R3⟩ ss.symm (by omega) (by omega) (by omega) (E2.ax.trans E3.bx)))
 | false=>
  rw[if_neg (by rw[hz];decide)] at ss
  exact aC (aC (aC (fin h col _ _ _ _ C ss.symm (by omega) (by omega) (by omega) (.kb (KB.refl h)))))
theorem Ke (C:DM h col a w b r mm u v x) (R:Row oK (bT col h) h tb n c l) (hl:Cp l) (hi:i<l.length) (hu:u<=600000) (hv:v<=10000) (hx:x<=100000000) (Kn Ke1:T5S) (Ke0:T4S) (Kr:T0S)
  (after:∀h' c',DM h' c' a w b r (dH mm l[i]) (u+2*v+40) (v+1) (x+4000)->al AX h col h' c'->Kn tb n c (some a) (some b) (i:Int) h'):zm.n15 tb n c (some a) (some b) (i:Int) Kn Ke1 Ke0 Kr h:=by
 refine R.bj hi rfl fun q hA=>?_
 obtain⟨b1,n1,c1,TC⟩:=si hA
 have T:fc h col l[i] b1 n1 c1:=⟨TC.row,TC.nil,TC.rk,hl.2 _ (List.getElem_mem hi)⟩
 refine⟨_,TC.c0,_,TC.c1,_,_,_,TC.c2,_,TC.c3,_,TC.c4,zn C.P T fun h2 d2 P2 E2=>?_⟩
 have R2:=C.R.wo E2 P2.f
 have T2:=Kf (mm:=mm) (T.ext E2)
 have key:∀z,GN mm l[i]=z->∀a6 h3,LT h3 d2 a6 (wg mm l[i]) b1 n1 c1->KB h2 h3->zm.n16 tb n c (some a) (some b) (i:Int) a6 z Kn Ke1 Ke0 Kr h3:=fun z hz a6 h3 l6 k3=>by
  have E3:=E2.trans (.kb k3)
  refine(E3.row R).bj hi rfl fun q hA=>?_
  obtain⟨b2,n2,c2,TC⟩:=si hA
  have T3:fc h3 d2 l[i] b2 n2 c2:=⟨TC.row,TC.nil,TC.rk,hl.2 _ (List.getElem_mem hi)⟩
  refine⟨_,TC.c0,_,TC.c1,_,_,_,TC.c2,_,TC.c3,_,TC.c4,Ic (R2.da k3) T3 fun h4 d4 R4 E4=>?_⟩
  have P4:=(P2.cU k3).cf E4 R4.f
  have T4:=Kf (mm:=mm) (T3.ext E4)
  have l6':=l6.ext E4
  have Yd:∀z',GN mm l[i]=z'->∀a8 h5,LT h5 d4 a8 (wg mm l[i]) b2 n2 c2->KB h4 h5->zm.n17 tb n c (some a) (some b) (i:Int) a6 z a8 z' Kn Ke1 Ke0 Kr h5:=fun z' il a8 h5 l8 k5=>by
   have ez:z'=z:=il.symm.trans hz
   subst ez
   have l6:=l6'.kb k5
   have D5:DM h5 d4 a w b r (zg mm) u v x:=⟨P4.cU k5,R4.da k5⟩
   have go:∀h6,KB h5 h6->zm.n18 tb n c (some a) (some b) (i:Int) a6 z' a8 Kn Ke1 Ke0 Kr h6:=fun h6 k6=>
    Ig (D5.kb k6) (l6.kb k6) (l8.kb k6) hu hv hx z' il _ _ _ _ fun h7 c7 D7 E7=>after h7 c7 D7 ((((E3.ax.trans E4.bx).trans (.kb k5)).trans (.kb k6)).trans E7)
   have same:bJ h5 a6 fun t=>bJ h5 a8 fun t2=>zC 18 [.agg ⟨aT t⟩,.agg ⟨aT t2⟩] h5 fun v h=>au v fun b'=>cond b' (zm.n18 tb n c (some a) (some b) (i:Int) a6 z' a8 Kn Ke1 Ke0 Kr h) (Kr false h):=
    l6.ld (l8.ld (yA (t:=wg mm l[i]) (b:=b1) (n:=n1) (c:=c1) (b2:=b2) (n2:=n2) (c2:=c2) l6.T.r l8.T.r fun h6 k6=>ag (aD (go h6 k6))))
   cases z' with
   | true=>exact aD (aD same)
   | false=>exact aC (aC same)
  exact Kg (aR (fun e=>LT.copy T4 R4.f rfl fun a8 h5 l8 k5=>Yd true e a8 h5 l8 k5) fun e=>LT.copy T4 R4.f rfl fun a8 h5 l8 k5=>Yd false e a8 h5 l8 k5)
 exact Kg (aR (fun e=>LT.copy T2 P2.f rfl fun a6 h3 l6 k3=>key true e a6 h3 l6 k3) fun e=>LT.copy T2 P2.f rfl fun a6 h3 l6 k3=>key false e a6 h3 l6 k3)
theorem vZ {A:Nat->Prop} (ml:ML h) (R:Row oK A h tb n c l) (hk:∀h',KB h h'->K (.bool true) h'):
  zC 4 [.slice tb n c] h K:=by
 have kn:zC 11 [] h fun v fh=>au v fun S9=>cond S9 (K (.bool true) fh) (K (.bool false) fh):=qH ml fun h2 k2=>ag (aD (hk h2 k2))
 refine zm.ok _ _ _ _ _ (yB R fun v hv=>ag (aR (fun _=>kn) fun ev=>bf (fun _=>kn) fun Eu=>qH ml fun h1 k1=>ag (aD ?_)))
 have hl:=hv ev
 have qF:=R.len
 refine RO (J5 h1) (RI (ml.kb k1)) fun a w h2 c2 P2 E2=>cL (X3 P2.f P2.L fun b r h3 c3 R3 E3=>cL ?_)
 have P3:=P2.cf E3 R3.f
 have E13:=E2.ax.trans E3.bx
 obtain⟨tr,cp,T,W⟩:=P3.p.ex
 obtain⟨ob,oc,mb,mn,mc,vw,o,om⟩:=W.ex
 refine cw (by kernel_rfl) (ag (aC (aa ⟨_,P3.V.cell 0 rfl,cw (by kernel_rfl) (ag (aC (aa ⟨_,P3.V.cell 0 rfl,aa ⟨_,vw.cell 0 rfl,cw (by kernel_rfl) (ag (aC ?_))⟩⟩)))⟩)))
 refine⟨n+1,?_⟩
 have R1:=(R.kb k1).RJ
 have key:∀N i (mm:MM) h5 c5,i+N=n->DM h5 c5 a w b r mm (1+i*440) i (i*4000)->al AX h1 (fun _=>none) h5 c5->
   zm.qI (fun h=>zm.n7 (fun y2 h=>K (.bool y2) h) (fun y2 h=>K (.bool y2) h) h) (fun h=>zm.n7 (fun y2 h=>K (.bool y2) h) (fun y2 h=>K (.bool y2) h) h) (fun y2 h=>K (.bool y2) h) (N+1) tb n c (some a) (some b) (i:Int) h5:=by
  intro N
  induction N with
  | zero=>
   intro i mm h5 c5 hi D5 E5
   unfold zm.qI LP zm.qJ
   exact cg (by omega) (hk h5 (k1.trans E5.kbz))
  | succ N ih=>
   intro i mm h5 c5 hi D5 E5
   unfold zm.qI LP zm.qJ
   have bQ:i<l.length:=by omega
   have uo:=hl.1
   exact bK (by omega) (Ke D5 (E5.row R1) hl bQ (by omega) (by omega) (by omega) _ _ _ _ fun h6 c6 D6 E6=>⟨aF (by omega) (by omega),ih (i+1) _ h6 c6 (by omega) (D6.mono (by omega) (by omega) (by omega)) (E5.trans E6)⟩)
 exact key n 0 J3 h3 c3 (by omega) ⟨P3,R3⟩ E13
end
end Go.Proofs
