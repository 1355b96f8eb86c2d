/- Own text. No condition. -/
import Derived.Test.YtijoifkjeamonaaGreatHc
import Derived.Test.YtijoifkjeamonaaGreatShR
import Derived.Test.YtijoifkjeamonaaGreatProg
namespace Go.Proofs
open Go Go.Sh
set_option linter.unusedVariables false
set_option maxRecDepth 100000
namespace Xf7
abbrev L2:List Sl:=[]
abbrev L3:=[Zl 0,Zr 1,Z6 7,Z6 8]
abbrev L0:=[Z6 4]
abbrev L1:=[Zl 0,Zr 1]
abbrev T2:=TK L2
abbrev T0:=TK L0
abbrev T3:=TK L3
variable (ao:OA) (aj aq:Nat) (x1:Value)
abbrev bU (Kn Ke0:T2) (Kr:T0):T3->T3:=fun K2 ao aj aq x1 x7 x8 h=>aM (x8<x7) ((0<=x8/\x8<(aj:Int))/\(ae ao fun a1=>zI .i64 h (((a1.add (Int.toNat x8*3))).add 0) fun i2=>zT h (((a1.add (Int.toNat x8*3))).add 1) fun s3=>zS h (((a1.add (Int.toNat x8*3))).add 2) fun oe oI uP=>fQ Tryz.prog 4 x1 ⟨[(.agg ⟨[.int .i64 i2,S s3,.slice oe oI uP]⟩)]⟩ h fun v5 h6=>au v5 fun b7=>cond b7 (Kr x8 h6) (bd .i64 (x8+(1:Int))/\(K2 ao aj aq x1 x7 (x8+(1:Int)) h6)))) (Ke0 h)
abbrev cQ (Kn Ke0:T2) (Kr:T0):Nat->T3:=LP L3 (bU Kn Ke0 Kr)
variable (K:KV) (h:H)
abbrev asks (ao:OA) (aj aq:Nat) (x1:Value) (K:KV) (h:H):Prop:=cF L0 (fun Kr=>aA L1 (fun K4=>K4 ao aj aq x1 h) fun ao aj aq x1 h=>aA L2 (fun K1=>aA L3 (fun K3=>K3 ao aj aq x1 (aj:Int) 0 h) fun ao aj aq x1 x7 x8 h=>iy L3 (bU K1 K1 Kr) fun K2=>K2 ao aj aq x1 x7 x8 h) fun h=>Kr (-1) h) fun y4 h=>K (.int .i64 y4) h
theorem ok (q:asks ao aj aq x1 K h):zC 193 [.slice ao aj aq,x1] h K:=
 cl Tryz.func193 q (fun p q=>sq (l:=L1) p q fun p q=>sc (l:=L2) q (fun q=>sq (l:=L3) p q fun p q=>bl (b:=0) (lp p q fun p q=>lf p q)) fun p q=>lf p q) fun p q=>rt p q
end Xf7
namespace Xa8
abbrev L0:=[Zb 3]
variable (cE:Int) (cG:List UInt8) (kN:OA) (kO kP:Nat) (x1:Addr)
variable (K:KV) (h:H)
abbrev asks:Prop:=cF L0 (fun Kr=>aw h ⟨[.int .i64 cE,S cG,.slice kN kO kP]⟩ 79 fun a1 h2=>zI .i64 h2 (a1.add 0) fun i3=>zI .i64 h2 x1 fun i4=>aM (i3=i4) (Kr true h2) (Kr false h2)) fun y3 h=>K (.bool y3) h
theorem ok (q:asks cE cG kN kO kP x1 K h):zC 221 [(.agg ⟨[.int .i64 cE,S cG,.slice kN kO kP]⟩),.pointer (some x1)] h K:=
 cl Tryz.func221 q (fun p q=>lf p q) fun p q=>rt p q
end Xa8
namespace Xa7
abbrev L0:=[Z6 4]
variable (ao:OA) (aj aq:Nat) (x1:Int)
variable (K:KV) (h:H)
abbrev asks:Prop:=cF L0 (fun Kr=>aw h #[.int .i64 x1] 3 fun a1 h2=>zI .i64 h2 a1 fun i3=>aM (i3<(0:Int)) (Kr (-1) h2) (zC 193 [.slice ao aj aq,(.func (.func 221) ⟨[]⟩ ⟨[.pointer (some a1)]⟩)] h2 fun v4 h5=>aL .i64 v4 fun i6=>Kr i6 h5)) fun y4 h=>K (.int .i64 y4) h
theorem ok (q:asks ao aj aq x1 K h):zC 201 [.slice ao aj aq,.int .i64 x1] h K:=
 cl Tryz.func201 q (fun p q=>lf p q) fun p q=>rt p q
end Xa7
namespace Xa9
abbrev L0:=[Za 4]
abbrev L3:=[Za 3,Za 4,Zr 8]
abbrev L2:=[Zl 0,Za 3,Za 4]
abbrev T0:=TD L0
abbrev n5 (x4:Addr) (ds:List Deferred) (Kn Kr:T0) (h:H):Prop:=
 bc x4 [.int .i64 (-1)] 0 h fun h1=>Kr x4 ds h1
abbrev asks (ao:OA) (aj aq:Nat) (x1:List UInt8) (K:KV) (h:H):Prop:=nF L0 (fun Kr=>nF L2 (fun K4=>aw h #[S x1] 9 fun lE gA=>aw gA #[.int .i64 0] 3 fun pv fh=>K4 ao aj aq lE pv [] fh) fun ao aj aq x3 x4 ds h=>nF L2 (fun K3=>K3 ao aj aq x3 x4 ds h) fun ao aj aq x3 x4 ds h=>nF L0 (fun K1=>nF L3 (fun K2=>zC 136 [.slice ao aj aq] h fun v12 fI=>K2 x3 x4 v12 ds fI) fun x3 x4 x8 ds h=>Oo Tryz.prog x8 2 [.o 9 (.i .i64),.g 10 [.i .i64,.s,.l]] h (fun p9 sU sV Gz GA GB Mid Kc Fin h1=>aw h1 ⟨[.int .i64 0,S [],.slice none 0 0]⟩ 79 fun a2 h3=>bc a2 [.int .i64 sU,S sV,.slice Gz GA GB] 0 h3 fun h4=>Mid h4 fun gN=>zI .i64 gN (a2.add 0) fun i6=>aM (i6<(0:Int)) (Fin gN gN fun h7=>K1 x4 (cu h.size::ds) h7) (zT gN (a2.add 1) fun s8=>zT gN x3 fun s9=>aM (s8=s9) (bc x4 [.int .i64 p9] 0 gN fun df=>Fin gN df fun eG=>Kr x4 (cu h.size::ds) eG) (Kc gN gN))) (fun h4=>K1 x4 (cu h.size::ds) h4)) fun x4 ds h=>n5 x4 ds Kr Kr h) fun y4 ds h=>dE ds h fun h=>zI .i64 h y4 fun i18=>K (.int .i64 i18) h
theorem ok (ao:OA) (aj aq:Nat) (x1:List UInt8) (K:KV) (h:H) (hS:asks ao aj aq x1 K h):zC 152 [.slice ao aj aq,S x1] h K:=
 Qe Tryz.func152 hS (fun hg hS=>BG (l:=L2) hg hS fun hg hS=>so (BG (l:=L2) hg hS fun hg hS=>Ss (l:=L0) hS (fun hS=>BG (l:=L3) hg hS fun hg hS=>bl (b:=0) (Qf (.tmp 8) #[9,10] hg hS)) fun hg hS=>Qg hg hS)) fun hg hS=>Qh hg hS
end Xa9
namespace Xee
abbrev L2:List Sl:=[]
abbrev L3:=[Zl 0,Z6 1,Z6 5]
abbrev L0:=[Z6 4]
abbrev L1:=[Zl 0,Z6 1]
abbrev T2:=TK L2
abbrev T0:=TK L0
abbrev T3:=TK L3
variable (ao:OA) (aj aq:Nat) (x1:Int)
abbrev bU (Kn Ke0:T2) (Kr:T0):T3->T3:=fun K2 ao aj aq x1 x5 h=>aM (x5<(aj:Int)) (aM (x1 ≥ 0) ((0<=x5/\x5<(aj:Int))/\(ae ao fun a1=>zI .i64 h ((a1.add (Int.toNat x5*3)).add 0) fun i2=>aM (i2=x1) (Kr x5 h) (bd .i64 (x5+(1:Int))/\(K2 ao aj aq x1 (x5+(1:Int)) h)))) (Ke0 h)) (Ke0 h)
abbrev cQ (Kn Ke0:T2) (Kr:T0):Nat->T3:=LP L3 (bU Kn Ke0 Kr)
variable (K:KV) (h:H)
abbrev asks (ao:OA) (aj aq:Nat) (x1:Int) (K:KV) (h:H):Prop:=cF L0 (fun Kr=>aA L1 (fun K4=>K4 ao aj aq x1 h) fun ao aj aq x1 h=>aA L2 (fun K1=>aA L3 (fun K3=>K3 ao aj aq x1 0 h) fun ao aj aq x1 x5 h=>iy L3 (bU K1 K1 Kr) fun K2=>K2 ao aj aq x1 x5 h) fun h=>Kr (-1) h) fun y4 h=>K (.int .i64 y4) h
theorem ok (q:asks ao aj aq x1 K h):zC 171 [.slice ao aj aq,.int .i64 x1] h K:=
 cl Tryz.func171 q (fun p q=>sq (l:=L1) p q fun p q=>sc (l:=L2) q (fun q=>sq (l:=L3) p q fun p q=>bl (b:=0) (lp p q fun p q=>lf p q)) fun p q=>lf p q) fun p q=>rt p q
end Xee
namespace V7
abbrev L2:List Sl:=[]
abbrev L3:=[Zl 0,Zs 1,Z6 5]
abbrev L0:=[Z6 4]
abbrev L1:=[Zl 0,Zs 1]
abbrev T2:=TK L2
abbrev T0:=TK L0
abbrev T3:=TK L3
variable (ao:OA) (aj aq:Nat) (x1:List UInt8)
abbrev bU (Kn Ke0:T2) (Kr:T0):T3->T3:=fun K2 ao aj aq x1 x5 h=>zC 176 [.slice ao aj aq] h fun v1 h2=>aL .i64 v1 fun i3=>aM (x5 ≥ i3) ((0<=x5/\x5<(aj:Int))/\(ae ao fun a4=>zT h2 ((a4.add (Int.toNat x5*3)).add 1) fun s5=>aM (s5=x1) (Kr x5 h2) (bd .i64 (x5 - (1:Int))/\(K2 ao aj aq x1 (x5 - (1:Int)) h2)))) (Ke0 h2)
abbrev cQ (Kn Ke0:T2) (Kr:T0):Nat->T3:=LP L3 (bU Kn Ke0 Kr)
variable (K:KV) (h:H)
abbrev asks (ao:OA) (aj aq:Nat) (x1:List UInt8) (K:KV) (h:H):Prop:=cF L0 (fun Kr=>aA L1 (fun K4=>K4 ao aj aq x1 h) fun ao aj aq x1 h=>aA L2 (fun K1=>aA L3 (fun K3=>bd .i64 ((aj:Int) - 1)/\(K3 ao aj aq x1 ((aj:Int) - 1) h)) fun ao aj aq x1 x5 h=>iy L3 (bU K1 K1 Kr) fun K2=>K2 ao aj aq x1 x5 h) fun h=>Kr (-1) h) fun y4 h=>K (.int .i64 y4) h
theorem ok (q:asks ao aj aq x1 K h):zC 170 [.slice ao aj aq,S x1] h K:=
 cl Tryz.func170 q (fun p q=>sq (l:=L1) p q fun p q=>sc (l:=L2) q (fun q=>sq (l:=L3) p q fun p q=>bl (b:=0) (lp p q fun p q=>lf p q)) fun p q=>lf p q) fun p q=>rt p q
end V7
namespace SO
abbrev L0:=[Zb 4]
abbrev L3:=[Za 2]
abbrev L6:=[Za 2,Zb 20]
abbrev L7:=[Z8 1,Za 2,Zb 20]
abbrev L5:=[Z8 1,Za 2,Zb 11]
abbrev L4:=[Z8 1,Za 2,Zb 5]
abbrev L2:=[Z8 1,Za 2]
abbrev T0:=TK L0
abbrev T3:=TK L3
abbrev T6:=TK L6
variable (cE cG:Int) (eu:List UInt8) (eP x1:Int) (x2:Addr) (yr:Bool)
abbrev n3 (Kn Kr:T0) (h:H):Prop:=
 zT h (x2.add 2) fun s1=>zC 157 [S [32,97,112,112,108,101,116,32,99,97,112,116,105,111,110,32,104,116,109,108,32,109,97,114,113,117,101,101,32,111,98,106,101,99,116,32,116,97,98,108,101,32,116,100,32,116,101,109,112,108,97,116,101,32,116,104,32],S s1] h fun v2 h3=>au v2 fun b4=>cond b4 (Kr true h3) (Kr false h3)
abbrev ui (Kn Ke0:T3) (Kr:T0) (h:H):Prop:=
 cond yr (Kr true h) (Kn x2 h)
abbrev JD (Kn:T6) (Ke0:T3) (Kr:T0) (h:H):Prop:=
 cond yr (Kn x2 yr h) (aM (x1=(2:Int)) (zI .i64 h (x2.add 0) fun i19=>zI .u8 h (x2.add 1) fun i20=>zT h (x2.add 2) fun s21=>zI .u8 h (x2.add 3) fun i22=>aw h #[S [98,117,116,116,111,110]] 9 fun a23 mC=>zC 179 [(.agg ⟨[.int .i64 i19,.int .u8 i20,S s21,.int .u8 i22]⟩),.slice (some a23) 1 1] mC fun v25 od=>au v25 fun b27=>cond b27 (Kn x2 true od) (Kn x2 false od)) (Kn x2 false h))
variable (K:KV) (h:H)
abbrev asks (cE cG:Int) (eu:List UInt8) (eP x1:Int) (K:KV) (h:H):Prop:=cF L0 (fun Kr=>aA L2 (fun K6=>aw h ⟨[.int .i64 cE,.int .u8 cG,S eu,.int .u8 eP]⟩ 77 fun Jn yq=>K6 x1 Jn yq) fun x1 x2 h=>aA L3 (fun K1=>aA L4 (fun K5=>aM (x1=(3:Int)) (K5 x1 x2 true h) (K5 x1 x2 false h)) fun x1 x2 x5 h=>cond x5 (zI .i64 h (x2.add 0) fun i5=>zI .u8 h (x2.add 1) fun i6=>zT h (x2.add 2) fun s7=>zI .u8 h (x2.add 3) fun i8=>aw h #[S [104,116,109,108],S [116,97,98,108,101],S [116,101,109,112,108,97,116,101]] 9 fun a9 df=>zC 179 [(.agg ⟨[.int .i64 i5,.int .u8 i6,S s7,.int .u8 i8]⟩),.slice (some a9) 3 3] df fun v11 eL=>au v11 fun F8=>cond F8 (Kr true eL) (Kr false eL)) (aA L5 (fun K4=>zI .u8 h (x2.add 1) fun i37=>aM (i37=(0:Int)) (K4 x1 x2 false h) (K4 x1 x2 true h)) fun x1 x2 ck h=>cond ck (zI .u8 h (x2.add 1) fun i14=>zT h (x2.add 2) fun Ex=>zC 162 [.int .u8 i14,S Ex] h fun oD fh=>au oD fun S9=>cond S9 (Kr true fh) (Kr false fh)) (aA L6 (fun K2=>aA L7 (fun K3=>aM (x1=(1:Int)) (zI .i64 h (x2.add 0) fun i28=>zI .u8 h (x2.add 1) fun i29=>zT h (x2.add 2) fun UX=>zI .u8 h (x2.add 3) fun i31=>aw h #[S [111,108],S [117,108]] 9 fun tw lW=>zC 179 [(.agg ⟨[.int .i64 i28,.int .u8 i29,S UX,.int .u8 i31]⟩),.slice (some tw) 2 2] lW fun zw qi=>au zw fun b36=>cond b36 (K3 x1 x2 true qi) (K3 x1 x2 false qi)) (K3 x1 x2 false h)) fun x1 x2 yr h=>JD x1 x2 yr K2 K1 Kr h) fun x2 yr h=>ui x2 yr K1 K1 Kr h))) fun x2 h=>n3 x2 Kr Kr h) fun y4 h=>K (.bool y4) h
theorem ok (q:asks cE cG eu eP x1 K h):zC 216 [(.agg ⟨[.int .i64 cE,.int .u8 cG,S eu,.int .u8 eP]⟩),.int .u8 x1] h K:=
 cl Tryz.func216 q (fun p q=>sq (l:=L2) p q fun p q=>sc (l:=L3) q (fun q=>bl (b:=0) (sq (l:=L4) p q fun p q=>cn (i:=5) p q (fun p q=>lf p q) fun p q=>sq (l:=L5) p q fun p q=>cn (i:=11) p q (fun p q=>lf p q) fun p q=>sc (l:=L6) q (fun q=>sq (l:=L7) p q fun p q=>lf p q) fun p q=>lf p q)) fun p q=>lf p q) fun p q=>rt p q
end SO
namespace Xcz
abbrev L0:=[Za 6]
abbrev L3:=[Za 4,Za 5,Za 6,Zr 10]
abbrev L2:=[Zl 0,Za 4,Za 5,Za 6]
abbrev asks (ao:OA) (aj aq:Nat) (x1:Int) (dz:OA) (dq dC:Nat) (K:KV) (h:H):Prop:=nF L0 (fun Kr=>nF L2 (fun K3=>aw h #[.int .u8 x1] 5 fun yp lY=>aw lY #[.slice dz dq dC] 104 fun Ow u3=>aw u3 #[.bool false] 4 fun a31 EC=>K3 ao aj aq yp Ow a31 [] EC) fun ao aj aq x4 x5 x6 ds h=>nF L0 (fun K1=>nF L3 (fun K2=>zC 178 [.slice ao aj aq] h fun v25 od=>K2 x4 x5 x6 v25 ds od) fun x4 x5 x6 bD ds h=>Oo Tryz.prog bD 2 [.o 11 .r,.g 12 [.i .i64,.i .u8,.s,.i .u8]] h (fun Fq NJ NK NL NM Mid Kc Fin h1=>aw h1 ⟨[.int .i64 0,.int .u8 0,S [],.int .u8 0]⟩ 77 fun a2 h3=>bc a2 [.int .i64 NJ,.int .u8 NK,S NL,.int .u8 NM] 0 h3 fun h4=>Mid h4 fun gN=>zI .i64 gN (a2.add 0) fun i6=>zI .u8 gN (a2.add 1) fun i7=>zT gN (a2.add 2) fun s8=>zI .u8 gN (a2.add 3) fun i9=>zS gN x5 fun jf iD kY=>zC 179 [(.agg ⟨[.int .i64 i6,.int .u8 i7,S s8,.int .u8 i9]⟩),.slice jf iD kY] gN fun v11 eL=>au v11 fun F8=>cond F8 (bc x6 [.bool true] 0 eL fun dx=>Fin gN dx fun gA=>Kr x6 (cu h.size::ds) gA) (zI .i64 eL (a2.add 0) fun i16=>zI .u8 eL (a2.add 1) fun i17=>zT eL (a2.add 2) fun Sr=>zI .u8 eL (a2.add 3) fun i19=>zI .u8 eL x4 fun i20=>zC 216 [(.agg ⟨[.int .i64 i16,.int .u8 i17,S Sr,.int .u8 i19]⟩),.int .u8 i20] eL fun v21 mB=>au v21 fun b23=>cond b23 (Fin gN mB fun mC=>K1 x6 (cu h.size::ds) mC) (Kc gN mB))) (fun h4=>K1 x6 (cu h.size::ds) h4)) fun x6 ds h=>bc x6 [.bool false] 0 h fun h1=>Kr x6 ds h1) fun y6 ds h=>dE ds h fun h=>zB h y6 fun U2=>K (.bool U2) h
theorem ok (ao:OA) (aj aq:Nat) (x1:Int) (dz:OA) (dq dC:Nat) (K:KV) (h:H) (hS:asks ao aj aq x1 dz dq dC K h):zC 191 [.slice ao aj aq,.int .u8 x1,.slice dz dq dC] h K:=
 Qe Tryz.func191 hS (fun hg hS=>BG (l:=L2) hg hS fun hg hS=>Ss (l:=L0) hS (fun hS=>BG (l:=L3) hg hS fun hg hS=>bl (b:=0) (Qf (.tmp 10) #[11,12] hg hS)) fun hg hS=>Qg hg hS) fun hg hS=>Qh hg hS
end Xcz
namespace Xea
abbrev L3:=[Z8 1,Za 2,Zl 5]
abbrev L2:=[Z8 1,Za 2]
abbrev L0:=[Zb 4]
variable (cE cG:Int) (eu:List UInt8) (eP x1:Int)
variable (K:KV) (h:H)
abbrev asks (cE cG:Int) (eu:List UInt8) (eP x1:Int) (K:KV) (h:H):Prop:=cF L0 (fun Kr=>aA L2 (fun K5=>aw h ⟨[.int .i64 cE,.int .u8 cG,S eu,.int .u8 eP]⟩ 77 fun Gy lX=>K5 x1 Gy lX) fun x1 x2 h=>aA L2 (fun K4=>aM (x1=(3:Int)) (zI .i64 h (x2.add 0) fun i27=>zI .u8 h (x2.add 1) fun i28=>zT h (x2.add 2) fun ZX=>zI .u8 h (x2.add 3) fun i30=>aw h #[S [104,116,109,108],S [116,97,98,108,101],S [116,101,109,112,108,97,116,101]] 9 fun a31 EC=>zC 181 [(.agg ⟨[.int .i64 i27,.int .u8 i28,S ZX,.int .u8 i30]⟩),.slice (some a31) 3 3] EC fun Ot tY=>au Ot fun b35=>cond b35 (Kr true tY) (Kr false tY)) (K4 x1 x2 h)) fun x1 x2 h=>aA L2 (fun K3=>zI .u8 h (x2.add 1) fun i21=>aM (i21=(0:Int)) (K3 x1 x2 h) (zI .u8 h (x2.add 1) fun i22=>zT h (x2.add 2) fun VF=>zC 177 [.int .u8 i22,S VF] h fun v24 iF=>au v24 fun UT=>cond UT (Kr true iF) (Kr false iF))) fun x1 x2 h=>aA L3 (fun K2=>aw h #[S [97,112,112,108,101,116],S [99,97,112,116,105,111,110],S [104,116,109,108],S [109,97,114,113,117,101,101],S [111,98,106,101,99,116],S [116,97,98,108,101],S [116,100],S [116,101,109,112,108,97,116,101],S [116,104]] 9 fun jh gm=>K2 x1 x2 (some jh) 9 9 gm) fun x1 x2 ud uY tl h=>aA L3 (fun K1=>aM (x1=(1:Int)) (aw h #[S [111,108],S [117,108]] 9 fun lE gA=>aZ Tryz.prog (Builtin.append_ #[104,104] 104 ⟨[.slice ud uY tl,.slice (some lE) 2 2]⟩) gA fun oD fh=>aB oD fun gC fw fT=>K1 x1 x2 gC fw fT fh) (K1 x1 x2 ud uY tl h)) fun x1 x2 ud uY tl h=>aM (x1=(2:Int)) (aw h #[S [98,117,116,116,111,110]] 9 fun a1 h2=>aZ Tryz.prog (Builtin.append_ #[104,104] 104 ⟨[.slice ud uY tl,.slice (some a1) 1 1]⟩) h2 fun v3 h4=>aB v3 fun BL Aa F9=>zT h4 (x2.add 2) fun s6=>zC 174 [.slice BL Aa F9,S s6] h4 fun v7 h8=>au v7 fun b9=>cond b9 (Kr true h8) (Kr false h8)) (zT h (x2.add 2) fun oY=>zC 174 [.slice ud uY tl,S oY] h fun v11 eL=>au v11 fun F8=>cond F8 (Kr true eL) (Kr false eL))) fun y4 h=>K (.bool y4) h
theorem ok (q:asks cE cG eu eP x1 K h):zC 205 [(.agg ⟨[.int .i64 cE,.int .u8 cG,S eu,.int .u8 eP]⟩),.int .u8 x1] h K:=
 cl Tryz.func205 q (fun p q=>sq p q fun p q=>sq p q fun p q=>sq p q fun p q=>sq p q fun p q=>sq p q fun p q=>lf p q) fun p q=>rt p q
end Xea
namespace Xd6
abbrev L2:List Sl:=[]
abbrev L3:=[Zl 0,Z8 1,Zl 2,Z6 7]
abbrev L0:=[Zb 6]
abbrev L1:=[Zl 0,Z8 1,Zl 2]
abbrev T2:=TK L2
abbrev T0:=TK L0
abbrev T3:=TK L3
variable (ao:OA) (aj aq:Nat) (x1:Int) (dz:OA) (dq dC:Nat)
abbrev bU (Kn Ke0:T2) (Kr:T0):T3->T3:=fun K2 ao aj aq x1 dz dq dC x7 h=>aM (x7 ≥ 0) ((0<=x7/\x7<(aj:Int))/\(ae ao fun a1=>zI .i64 h (((a1.add (Int.toNat x7*4))).add 0) fun i2=>zI .u8 h (((a1.add (Int.toNat x7*4))).add 1) fun i3=>zT h (((a1.add (Int.toNat x7*4))).add 2) fun s4=>zI .u8 h (((a1.add (Int.toNat x7*4))).add 3) fun i5=>zC 181 [(.agg ⟨[.int .i64 i2,.int .u8 i3,S s4,.int .u8 i5]⟩),.slice dz dq dC] h fun v6 h7=>au v6 fun b8=>cond b8 (Kr true h7) ((0<=x7/\x7<(aj:Int))/\(ae ao fun a9=>zI .i64 h7 (((a9.add (Int.toNat x7*4))).add 0) fun i10=>zI .u8 h7 (((a9.add (Int.toNat x7*4))).add 1) fun i11=>zT h7 (((a9.add (Int.toNat x7*4))).add 2) fun jU=>zI .u8 h7 (((a9.add (Int.toNat x7*4))).add 3) fun i13=>zC 205 [(.agg ⟨[.int .i64 i10,.int .u8 i11,S jU,.int .u8 i13]⟩),.int .u8 x1] h7 fun qO gA=>au qO fun Z0=>cond Z0 (Kr false gA) (bd .i64 (x7 - (1:Int))/\(K2 ao aj aq x1 dz dq dC (x7 - (1:Int)) gA)))))) (Ke0 h)
abbrev cQ (Kn Ke0:T2) (Kr:T0):Nat->T3:=LP L3 (bU Kn Ke0 Kr)
variable (K:KV) (h:H)
abbrev asks (ao:OA) (aj aq:Nat) (x1:Int) (dz:OA) (dq dC:Nat) (K:KV) (h:H):Prop:=cF L0 (fun Kr=>aA L1 (fun K4=>K4 ao aj aq x1 dz dq dC h) fun ao aj aq x1 dz dq dC h=>aA L2 (fun K1=>aA L3 (fun K3=>bd .i64 ((aj:Int) - 1)/\(K3 ao aj aq x1 dz dq dC ((aj:Int) - 1) h)) fun ao aj aq x1 dz dq dC x7 h=>iy L3 (bU K1 K1 Kr) fun K2=>K2 ao aj aq x1 dz dq dC x7 h) fun h=>Kr false h) fun y6 h=>K (.bool y6) h
theorem ok (q:asks ao aj aq x1 dz dq dC K h):zC 168 [.slice ao aj aq,.int .u8 x1,.slice dz dq dC] h K:=
 cl Tryz.func168 q (fun p q=>sq (l:=L1) p q fun p q=>sc (l:=L2) q (fun q=>sq (l:=L3) p q fun p q=>bl (b:=0) (lp p q fun p q=>lf p q)) fun p q=>lf p q) fun p q=>rt p q
end Xd6
namespace Xd8
abbrev L2:List Sl:=[]
abbrev L6:=[Zs 1,Z8 5,Zb 11]
abbrev L4:=[Zs 1,Z8 5,Zb 6]
abbrev L3:=[Zs 1,Z8 5]
abbrev L1:=[Z8 0,Zs 1]
abbrev L0:=[Zb 4]
variable (x0:Int) (x1:List UInt8)
variable (K:KV) (h:H)
abbrev asks (x0:Int) (x1:List UInt8) (K:KV) (h:H):Prop:=cF L0 (fun Kr=>aA L1 (fun K5=>K5 x0 x1 h) fun x0 x1 h=>aA L2 (fun K1=>aA L3 (fun K4=>K4 x1 x0 h) fun x1 x5 h=>aA L4 (fun K3=>aM (x5=(0:Int)) (K3 x1 x5 true h) (K3 x1 x5 false h)) fun x1 x5 x6 h=>cond x6 (aw h #[S [97,100,100,114,101,115,115],S [97,112,112,108,101,116],S [97,114,101,97],S [97,114,116,105,99,108,101],S [97,115,105,100,101],S [98,97,115,101],S [98,97,115,101,102,111,110,116],S [98,103,115,111,117,110,100],S [98,108,111,99,107,113,117,111,116,101],S [98,111,100,121],S [98,114],S [98,117,116,116,111,110],S [99,97,112,116,105,111,110],S [99,101,110,116,101,114],S [99,111,108],S [99,111,108,103,114,111,117,112],S [100,100],S [100,101,116,97,105,108,115],S [100,105,97,108,111,103],S [100,105,114],S [100,105,118],S [100,108],S [100,116],S [101,109,98,101,100],S [102,105,101,108,100,115,101,116],S [102,105,103,99,97,112,116,105,111,110],S [102,105,103,117,114,101],S [102,111,111,116,101,114],S [102,111,114,109],S [102,114,97,109,101],S [102,114,97,109,101,115,101,116],S [104,49],S [104,50],S [104,51],S [104,52],S [104,53],S [104,54],S [104,101,97,100],S [104,101,97,100,101,114],S [104,103,114,111,117,112],S [104,114],S [104,116,109,108],S [105,102,114,97,109,101],S [105,109,103],S [105,110,112,117,116],S [107,101,121,103,101,110],S [108,105],S [108,105,110,107],S [108,105,115,116,105,110,103],S [109,97,105,110],S [109,97,114,113,117,101,101],S [109,101,110,117],S [109,101,116,97],S [110,97,118],S [110,111,101,109,98,101,100],S [110,111,102,114,97,109,101,115],S [110,111,115,99,114,105,112,116],S [111,98,106,101,99,116],S [111,108],S [112],S [112,97,114,97,109],S [112,108,97,105,110,116,101,120,116],S [112,114,101],S [115,99,114,105,112,116],S [115,101,97,114,99,104],S [115,101,99,116,105,111,110],S [115,101,108,101,99,116],S [115,111,117,114,99,101],S [115,116,121,108,101],S [115,117,109,109,97,114,121],S [116,97,98,108,101],S [116,98,111,100,121],S [116,100],S [116,101,109,112,108,97,116,101],S [116,101,120,116,97,114,101,97],S [116,102,111,111,116],S [116,104],S [116,104,101,97,100],S [116,105,116,108,101],S [116,114],S [116,114,97,99,107],S [117,108],S [119,98,114],S [120,109,112]] 9 fun a1 h2=>zC 174 [.slice (some a1) 84 84,S x1] h2 fun v3 h4=>au v3 fun b5=>cond b5 (Kr true h4) (Kr false h4)) (aA L6 (fun K2=>aM (x5=(2:Int)) (K2 x1 x5 true h) (K2 x1 x5 false h)) fun x1 x5 ck h=>cond ck (aw h #[S [97,110,110,111,116,97,116,105,111,110,45,120,109,108],S [109,105],S [109,110],S [109,111],S [109,115],S [109,116,101,120,116]] 9 fun a6 h7=>zC 174 [.slice (some a6) 6 6,S x1] h7 fun v8 h9=>au v8 fun QC=>cond QC (Kr true h9) (Kr false h9)) (aM (x5=(1:Int)) (aw h #[S [100,101,115,99],S [102,111,114,101,105,103,110,79,98,106,101,99,116],S [116,105,116,108,101]] 9 fun jC eL=>zC 174 [.slice (some jC) 3 3,S x1] eL fun mu dx=>au mu fun Jm=>cond Jm (Kr true dx) (Kr false dx)) (K1 h)))) fun h=>Kr false h) fun y4 h=>K (.bool y4) h
theorem ok (q:asks x0 x1 K h):zC 177 [.int .u8 x0,S x1] h K:=
 cl Tryz.func177 q (fun p q=>sq p q fun p q=>sc q (fun q=>sq p q fun p q=>bl (b:=0) (sq p q fun p q=>cn (i:=6) p q (fun p q=>lf p q) fun p q=>sq p q fun p q=>lf p q)) fun p q=>lf p q) fun p q=>rt p q
end Xd8
namespace Xd5
abbrev L0:=[Z6 4]
abbrev L3:=[Z6 5]
abbrev L2:=[Zl 0,Zs 1,Z6 5]
abbrev L1:=[Zl 0,Zs 1]
abbrev T0:=TK L0
abbrev T3:=TK L3
abbrev T2:=TK L2
variable (ao:OA) (aj aq:Nat) (x1:List UInt8) (x5:Int)
abbrev n4 (Kn Kr:T0) (h:H):Prop:=
 Kr x5 h
abbrev bU (Kn Ke0:T3) (Kr:T0):T2->T2:=fun K2 ao aj aq x1 x5 h=>aM (x5>(0:Int)) (bd .i64 (x5 - (1:Int))/\((0<=(x5 - (1:Int))/\(x5 - (1:Int))<(aj:Int))/\(ae ao fun a1=>zT h ((a1.add (Int.toNat (x5 - (1:Int))*4)).add 2) fun s2=>aM (s2=x1) (Ke0 x5 h) (bd .i64 (x5 - (1:Int))/\((0<=(x5 - (1:Int))/\(x5 - (1:Int))<(aj:Int))/\(ae ao fun a3=>zI .i64 h (((a3.add (Int.toNat (x5 - (1:Int))*4))).add 0) fun i4=>zI .u8 h (((a3.add (Int.toNat (x5 - (1:Int))*4))).add 1) fun i5=>zT h (((a3.add (Int.toNat (x5 - (1:Int))*4))).add 2) fun s6=>zI .u8 h (((a3.add (Int.toNat (x5 - (1:Int))*4))).add 3) fun i7=>aw h #[S [100,100],S [100,116],S [108,105],S [111,112,116,103,114,111,117,112],S [111,112,116,105,111,110],S [112],S [114,98],S [114,112],S [114,116],S [114,116,99]] 9 fun a8 h9=>zC 181 [(.agg ⟨[.int .i64 i4,.int .u8 i5,S s6,.int .u8 i7]⟩),.slice (some a8) 10 10] h9 fun v10 eG=>au v10 fun QS=>cond QS (bd .i64 (x5 - (1:Int))/\(K2 ao aj aq x1 (x5 - (1:Int)) eG)) (Ke0 x5 eG))))))) (Ke0 x5 h)
abbrev cQ (Kn Ke0:T3) (Kr:T0):Nat->T2:=LP L2 (bU Kn Ke0 Kr)
variable (K:KV) (h:H)
abbrev asks (ao:OA) (aj aq:Nat) (x1:List UInt8) (K:KV) (h:H):Prop:=cF L0 (fun Kr=>aA L1 (fun K4=>K4 ao aj aq x1 h) fun ao aj aq x1 h=>aA L2 (fun K3=>K3 ao aj aq x1 (aj:Int) h) fun ao aj aq x1 x5 h=>aA L3 (fun K1=>iy L2 (bU K1 K1 Kr) fun K2=>K2 ao aj aq x1 x5 h) fun x5 h=>n4 x5 Kr Kr h) fun y4 h=>K (.int .i64 y4) h
theorem ok (q:asks ao aj aq x1 K h):zC 169 [.slice ao aj aq,S x1] h K:=
 cl Tryz.func169 q (fun p q=>sq (l:=L1) p q fun p q=>sq (l:=L2) p q fun p q=>sc (l:=L3) q (fun q=>bl (b:=0) (lp p q fun p q=>lf p q)) fun p q=>lf p q) fun p q=>rt p q
end Xd5
namespace Oj
abbrev L0:=[Zb 6]
abbrev L6:=[Zp 0,Z6 2,Zl 10]
abbrev L7:=[Zp 0,Z6 2,Zl 10,Z6 11]
abbrev L5:=[Zp 0,Z6 1,Z6 2,Zl 10]
abbrev L1:=[Zp 0,Z6 1,Z6 2]
abbrev L4:=[Zp 0,Z6 1,Z6 2,Zb 9]
abbrev L3:=[Zp 0,Z6 1,Z6 2,Zb 7,Zb 8]
abbrev L2:=[Zp 0,Z6 1,Z6 2,Zb 7]
abbrev T0:=TK L0
abbrev T6:=TK L6
abbrev T7:=TK L7
variable (x0:OA) (x1 x2:Int) (tn:OA) (rN ue:Nat)
abbrev rZ (Kn Kr:T0) (h:H):Prop:=
 (ae x0 fun a1=>ae x0 fun a2=>zS h (a2.add 0) fun Ai uX yv=>(0<=x2/\x2<(uX:Int))/\(ae Ai fun a4=>zS h ((a4.add (Int.toNat x2*8)).add 7) fun BL Aa F9=>aZ Tryz.prog (Builtin.append_ #[82,82] 82 ⟨[.slice BL Aa F9,.slice tn rN ue]⟩) h fun v6 h7=>aB v6 fun rT rJ vq=>zS h7 (a1.add 0) fun yu vU BP=>(0<=x2/\x2<(vU:Int))/\(ae yu fun jB=>bc ((jB.add (Int.toNat x2*8)).add 7) [.slice rT rJ vq] 0 h7 fun eG=>Kr true eG)))/\(ae x0 fun a12=>zS h (a12.add 0) fun jK jv lg=>ae x0 fun lE=>zS h (lE.add 0) fun kH kX oz=>(0<=x2/\x2<(kX:Int))/\(ae kH fun pv=>zS h ((pv.add (Int.toNat x2*8)).add 7) fun qx oB qy=>aZ Tryz.prog (Builtin.append_ #[82,82] 82 ⟨[.slice qx oB qy,.slice tn rN ue]⟩) h fun HP qs=>aB HP fun qz pA sS=>(0<=x2/\x2<(jv:Int))/\(ae jK fun a21=>bc ((a21.add (Int.toNat x2*8)).add 7) [.slice qz pA sS] 0 qs fun mB=>Kr true mB)))
abbrev SP (Kn Ke0:T6) (Kr:T0):T7->T7:=fun K2 x0 x2 tn rN ue ck h=>aM (ck<(rN:Int)) (ae x0 fun a23=>zS h (a23.add 0) fun F4 F5 My=>(0<=ck/\ck<(rN:Int))/\(ae tn fun a25=>zI .i64 h (a25.add (Int.toNat ck*1)) fun i26=>(0<=i26/\i26<(F5:Int))/\(ae F4 fun yp=>bc ((yp.add (Int.toNat i26*8)).add 6) [.int .i64 x2] 0 h fun lY=>bd .i64 (ck+(1:Int))/\(K2 x0 x2 tn rN ue (ck+(1:Int)) lY)))) (Ke0 x0 x2 tn rN ue h)
abbrev G6 (Kn Ke0:T6) (Kr:T0):Nat->T7:=LP L7 (SP Kn Ke0 Kr)
variable (K:KV) (h:H)
abbrev asks (x0:OA) (x1 x2:Int) (K:KV) (h:H):Prop:=cF L0 (fun Kr=>aA L1 (fun re=>re x0 x1 x2 h) fun x0 x1 x2 h=>aA L2 (fun lV=>zC 125 [.pointer x0,.int .i64 x1] h fun UR DT=>au UR fun b49=>cond b49 (lV x0 x1 x2 true DT) (lV x0 x1 x2 false DT)) fun x0 x1 x2 x7 h=>aA L3 (fun K9=>zC 134 [.pointer x0,.int .i64 x2] h fun I8 uO=>au I8 fun b46=>cond b46 (K9 x0 x1 x2 x7 true uO) (K9 x0 x1 x2 x7 false uO)) fun x0 x1 x2 x7 x8 h=>aA L1 (fun K8=>cond x7 (cond x8 (ae x0 fun a40=>zS h (a40.add 0) fun V5 V6 aaJ=>(0<=x1/\x1<(V6:Int))/\(ae V5 fun QU=>zS h ((QU.add (Int.toNat x1*8)).add 7) fun Jo GC NN=>aM ((GC:Int)=0) (Kr false h) (K8 x0 x1 x2 h))) (Kr false h)) (Kr false h)) fun x0 x1 x2 h=>aA L4 (fun K7=>zC 164 [.pointer x0,.int .i64 x2,.int .i64 x1] h fun v37 Cd=>au v37 fun b39=>cond b39 (K7 x0 x1 x2 true Cd) (K7 x0 x1 x2 false Cd)) fun x0 x1 x2 x9 h=>aA L1 (fun K6=>cond x9 (Kr false h) (K6 x0 x1 x2 h)) fun x0 x1 x2 h=>aA L5 (fun K5=>ae x0 fun EF=>zS h (EF.add 0) fun xx xy yV=>(0<=x1/\x1<(xy:Int))/\(ae xx fun NI=>zS h ((NI.add (Int.toNat x1*8)).add 7) fun UY UZ U0=>K5 x0 x1 x2 UY UZ U0 h)) fun x0 x1 x2 tn rN ue h=>aA L6 (fun K4=>ae x0 fun Ow=>zS h (Ow.add 0) fun BM BN DZ=>(0<=x1/\x1<(BN:Int))/\(ae BM fun a31=>bc ((a31.add (Int.toNat x1*8)).add 7) [.slice none 0 0] 0 h fun EC=>K4 x0 x2 tn rN ue EC)) fun x0 x2 tn rN ue h=>aA L6 (fun K1=>aA L7 (fun K3=>K3 x0 x2 tn rN ue 0 h) fun x0 x2 tn rN ue ck h=>iy L7 (SP K1 K1 Kr) fun K2=>K2 x0 x2 tn rN ue ck h) fun x0 x2 tn rN ue h=>rZ x0 x2 tn rN ue Kr Kr h) fun y6 h=>K (.bool y6) h
theorem ok (q:asks x0 x1 x2 K h):zC 230 [.pointer x0,.int .i64 x1,.int .i64 x2] h K:=
 cl Tryz.func230 q (fun p q=>sq (l:=L1) p q fun p q=>sq (l:=L2) p q fun p q=>sq (l:=L3) p q fun p q=>sq (l:=L1) p q fun p q=>sq (l:=L4) p q fun p q=>sq (l:=L1) p q fun p q=>sq (l:=L5) p q fun p q=>sq (l:=L6) p q fun p q=>sc (l:=L6) q (fun q=>sq (l:=L7) p q fun p q=>bl (b:=0) (lp p q fun p q=>lf p q)) fun p q=>lf p q) fun p q=>rt p q
end Oj
namespace Xf4
abbrev L0:=[Zl 6]
variable (ao:OA) (aj aq:Nat) (x1 x2:Int)
variable (K:KV) (h:H)
abbrev asks:Prop:=cF L0 (fun Kr=>(0<=x1/\x1<=x2/\x2<=(aj:Int)/\(aj:Int)<=(aq:Int))/\(aM (x1=x2) (Kr ao aj aq h) ((0<=(0:Int)/\0<=x1/\x1<=(aq:Int))/\((0<=x2/\x2<=(aj:Int)/\(aj:Int)<=(aq:Int))/\(aZ Tryz.prog (Builtin.append_ #[40,40] 40 ⟨[(.slice (if aq=Int.toNat 0 then ao else Option.map (fun q=>q.add (Int.toNat (0:Int)*3)) ao) (Int.toNat x1 - Int.toNat 0) (aq - Int.toNat 0)),(.slice (if aq=Int.toNat x2 then ao else Option.map (fun q=>q.add (Int.toNat x2*3)) ao) (Int.toNat (aj:Int) - Int.toNat x2) (aq - Int.toNat x2))]⟩) h fun v1 h2=>aB v1 fun Ai uX yv=>(0<=(uX:Int)/\(uX:Int)<=(aj:Int)/\(aj:Int)<=(yv:Int))/\(aZ Tryz.prog (Builtin.clear_ #[40] 0 ⟨[(.slice (if yv=Int.toNat (uX:Int) then Ai else Option.map (fun q=>q.add (Int.toNat (uX:Int)*3)) Ai) (Int.toNat (aj:Int) - Int.toNat (uX:Int)) (yv - Int.toNat (uX:Int)))]⟩) h2 fun v4 h5=>Kr Ai uX yv h5)))))) fun VY VZ V0 h=>K (.slice VY VZ V0) h
theorem ok (q:asks ao aj aq x1 x2 K h):zC 237 [.slice ao aj aq,.int .i64 x1,.int .i64 x2] h K:=
 cl Tryz.func237 q (fun p q=>lf p q) fun p q=>rt p q
end Xf4
namespace Xgc
abbrev L3:=[Zl 0,Z6 1,Zl 2,Z6 7,Z6 8]
abbrev L4:=[Zl 0,Z6 1,Zl 2,Z6 7,Z6 8,Zb 68]
abbrev L5:=[Zl 0,Z6 1,Zl 2,Z6 7,Z6 8,Zb 31]
abbrev L2:=[Zl 0,Z6 1,Zl 2,Z6 7]
abbrev L1:=[Zl 0,Z6 1,Zl 2]
abbrev L0:=[Zl 6]
variable (ao:OA) (aj aq:Nat) (x1:Int) (dz:OA) (dq dC:Nat)
variable (K:KV) (h:H)
abbrev asks (ao:OA) (aj aq:Nat) (x1:Int) (dz:OA) (dq dC:Nat) (K:KV) (h:H):Prop:=cF L0 (fun Kr=>aA L1 (fun re=>re ao aj aq x1 dz dq dC h) fun ao aj aq x1 dz dq dC h=>aA L1 (fun lV=>(0<=x1/\x1<=(aj:Int)/\(aj:Int)<=(aq:Int))/\(lV ao aj aq x1 dz dq dC h)) fun ao aj aq x1 dz dq dC h=>aA L2 (fun K9=>K9 ao aj aq x1 dz dq dC (dq:Int) h) fun ao aj aq x1 dz dq dC x7 h=>aA L2 (fun K8=>aM (x7=(0:Int)) (Kr ao aj aq h) (K8 ao aj aq x1 dz dq dC x7 h)) fun ao aj aq x1 dz dq dC x7 h=>aA L3 (fun K7=>K7 ao aj aq x1 dz dq dC x7 (aj:Int) h) fun ao aj aq x1 dz dq dC x7 x8 h=>aA L3 (fun K6=>aM (x1=x8) (aZ Tryz.prog (Builtin.append_ #[40,40] 40 ⟨[.slice ao aj aq,.slice dz dq dC]⟩) h fun v28 uW=>aB v28 fun BM BN DZ=>Kr BM BN DZ uW) (K6 ao aj aq x1 dz dq dC x7 x8 h)) fun ao aj aq x1 dz dq dC x7 x8 h=>aA L3 (fun K4=>aA L5 (fun K5=>bd .i64 (x8+x7)/\(aZ Tryz.prog (Builtin.cap_ #[40] 3 ⟨[.slice ao aj aq]⟩) h fun v25 od=>aL .i64 v25 fun i27=>aM ((x8+x7)>i27) (K5 ao aj aq x1 dz dq dC x7 x8 true od) (K5 ao aj aq x1 dz dq dC x7 x8 false od))) fun ao aj aq x1 dz dq dC x7 x8 V8 h=>cond V8 ((0<=(0:Int)/\0<=x1/\x1<=(aq:Int))/\(bd .i64 (x8+x7)/\(bd .i64 ((x8+x7) - x1)/\(aZ Tryz.prog (Builtin.append_ #[40,3] 40 ⟨[(.slice (if aq=Int.toNat 0 then ao else Option.map (fun q=>q.add (Int.toNat (0:Int)*3)) ao) (Int.toNat x1 - Int.toNat 0) (aq - Int.toNat 0)),.int .i64 ((x8+x7) - x1)]⟩) h fun oD fh=>aB oD fun gC fw fT=>(0<=x1/\x1<=(fw:Int)/\(fw:Int)<=(fT:Int))/\(aZ Tryz.prog (Builtin.copy_ #[40,40] 3 ⟨[(.slice (if fT=Int.toNat x1 then gC else Option.map (fun q=>q.add (Int.toNat x1*3)) gC) (Int.toNat (fw:Int) - Int.toNat x1) (fT - Int.toNat x1)),.slice dz dq dC]⟩) fh fun xv gm=>aL .i64 xv fun i21=>bd .i64 (x1+x7)/\((0<=(x1+x7)/\(x1+x7)<=(fw:Int)/\(fw:Int)<=(fT:Int))/\((0<=x1/\x1<=(aj:Int)/\(aj:Int)<=(aq:Int))/\(aZ Tryz.prog (Builtin.copy_ #[40,40] 3 ⟨[(.slice (if fT=Int.toNat (x1+x7) then gC else Option.map (fun q=>q.add (Int.toNat (x1+x7)*3)) gC) (Int.toNat (fw:Int) - Int.toNat (x1+x7)) (fT - Int.toNat (x1+x7))),(.slice (if aq=Int.toNat x1 then ao else Option.map (fun q=>q.add (Int.toNat x1*3)) ao) (Int.toNat (aj:Int) - Int.toNat x1) (aq - Int.toNat x1))]⟩) gm fun v22 qu=>aL .i64 v22 fun i24=>Kr gC fw fT qu)))))))) (K4 ao aj aq x1 dz dq dC x7 x8 h)) fun ao aj aq x1 dz dq dC x7 x8 h=>aA L3 (fun K3=>bd .i64 (x8+x7)/\((0<=(0:Int)/\0<=(x8+x7)/\(x8+x7)<=(aq:Int))/\(K3 (if aq=Int.toNat 0 then ao else Option.map (fun q=>q.add (Int.toNat (0:Int)*3)) ao) (Int.toNat (x8+x7) - Int.toNat 0) (aq - Int.toNat 0) x1 dz dq dC x7 x8 h))) fun ao aj aq x1 dz dq dC x7 x8 h=>aA L3 (fun K1=>aA L4 (fun K2=>bd .i64 (x1+x7)/\((0<=(x1+x7)/\(x1+x7)<=(aj:Int)/\(aj:Int)<=(aq:Int))/\(aZ Tryz.prog (Extern.SlicesOverlaps.overlaps #[40,40] #[4] ⟨[.slice dz dq dC,(.slice (if aq=Int.toNat (x1+x7) then ao else Option.map (fun q=>q.add (Int.toNat (x1+x7)*3)) ao) (Int.toNat (aj:Int) - Int.toNat (x1+x7)) (aq - Int.toNat (x1+x7)))]⟩) h fun mu dx=>au mu fun Jm=>cond Jm (K2 ao aj aq x1 dz dq dC x7 x8 false dx) (K2 ao aj aq x1 dz dq dC x7 x8 true dx)))) fun ao aj aq x1 dz dq dC x7 x8 x68 h=>cond x68 (bd .i64 (x1+x7)/\((0<=(x1+x7)/\(x1+x7)<=(aj:Int)/\(aj:Int)<=(aq:Int))/\((0<=x1/\x1<=(aj:Int)/\(aj:Int)<=(aq:Int))/\(aZ Tryz.prog (Builtin.copy_ #[40,40] 3 ⟨[(.slice (if aq=Int.toNat (x1+x7) then ao else Option.map (fun q=>q.add (Int.toNat (x1+x7)*3)) ao) (Int.toNat (aj:Int) - Int.toNat (x1+x7)) (aq - Int.toNat (x1+x7))),(.slice (if aq=Int.toNat x1 then ao else Option.map (fun q=>q.add (Int.toNat x1*3)) ao) (Int.toNat (aj:Int) - Int.toNat x1) (aq - Int.toNat x1))]⟩) h fun v6 h7=>aL .i64 v6 fun i8=>(0<=x1/\x1<=(aj:Int)/\(aj:Int)<=(aq:Int))/\(aZ Tryz.prog (Builtin.copy_ #[40,40] 3 ⟨[(.slice (if aq=Int.toNat x1 then ao else Option.map (fun q=>q.add (Int.toNat x1*3)) ao) (Int.toNat (aj:Int) - Int.toNat x1) (aq - Int.toNat x1)),.slice dz dq dC]⟩) h7 fun v9 df=>aL .i64 v9 fun i11=>Kr ao aj aq df))))) (K1 ao aj aq x1 dz dq dC x7 x8 h)) fun ao aj aq x1 dz dq dC x7 x8 h=>(0<=x8/\x8<=(aj:Int)/\(aj:Int)<=(aq:Int))/\(aZ Tryz.prog (Builtin.copy_ #[40,40] 3 ⟨[(.slice (if aq=Int.toNat x8 then ao else Option.map (fun q=>q.add (Int.toNat x8*3)) ao) (Int.toNat (aj:Int) - Int.toNat x8) (aq - Int.toNat x8)),.slice dz dq dC]⟩) h fun v1 h2=>aL .i64 v1 fun i3=>(0<=x1/\x1<=(aj:Int)/\(aj:Int)<=(aq:Int))/\(zC 247 [(.slice (if aq=Int.toNat x1 then ao else Option.map (fun q=>q.add (Int.toNat x1*3)) ao) (Int.toNat (aj:Int) - Int.toNat x1) (aq - Int.toNat x1)),.int .i64 x7] h2 fun v4 h5=>Kr ao aj aq h5))) fun VY VZ V0 h=>K (.slice VY VZ V0) h
theorem ok (q:asks ao aj aq x1 dz dq dC K h):zC 240 [.slice ao aj aq,.int .i64 x1,.slice dz dq dC] h K:=
 cl Tryz.func240 q (fun p q=>sq p q fun p q=>sq p q fun p q=>sq p q fun p q=>sq p q fun p q=>sq p q fun p q=>sq p q fun p q=>sc q (fun q=>sq p q fun p q=>lf p q) fun p q=>sq p q fun p q=>sc q (fun q=>sq p q fun p q=>lf p q) fun p q=>lf p q) fun p q=>rt p q
end Xgc
namespace Xgd
abbrev L3:=[Zl 0,Z6 1,Zl 2,Z6 7,Z6 8]
abbrev L4:=[Zl 0,Z6 1,Zl 2,Z6 7,Z6 8,Zb 68]
abbrev L5:=[Zl 0,Z6 1,Zl 2,Z6 7,Z6 8,Zb 31]
abbrev L2:=[Zl 0,Z6 1,Zl 2,Z6 7]
abbrev L1:=[Zl 0,Z6 1,Zl 2]
abbrev L0:=[Zl 6]
variable (ao:OA) (aj aq:Nat) (x1:Int) (dz:OA) (dq dC:Nat)
variable (K:KV) (h:H)
abbrev asks (ao:OA) (aj aq:Nat) (x1:Int) (dz:OA) (dq dC:Nat) (K:KV) (h:H):Prop:=cF L0 (fun Kr=>aA L1 (fun re=>re ao aj aq x1 dz dq dC h) fun ao aj aq x1 dz dq dC h=>aA L1 (fun lV=>(0<=x1/\x1<=(aj:Int)/\(aj:Int)<=(aq:Int))/\(lV ao aj aq x1 dz dq dC h)) fun ao aj aq x1 dz dq dC h=>aA L2 (fun K9=>K9 ao aj aq x1 dz dq dC (dq:Int) h) fun ao aj aq x1 dz dq dC x7 h=>aA L2 (fun K8=>aM (x7=(0:Int)) (Kr ao aj aq h) (K8 ao aj aq x1 dz dq dC x7 h)) fun ao aj aq x1 dz dq dC x7 h=>aA L3 (fun K7=>K7 ao aj aq x1 dz dq dC x7 (aj:Int) h) fun ao aj aq x1 dz dq dC x7 x8 h=>aA L3 (fun K6=>aM (x1=x8) (aZ Tryz.prog (Builtin.append_ #[39,39] 39 ⟨[.slice ao aj aq,.slice dz dq dC]⟩) h fun v28 uW=>aB v28 fun BM BN DZ=>Kr BM BN DZ uW) (K6 ao aj aq x1 dz dq dC x7 x8 h)) fun ao aj aq x1 dz dq dC x7 x8 h=>aA L3 (fun K4=>aA L5 (fun K5=>bd .i64 (x8+x7)/\(aZ Tryz.prog (Builtin.cap_ #[39] 3 ⟨[.slice ao aj aq]⟩) h fun v25 od=>aL .i64 v25 fun i27=>aM ((x8+x7)>i27) (K5 ao aj aq x1 dz dq dC x7 x8 true od) (K5 ao aj aq x1 dz dq dC x7 x8 false od))) fun ao aj aq x1 dz dq dC x7 x8 V8 h=>cond V8 ((0<=(0:Int)/\0<=x1/\x1<=(aq:Int))/\(bd .i64 (x8+x7)/\(bd .i64 ((x8+x7) - x1)/\(aZ Tryz.prog (Builtin.append_ #[39,3] 39 ⟨[(.slice (if aq=Int.toNat 0 then ao else Option.map (fun q=>q.add (Int.toNat (0:Int)*4)) ao) (Int.toNat x1 - Int.toNat 0) (aq - Int.toNat 0)),.int .i64 ((x8+x7) - x1)]⟩) h fun oD fh=>aB oD fun gC fw fT=>(0<=x1/\x1<=(fw:Int)/\(fw:Int)<=(fT:Int))/\(aZ Tryz.prog (Builtin.copy_ #[39,39] 3 ⟨[(.slice (if fT=Int.toNat x1 then gC else Option.map (fun q=>q.add (Int.toNat x1*4)) gC) (Int.toNat (fw:Int) - Int.toNat x1) (fT - Int.toNat x1)),.slice dz dq dC]⟩) fh fun xv gm=>aL .i64 xv fun i21=>bd .i64 (x1+x7)/\((0<=(x1+x7)/\(x1+x7)<=(fw:Int)/\(fw:Int)<=(fT:Int))/\((0<=x1/\x1<=(aj:Int)/\(aj:Int)<=(aq:Int))/\(aZ Tryz.prog (Builtin.copy_ #[39,39] 3 ⟨[(.slice (if fT=Int.toNat (x1+x7) then gC else Option.map (fun q=>q.add (Int.toNat (x1+x7)*4)) gC) (Int.toNat (fw:Int) - Int.toNat (x1+x7)) (fT - Int.toNat (x1+x7))),(.slice (if aq=Int.toNat x1 then ao else Option.map (fun q=>q.add (Int.toNat x1*4)) ao) (Int.toNat (aj:Int) - Int.toNat x1) (aq - Int.toNat x1))]⟩) gm fun v22 qu=>aL .i64 v22 fun i24=>Kr gC fw fT qu)))))))) (K4 ao aj aq x1 dz dq dC x7 x8 h)) fun ao aj aq x1 dz dq dC x7 x8 h=>aA L3 (fun K3=>bd .i64 (x8+x7)/\((0<=(0:Int)/\0<=(x8+x7)/\(x8+x7)<=(aq:Int))/\(K3 (if aq=Int.toNat 0 then ao else Option.map (fun q=>q.add (Int.toNat (0:Int)*4)) ao) (Int.toNat (x8+x7) - Int.toNat 0) (aq - Int.toNat 0) x1 dz dq dC x7 x8 h))) fun ao aj aq x1 dz dq dC x7 x8 h=>aA L3 (fun K1=>aA L4 (fun K2=>bd .i64 (x1+x7)/\((0<=(x1+x7)/\(x1+x7)<=(aj:Int)/\(aj:Int)<=(aq:Int))/\(aZ Tryz.prog (Extern.SlicesOverlaps.overlaps #[39,39] #[4] ⟨[.slice dz dq dC,(.slice (if aq=Int.toNat (x1+x7) then ao else Option.map (fun q=>q.add (Int.toNat (x1+x7)*4)) ao) (Int.toNat (aj:Int) - Int.toNat (x1+x7)) (aq - Int.toNat (x1+x7)))]⟩) h fun mu dx=>au mu fun Jm=>cond Jm (K2 ao aj aq x1 dz dq dC x7 x8 false dx) (K2 ao aj aq x1 dz dq dC x7 x8 true dx)))) fun ao aj aq x1 dz dq dC x7 x8 x68 h=>cond x68 (bd .i64 (x1+x7)/\((0<=(x1+x7)/\(x1+x7)<=(aj:Int)/\(aj:Int)<=(aq:Int))/\((0<=x1/\x1<=(aj:Int)/\(aj:Int)<=(aq:Int))/\(aZ Tryz.prog (Builtin.copy_ #[39,39] 3 ⟨[(.slice (if aq=Int.toNat (x1+x7) then ao else Option.map (fun q=>q.add (Int.toNat (x1+x7)*4)) ao) (Int.toNat (aj:Int) - Int.toNat (x1+x7)) (aq - Int.toNat (x1+x7))),(.slice (if aq=Int.toNat x1 then ao else Option.map (fun q=>q.add (Int.toNat x1*4)) ao) (Int.toNat (aj:Int) - Int.toNat x1) (aq - Int.toNat x1))]⟩) h fun v6 h7=>aL .i64 v6 fun i8=>(0<=x1/\x1<=(aj:Int)/\(aj:Int)<=(aq:Int))/\(aZ Tryz.prog (Builtin.copy_ #[39,39] 3 ⟨[(.slice (if aq=Int.toNat x1 then ao else Option.map (fun q=>q.add (Int.toNat x1*4)) ao) (Int.toNat (aj:Int) - Int.toNat x1) (aq - Int.toNat x1)),.slice dz dq dC]⟩) h7 fun v9 df=>aL .i64 v9 fun i11=>Kr ao aj aq df))))) (K1 ao aj aq x1 dz dq dC x7 x8 h)) fun ao aj aq x1 dz dq dC x7 x8 h=>(0<=x8/\x8<=(aj:Int)/\(aj:Int)<=(aq:Int))/\(aZ Tryz.prog (Builtin.copy_ #[39,39] 3 ⟨[(.slice (if aq=Int.toNat x8 then ao else Option.map (fun q=>q.add (Int.toNat x8*4)) ao) (Int.toNat (aj:Int) - Int.toNat x8) (aq - Int.toNat x8)),.slice dz dq dC]⟩) h fun v1 h2=>aL .i64 v1 fun i3=>(0<=x1/\x1<=(aj:Int)/\(aj:Int)<=(aq:Int))/\(zC 249 [(.slice (if aq=Int.toNat x1 then ao else Option.map (fun q=>q.add (Int.toNat x1*4)) ao) (Int.toNat (aj:Int) - Int.toNat x1) (aq - Int.toNat x1)),.int .i64 x7] h2 fun v4 h5=>Kr ao aj aq h5))) fun VY VZ V0 h=>K (.slice VY VZ V0) h
theorem ok (q:asks ao aj aq x1 dz dq dC K h):zC 241 [.slice ao aj aq,.int .i64 x1,.slice dz dq dC] h K:=
 cl Tryz.func241 q (fun p q=>sq p q fun p q=>sq p q fun p q=>sq p q fun p q=>sq p q fun p q=>sq p q fun p q=>sq p q fun p q=>sc q (fun q=>sq p q fun p q=>lf p q) fun p q=>sq p q fun p q=>sc q (fun q=>sq p q fun p q=>lf p q) fun p q=>lf p q) fun p q=>rt p q
end Xgd
namespace Xdr
abbrev L2:=[Zp 0,Z6 1,Zb 5]
abbrev L1:=[Zp 0,Z6 1]
abbrev L0:=[Z6 4]
variable (x0:OA) (x1:Int)
variable (K:KV) (h:H)
abbrev asks (x0:OA) (x1:Int) (K:KV) (h:H):Prop:=cF L0 (fun Kr=>aA L1 (fun K2=>K2 x0 x1 h) fun x0 x1 h=>aA L2 (fun K1=>zC 125 [.pointer x0,.int .i64 x1] h fun mu dx=>au mu fun Jm=>cond Jm (K1 x0 x1 true dx) (K1 x0 x1 false dx)) fun x0 x1 x5 h=>cond x5 (aM (x1=(0:Int)) (Kr (-1) h) (ae x0 fun a1=>zS h (a1.add 0) fun lN kW oy=>(0<=x1/\x1<(kW:Int))/\(ae lN fun a3=>zI .u8 h ((((a3.add (Int.toNat x1*8)).add 0)).add 0) fun i4=>zI .u8 h ((((a3.add (Int.toNat x1*8)).add 0)).add 1) fun i5=>zT h ((((a3.add (Int.toNat x1*8)).add 0)).add 2) fun s6=>zS h ((((a3.add (Int.toNat x1*8)).add 0)).add 3) fun yU Ab yt=>zT h ((((a3.add (Int.toNat x1*8)).add 0)).add 4) fun s8=>zS h ((((a3.add (Int.toNat x1*8)).add 0)).add 5) fun yu vU BP=>zC 105 [.pointer x0,(.agg ⟨[.int .u8 i4,.int .u8 i5,S s6,.slice yU Ab yt,S s8,.slice yu vU BP]⟩)] h fun v10 eG=>aL .i64 v10 fun i12=>Kr i12 eG))) (Kr (-1) h)) fun y4 h=>K (.int .i64 y4) h
theorem ok (q:asks x0 x1 K h):zC 229 [.pointer x0,.int .i64 x1] h K:=
 cl Tryz.func229 q (fun p q=>sq p q fun p q=>sq p q fun p q=>lf p q) fun p q=>rt p q
end Xdr
end Go.Proofs
