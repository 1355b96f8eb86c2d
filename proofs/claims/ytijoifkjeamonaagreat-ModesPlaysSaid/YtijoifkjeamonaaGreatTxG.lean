/- Own text. No condition. -/
import Derived.Test.YtijoifkjeamonaaGreatHc
import Derived.Test.YtijoifkjeamonaaGreatShR
import Derived.Test.YtijoifkjeamonaaGreatProg
namespace Go.Proofs
open Go Go.Sh
set_option linter.unusedVariables false
set_option maxRecDepth 100000
namespace Xga
abbrev L2:List Sl:=[]
abbrev L3:=[Zl 0,Zr 1,Z6 7,Z6 8]
abbrev L0:=[Z6 4]
abbrev L1:=[Zl 0,Zr 1]
abbrev T2:=TK L2
abbrev T0:=TK L0
abbrev T3:=TK L3
variable (ao:OA) (aj aq:Nat) (x1:Value)
abbrev bS (Kn Ke0:T2) (Kr:T0):T3->T3:=fun K2 ao aj aq x1 x7 x8 h=>aO (x8<x7) ((0<=x8/\x8<(aj:Int))/\(ae ao fun a1=>zI .i64 h (((a1.add (Int.toNat x8*3))).add 0) fun i2=>zT h (((a1.add (Int.toNat x8*3))).add 1) fun s3=>zS h (((a1.add (Int.toNat x8*3))).add 2) fun mB mC sB=>fT Tryz.prog 4 x1 ⟨[(.agg ⟨[.int .i64 i2,S s3,.slice mB mC sB]⟩)]⟩ h fun v5 h6=>au v5 fun b7=>cond b7 (Kr x8 h6) (bc .i64 (x8+(1:Int))/\(K2 ao aj aq x1 x7 (x8+(1:Int)) h6)))) (Ke0 h)
abbrev cR (Kn Ke0:T2) (Kr:T0):Nat->T3:=LP L3 (bS Kn Ke0 Kr)
variable (K:KV) (h:H)
abbrev asks (ao:OA) (aj aq:Nat) (x1:Value) (K:KV) (h:H):Prop:=cF L0 (fun Kr=>aB L1 (fun K4=>K4 ao aj aq x1 h) fun ao aj aq x1 h=>aB L2 (fun K1=>aB L3 (fun K3=>K3 ao aj aq x1 (aj:Int) 0 h) fun ao aj aq x1 x7 x8 h=>il L3 (bS K1 K1 Kr) fun K2=>K2 ao aj aq x1 x7 x8 h) fun h=>Kr (-1) h) fun y4 h=>K (.int .i64 y4) h
theorem ok (q:asks ao aj aq x1 K h):zC 193 [.slice ao aj aq,x1] h K:=
 cl Tryz.func193 q (fun p q=>sq (l:=L1) p q fun p q=>sc (l:=L2) q (fun q=>sq (l:=L3) p q fun p q=>bl (b:=0) (lp p q fun p q=>lf p q)) fun p q=>lf p q) fun p q=>rt p q
end Xga
namespace Xa8
abbrev L0:=[Zb 3]
variable (cz:Int) (cD:List UInt8) (kX:OA) (kY kZ:Nat) (x1:Addr)
variable (K:KV) (h:H)
abbrev asks:Prop:=cF L0 (fun Kr=>aw h ⟨[.int .i64 cz,S cD,.slice kX kY kZ]⟩ 79 fun a1 h2=>zI .i64 h2 (a1.add 0) fun i3=>zI .i64 h2 x1 fun i4=>aO (i3=i4) (Kr true h2) (Kr false h2)) fun y3 h=>K (.bool y3) h
theorem ok (q:asks cz cD kX kY kZ x1 K h):zC 221 [(.agg ⟨[.int .i64 cz,S cD,.slice kX kY kZ]⟩),.pointer (some x1)] h K:=
 cl Tryz.func221 q (fun p q=>lf p q) fun p q=>rt p q
end Xa8
namespace Xa7
abbrev L0:=[Z6 4]
variable (ao:OA) (aj aq:Nat) (x1:Int)
variable (K:KV) (h:H)
abbrev asks:Prop:=cF L0 (fun Kr=>aw h #[.int .i64 x1] 3 fun a1 h2=>zI .i64 h2 a1 fun i3=>aO (i3<(0:Int)) (Kr (-1) h2) (zC 193 [.slice ao aj aq,(.func (.func 221) ⟨[]⟩ ⟨[.pointer (some a1)]⟩)] h2 fun v4 h5=>aL .i64 v4 fun i6=>Kr i6 h5)) fun y4 h=>K (.int .i64 y4) h
theorem ok (q:asks ao aj aq x1 K h):zC 201 [.slice ao aj aq,.int .i64 x1] h K:=
 cl Tryz.func201 q (fun p q=>lf p q) fun p q=>rt p q
end Xa7
namespace Xa9
abbrev L0:=[Za 4]
abbrev L3:=[Za 3,Za 4,Zr 8]
abbrev L2:=[Zl 0,Za 3,Za 4]
abbrev T0:=TD L0
abbrev n5 (x4:Addr) (ds:List Deferred) (Kn Kr:T0) (h:H):Prop:=
 aZ x4 [.int .i64 (-1)] 0 h fun h1=>Kr x4 ds h1
abbrev asks (ao:OA) (aj aq:Nat) (x1:List UInt8) (K:KV) (h:H):Prop:=nQ L0 (fun Kr=>nQ L2 (fun K4=>aw h #[S x1] 9 fun lS fZ=>aw fZ #[.int .i64 0] 3 fun pM fF=>K4 ao aj aq lS pM [] fF) fun ao aj aq x3 x4 ds h=>nQ L2 (fun K3=>K3 ao aj aq x3 x4 ds h) fun ao aj aq x3 x4 ds h=>nQ L0 (fun K1=>nQ L3 (fun K2=>zC 136 [.slice ao aj aq] h fun v12 fi=>K2 x3 x4 v12 ds fi) fun x3 x4 x8 ds h=>Oe Tryz.prog x8 2 [.o 9 (.i .i64),.g 10 [.i .i64,.s,.l]] h (fun p9 tf tg Gv Gw Gx Mid Kc Fin h1=>aw h1 ⟨[.int .i64 0,S [],.slice none 0 0]⟩ 79 fun a2 h3=>aZ a2 [.int .i64 tf,S tg,.slice Gv Gw Gx] 0 h3 fun h4=>Mid h4 fun gW=>zI .i64 gW (a2.add 0) fun i6=>aO (i6<(0:Int)) (Fin gW gW fun h7=>K1 x4 (cr h.size::ds) h7) (zT gW (a2.add 1) fun s8=>zT gW x3 fun s9=>aO (s8=s9) (aZ x4 [.int .i64 p9] 0 gW fun cS=>Fin gW cS fun eF=>Kr x4 (cr h.size::ds) eF) (Kc gW gW))) (fun h4=>K1 x4 (cr h.size::ds) h4)) fun x4 ds h=>n5 x4 ds Kr Kr h) fun y4 ds h=>dE ds h fun h=>zI .i64 h y4 fun i18=>K (.int .i64 i18) h
theorem ok (ao:OA) (aj aq:Nat) (x1:List UInt8) (K:KV) (h:H) (hS:asks ao aj aq x1 K h):zC 152 [.slice ao aj aq,S x1] h K:=
 P3 Tryz.func152 hS (fun hg hS=>BC (l:=L2) hg hS fun hg hS=>so (BC (l:=L2) hg hS fun hg hS=>Sa (l:=L0) hS (fun hS=>BC (l:=L3) hg hS fun hg hS=>bl (b:=0) (P4 (.tmp 8) #[9,10] hg hS)) fun hg hS=>P5 hg hS)) fun hg hS=>P6 hg hS
end Xa9
namespace Xeg
abbrev L2:List Sl:=[]
abbrev L3:=[Zl 0,Z6 1,Z6 5]
abbrev L0:=[Z6 4]
abbrev L1:=[Zl 0,Z6 1]
abbrev T2:=TK L2
abbrev T0:=TK L0
abbrev T3:=TK L3
variable (ao:OA) (aj aq:Nat) (x1:Int)
abbrev bS (Kn Ke0:T2) (Kr:T0):T3->T3:=fun K2 ao aj aq x1 x5 h=>aO (x5<(aj:Int)) (aO (x1 ≥ 0) ((0<=x5/\x5<(aj:Int))/\(ae ao fun a1=>zI .i64 h ((a1.add (Int.toNat x5*3)).add 0) fun i2=>aO (i2=x1) (Kr x5 h) (bc .i64 (x5+(1:Int))/\(K2 ao aj aq x1 (x5+(1:Int)) h)))) (Ke0 h)) (Ke0 h)
abbrev cR (Kn Ke0:T2) (Kr:T0):Nat->T3:=LP L3 (bS Kn Ke0 Kr)
variable (K:KV) (h:H)
abbrev asks (ao:OA) (aj aq:Nat) (x1:Int) (K:KV) (h:H):Prop:=cF L0 (fun Kr=>aB L1 (fun K4=>K4 ao aj aq x1 h) fun ao aj aq x1 h=>aB L2 (fun K1=>aB L3 (fun K3=>K3 ao aj aq x1 0 h) fun ao aj aq x1 x5 h=>il L3 (bS K1 K1 Kr) fun K2=>K2 ao aj aq x1 x5 h) fun h=>Kr (-1) h) fun y4 h=>K (.int .i64 y4) h
theorem ok (q:asks ao aj aq x1 K h):zC 171 [.slice ao aj aq,.int .i64 x1] h K:=
 cl Tryz.func171 q (fun p q=>sq (l:=L1) p q fun p q=>sc (l:=L2) q (fun q=>sq (l:=L3) p q fun p q=>bl (b:=0) (lp p q fun p q=>lf p q)) fun p q=>lf p q) fun p q=>rt p q
end Xeg
namespace VS
abbrev L2:List Sl:=[]
abbrev L3:=[Zl 0,Zs 1,Z6 5]
abbrev L0:=[Z6 4]
abbrev L1:=[Zl 0,Zs 1]
abbrev T2:=TK L2
abbrev T0:=TK L0
abbrev T3:=TK L3
variable (ao:OA) (aj aq:Nat) (x1:List UInt8)
abbrev bS (Kn Ke0:T2) (Kr:T0):T3->T3:=fun K2 ao aj aq x1 x5 h=>zC 176 [.slice ao aj aq] h fun v1 h2=>aL .i64 v1 fun i3=>aO (x5 ≥ i3) ((0<=x5/\x5<(aj:Int))/\(ae ao fun a4=>zT h2 ((a4.add (Int.toNat x5*3)).add 1) fun s5=>aO (s5=x1) (Kr x5 h2) (bc .i64 (x5 - (1:Int))/\(K2 ao aj aq x1 (x5 - (1:Int)) h2)))) (Ke0 h2)
abbrev cR (Kn Ke0:T2) (Kr:T0):Nat->T3:=LP L3 (bS Kn Ke0 Kr)
variable (K:KV) (h:H)
abbrev asks (ao:OA) (aj aq:Nat) (x1:List UInt8) (K:KV) (h:H):Prop:=cF L0 (fun Kr=>aB L1 (fun K4=>K4 ao aj aq x1 h) fun ao aj aq x1 h=>aB L2 (fun K1=>aB L3 (fun K3=>bc .i64 ((aj:Int) - 1)/\(K3 ao aj aq x1 ((aj:Int) - 1) h)) fun ao aj aq x1 x5 h=>il L3 (bS K1 K1 Kr) fun K2=>K2 ao aj aq x1 x5 h) fun h=>Kr (-1) h) fun y4 h=>K (.int .i64 y4) h
theorem ok (q:asks ao aj aq x1 K h):zC 170 [.slice ao aj aq,S x1] h K:=
 cl Tryz.func170 q (fun p q=>sq (l:=L1) p q fun p q=>sc (l:=L2) q (fun q=>sq (l:=L3) p q fun p q=>bl (b:=0) (lp p q fun p q=>lf p q)) fun p q=>lf p q) fun p q=>rt p q
end VS
namespace SC
abbrev L0:=[Zb 4]
abbrev L3:=[Za 2]
abbrev L6:=[Za 2,Zb 20]
abbrev L7:=[Z8 1,Za 2,Zb 20]
abbrev L5:=[Z8 1,Za 2,Zb 11]
abbrev L4:=[Z8 1,Za 2,Zb 5]
abbrev L2:=[Z8 1,Za 2]
abbrev T0:=TK L0
abbrev T3:=TK L3
abbrev T6:=TK L6
variable (cz cD:Int) (eA:List UInt8) (eQ x1:Int) (x2:Addr) (yt:Bool)
abbrev n3 (Kn Kr:T0) (h:H):Prop:=
 zT h (x2.add 2) fun s1=>zC 157 [S [32,97,112,112,108,101,116,32,99,97,112,116,105,111,110,32,104,116,109,108,32,109,97,114,113,117,101,101,32,111,98,106,101,99,116,32,116,97,98,108,101,32,116,100,32,116,101,109,112,108,97,116,101,32,116,104,32],S s1] h fun v2 h3=>au v2 fun b4=>cond b4 (Kr true h3) (Kr false h3)
abbrev uy (Kn Ke0:T3) (Kr:T0) (h:H):Prop:=
 cond yt (Kr true h) (Kn x2 h)
abbrev Ju (Kn:T6) (Ke0:T3) (Kr:T0) (h:H):Prop:=
 cond yt (Kn x2 yt h) (aO (x1=(2:Int)) (zI .i64 h (x2.add 0) fun i19=>zI .u8 h (x2.add 1) fun i20=>zT h (x2.add 2) fun s21=>zI .u8 h (x2.add 3) fun i22=>aw h #[S [98,117,116,116,111,110]] 9 fun a23 lX=>zC 179 [(.agg ⟨[.int .i64 i19,.int .u8 i20,S s21,.int .u8 i22]⟩),.slice (some a23) 1 1] lX fun v25 oC=>au v25 fun ZJ=>cond ZJ (Kn x2 true oC) (Kn x2 false oC)) (Kn x2 false h))
variable (K:KV) (h:H)
abbrev asks (cz cD:Int) (eA:List UInt8) (eQ x1:Int) (K:KV) (h:H):Prop:=cF L0 (fun Kr=>aB L2 (fun K6=>aw h ⟨[.int .i64 cz,.int .u8 cD,S eA,.int .u8 eQ]⟩ 77 fun Ny yr=>K6 x1 Ny yr) fun x1 x2 h=>aB L3 (fun K1=>aB L4 (fun K5=>aO (x1=(3:Int)) (K5 x1 x2 true h) (K5 x1 x2 false h)) fun x1 x2 x5 h=>cond x5 (zI .i64 h (x2.add 0) fun i5=>zI .u8 h (x2.add 1) fun i6=>zT h (x2.add 2) fun s7=>zI .u8 h (x2.add 3) fun i8=>aw h #[S [104,116,109,108],S [116,97,98,108,101],S [116,101,109,112,108,97,116,101]] 9 fun a9 cS=>zC 179 [(.agg ⟨[.int .i64 i5,.int .u8 i6,S s7,.int .u8 i8]⟩),.slice (some a9) 3 3] cS fun v11 eM=>au v11 fun F8=>cond F8 (Kr true eM) (Kr false eM)) (aB L5 (fun K4=>zI .u8 h (x2.add 1) fun i37=>aO (i37=(0:Int)) (K4 x1 x2 false h) (K4 x1 x2 true h)) fun x1 x2 cg h=>cond cg (zI .u8 h (x2.add 1) fun i14=>zT h (x2.add 2) fun Ep=>zC 162 [.int .u8 i14,S Ep] h fun oT fF=>au oT fun b18=>cond b18 (Kr true fF) (Kr false fF)) (aB L6 (fun K2=>aB L7 (fun K3=>aO (x1=(1:Int)) (zI .i64 h (x2.add 0) fun i28=>zI .u8 h (x2.add 1) fun i29=>zT h (x2.add 2) fun US=>zI .u8 h (x2.add 3) fun i31=>aw h #[S [111,108],S [117,108]] 9 fun tH mq=>zC 179 [(.agg ⟨[.int .i64 i28,.int .u8 i29,S US,.int .u8 i31]⟩),.slice (some tH) 2 2] mq fun zt qz=>au zt fun b36=>cond b36 (K3 x1 x2 true qz) (K3 x1 x2 false qz)) (K3 x1 x2 false h)) fun x1 x2 yt h=>Ju x1 x2 yt K2 K1 Kr h) fun x2 yt h=>uy x2 yt K1 K1 Kr h))) fun x2 h=>n3 x2 Kr Kr h) fun y4 h=>K (.bool y4) h
theorem ok (q:asks cz cD eA eQ x1 K h):zC 216 [(.agg ⟨[.int .i64 cz,.int .u8 cD,S eA,.int .u8 eQ]⟩),.int .u8 x1] h K:=
 cl Tryz.func216 q (fun p q=>sq (l:=L2) p q fun p q=>sc (l:=L3) q (fun q=>bl (b:=0) (sq (l:=L4) p q fun p q=>cn (i:=5) p q (fun p q=>lf p q) fun p q=>sq (l:=L5) p q fun p q=>cn (i:=11) p q (fun p q=>lf p q) fun p q=>sc (l:=L6) q (fun q=>sq (l:=L7) p q fun p q=>lf p q) fun p q=>lf p q)) fun p q=>lf p q) fun p q=>rt p q
end SC
namespace Xcz
abbrev L0:=[Za 6]
abbrev L3:=[Za 4,Za 5,Za 6,Zr 10]
abbrev L2:=[Zl 0,Za 4,Za 5,Za 6]
abbrev asks (ao:OA) (aj aq:Nat) (x1:Int) (dx:OA) (dq dz:Nat) (K:KV) (h:H):Prop:=nQ L0 (fun Kr=>nQ L2 (fun K3=>aw h #[.int .u8 x1] 5 fun zU lK=>aw lK #[.slice dx dq dz] 104 fun Sv tO=>aw tO #[.bool false] 4 fun a31 Ez=>K3 ao aj aq zU Sv a31 [] Ez) fun ao aj aq x4 x5 x6 ds h=>nQ L0 (fun K1=>nQ L3 (fun K2=>zC 178 [.slice ao aj aq] h fun v25 oC=>K2 x4 x5 x6 v25 ds oC) fun x4 x5 x6 bD ds h=>Oe Tryz.prog bD 2 [.o 11 .r,.g 12 [.i .i64,.i .u8,.s,.i .u8]] h (fun Fs Nz NA NB NC Mid Kc Fin h1=>aw h1 ⟨[.int .i64 0,.int .u8 0,S [],.int .u8 0]⟩ 77 fun a2 h3=>aZ a2 [.int .i64 Nz,.int .u8 NA,S NB,.int .u8 NC] 0 h3 fun h4=>Mid h4 fun gW=>zI .i64 gW (a2.add 0) fun i6=>zI .u8 gW (a2.add 1) fun i7=>zT gW (a2.add 2) fun s8=>zI .u8 gW (a2.add 3) fun i9=>zS gW x5 fun jS jl mW=>zC 179 [(.agg ⟨[.int .i64 i6,.int .u8 i7,S s8,.int .u8 i9]⟩),.slice jS jl mW] gW fun v11 eM=>au v11 fun F8=>cond F8 (aZ x6 [.bool true] 0 eM fun dA=>Fin gW dA fun fZ=>Kr x6 (cr h.size::ds) fZ) (zI .i64 eM (a2.add 0) fun i16=>zI .u8 eM (a2.add 1) fun i17=>zT eM (a2.add 2) fun R9=>zI .u8 eM (a2.add 3) fun i19=>zI .u8 eM x4 fun i20=>zC 216 [(.agg ⟨[.int .i64 i16,.int .u8 i17,S R9,.int .u8 i19]⟩),.int .u8 i20] eM fun v21 lN=>au v21 fun VT=>cond VT (Fin gW lN fun lX=>K1 x6 (cr h.size::ds) lX) (Kc gW lN))) (fun h4=>K1 x6 (cr h.size::ds) h4)) fun x6 ds h=>aZ x6 [.bool false] 0 h fun h1=>Kr x6 ds h1) fun y6 ds h=>dE ds h fun h=>zB h y6 fun UY=>K (.bool UY) h
theorem ok (ao:OA) (aj aq:Nat) (x1:Int) (dx:OA) (dq dz:Nat) (K:KV) (h:H) (hS:asks ao aj aq x1 dx dq dz K h):zC 191 [.slice ao aj aq,.int .u8 x1,.slice dx dq dz] h K:=
 P3 Tryz.func191 hS (fun hg hS=>BC (l:=L2) hg hS fun hg hS=>Sa (l:=L0) hS (fun hS=>BC (l:=L3) hg hS fun hg hS=>bl (b:=0) (P4 (.tmp 10) #[11,12] hg hS)) fun hg hS=>P5 hg hS) fun hg hS=>P6 hg hS
end Xcz
namespace Xec
abbrev L3:=[Z8 1,Za 2,Zl 5]
abbrev L2:=[Z8 1,Za 2]
abbrev L0:=[Zb 4]
variable (cz cD:Int) (eA:List UInt8) (eQ x1:Int)
variable (K:KV) (h:H)
abbrev asks (cz cD:Int) (eA:List UInt8) (eQ x1:Int) (K:KV) (h:H):Prop:=cF L0 (fun Kr=>aB L2 (fun K5=>aw h ⟨[.int .i64 cz,.int .u8 cD,S eA,.int .u8 eQ]⟩ 77 fun Ji mr=>K5 x1 Ji mr) fun x1 x2 h=>aB L2 (fun K4=>aO (x1=(3:Int)) (zI .i64 h (x2.add 0) fun i27=>zI .u8 h (x2.add 1) fun i28=>zT h (x2.add 2) fun Zw=>zI .u8 h (x2.add 3) fun i30=>aw h #[S [104,116,109,108],S [116,97,98,108,101],S [116,101,109,112,108,97,116,101]] 9 fun a31 Ez=>zC 181 [(.agg ⟨[.int .i64 i27,.int .u8 i28,S Zw,.int .u8 i30]⟩),.slice (some a31) 3 3] Ez fun Sd zZ=>au Sd fun b35=>cond b35 (Kr true zZ) (Kr false zZ)) (K4 x1 x2 h)) fun x1 x2 h=>aB L2 (fun K3=>zI .u8 h (x2.add 1) fun i21=>aO (i21=(0:Int)) (K3 x1 x2 h) (zI .u8 h (x2.add 1) fun i22=>zT h (x2.add 2) fun Vs=>zC 177 [.int .u8 i22,S Vs] h fun v24 iG=>au v24 fun UP=>cond UP (Kr true iG) (Kr false iG))) fun x1 x2 h=>aB L3 (fun K2=>aw h #[S [97,112,112,108,101,116],S [99,97,112,116,105,111,110],S [104,116,109,108],S [109,97,114,113,117,101,101],S [111,98,106,101,99,116],S [116,97,98,108,101],S [116,100],S [116,101,109,112,108,97,116,101],S [116,104]] 9 fun jK gx=>K2 x1 x2 (some jK) 9 9 gx) fun x1 x2 uq u7 tC h=>aB L3 (fun K1=>aO (x1=(1:Int)) (aw h #[S [111,108],S [117,108]] 9 fun lS fZ=>bf Tryz.prog (Builtin.append_ #[104,104] 104 ⟨[.slice uq u7 tC,.slice (some lS) 2 2]⟩) fZ fun oT fF=>aA oT fun gL fA fW=>K1 x1 x2 gL fA fW fF) (K1 x1 x2 uq u7 tC h)) fun x1 x2 uq u7 tC h=>aO (x1=(2:Int)) (aw h #[S [98,117,116,116,111,110]] 9 fun a1 h2=>bf Tryz.prog (Builtin.append_ #[104,104] 104 ⟨[.slice uq u7 tC,.slice (some a1) 1 1]⟩) h2 fun v3 h4=>aA v3 fun BG zX F9=>zT h4 (x2.add 2) fun s6=>zC 174 [.slice BG zX F9,S s6] h4 fun v7 h8=>au v7 fun b9=>cond b9 (Kr true h8) (Kr false h8)) (zT h (x2.add 2) fun pv=>zC 174 [.slice uq u7 tC,S pv] h fun v11 eM=>au v11 fun F8=>cond F8 (Kr true eM) (Kr false eM))) fun y4 h=>K (.bool y4) h
theorem ok (q:asks cz cD eA eQ x1 K h):zC 205 [(.agg ⟨[.int .i64 cz,.int .u8 cD,S eA,.int .u8 eQ]⟩),.int .u8 x1] h K:=
 cl Tryz.func205 q (fun p q=>sq p q fun p q=>sq p q fun p q=>sq p q fun p q=>sq p q fun p q=>sq p q fun p q=>lf p q) fun p q=>rt p q
end Xec
namespace Xd8
abbrev L2:List Sl:=[]
abbrev L3:=[Zl 0,Z8 1,Zl 2,Z6 7]
abbrev L0:=[Zb 6]
abbrev L1:=[Zl 0,Z8 1,Zl 2]
abbrev T2:=TK L2
abbrev T0:=TK L0
abbrev T3:=TK L3
variable (ao:OA) (aj aq:Nat) (x1:Int) (dx:OA) (dq dz:Nat)
abbrev bS (Kn Ke0:T2) (Kr:T0):T3->T3:=fun K2 ao aj aq x1 dx dq dz x7 h=>aO (x7 ≥ 0) ((0<=x7/\x7<(aj:Int))/\(ae ao fun a1=>zI .i64 h (((a1.add (Int.toNat x7*4))).add 0) fun i2=>zI .u8 h (((a1.add (Int.toNat x7*4))).add 1) fun i3=>zT h (((a1.add (Int.toNat x7*4))).add 2) fun s4=>zI .u8 h (((a1.add (Int.toNat x7*4))).add 3) fun i5=>zC 181 [(.agg ⟨[.int .i64 i2,.int .u8 i3,S s4,.int .u8 i5]⟩),.slice dx dq dz] h fun v6 h7=>au v6 fun b8=>cond b8 (Kr true h7) ((0<=x7/\x7<(aj:Int))/\(ae ao fun a9=>zI .i64 h7 (((a9.add (Int.toNat x7*4))).add 0) fun i10=>zI .u8 h7 (((a9.add (Int.toNat x7*4))).add 1) fun i11=>zT h7 (((a9.add (Int.toNat x7*4))).add 2) fun j9=>zI .u8 h7 (((a9.add (Int.toNat x7*4))).add 3) fun i13=>zC 205 [(.agg ⟨[.int .i64 i10,.int .u8 i11,S j9,.int .u8 i13]⟩),.int .u8 x1] h7 fun oU fZ=>au oU fun b16=>cond b16 (Kr false fZ) (bc .i64 (x7 - (1:Int))/\(K2 ao aj aq x1 dx dq dz (x7 - (1:Int)) fZ)))))) (Ke0 h)
abbrev cR (Kn Ke0:T2) (Kr:T0):Nat->T3:=LP L3 (bS Kn Ke0 Kr)
variable (K:KV) (h:H)
abbrev asks (ao:OA) (aj aq:Nat) (x1:Int) (dx:OA) (dq dz:Nat) (K:KV) (h:H):Prop:=cF L0 (fun Kr=>aB L1 (fun K4=>K4 ao aj aq x1 dx dq dz h) fun ao aj aq x1 dx dq dz h=>aB L2 (fun K1=>aB L3 (fun K3=>bc .i64 ((aj:Int) - 1)/\(K3 ao aj aq x1 dx dq dz ((aj:Int) - 1) h)) fun ao aj aq x1 dx dq dz x7 h=>il L3 (bS K1 K1 Kr) fun K2=>K2 ao aj aq x1 dx dq dz x7 h) fun h=>Kr false h) fun y6 h=>K (.bool y6) h
theorem ok (q:asks ao aj aq x1 dx dq dz K h):zC 168 [.slice ao aj aq,.int .u8 x1,.slice dx dq dz] h K:=
 cl Tryz.func168 q (fun p q=>sq (l:=L1) p q fun p q=>sc (l:=L2) q (fun q=>sq (l:=L3) p q fun p q=>bl (b:=0) (lp p q fun p q=>lf p q)) fun p q=>lf p q) fun p q=>rt p q
end Xd8
namespace Xea
abbrev L2:List Sl:=[]
abbrev L6:=[Zs 1,Z8 5,Zb 11]
abbrev L4:=[Zs 1,Z8 5,Zb 6]
abbrev L3:=[Zs 1,Z8 5]
abbrev L1:=[Z8 0,Zs 1]
abbrev L0:=[Zb 4]
variable (x0:Int) (x1:List UInt8)
variable (K:KV) (h:H)
abbrev asks (x0:Int) (x1:List UInt8) (K:KV) (h:H):Prop:=cF L0 (fun Kr=>aB L1 (fun K5=>K5 x0 x1 h) fun x0 x1 h=>aB L2 (fun K1=>aB L3 (fun K4=>K4 x1 x0 h) fun x1 x5 h=>aB L4 (fun K3=>aO (x5=(0:Int)) (K3 x1 x5 true h) (K3 x1 x5 false h)) fun x1 x5 x6 h=>cond x6 (aw h #[S [97,100,100,114,101,115,115],S [97,112,112,108,101,116],S [97,114,101,97],S [97,114,116,105,99,108,101],S [97,115,105,100,101],S [98,97,115,101],S [98,97,115,101,102,111,110,116],S [98,103,115,111,117,110,100],S [98,108,111,99,107,113,117,111,116,101],S [98,111,100,121],S [98,114],S [98,117,116,116,111,110],S [99,97,112,116,105,111,110],S [99,101,110,116,101,114],S [99,111,108],S [99,111,108,103,114,111,117,112],S [100,100],S [100,101,116,97,105,108,115],S [100,105,97,108,111,103],S [100,105,114],S [100,105,118],S [100,108],S [100,116],S [101,109,98,101,100],S [102,105,101,108,100,115,101,116],S [102,105,103,99,97,112,116,105,111,110],S [102,105,103,117,114,101],S [102,111,111,116,101,114],S [102,111,114,109],S [102,114,97,109,101],S [102,114,97,109,101,115,101,116],S [104,49],S [104,50],S [104,51],S [104,52],S [104,53],S [104,54],S [104,101,97,100],S [104,101,97,100,101,114],S [104,103,114,111,117,112],S [104,114],S [104,116,109,108],S [105,102,114,97,109,101],S [105,109,103],S [105,110,112,117,116],S [107,101,121,103,101,110],S [108,105],S [108,105,110,107],S [108,105,115,116,105,110,103],S [109,97,105,110],S [109,97,114,113,117,101,101],S [109,101,110,117],S [109,101,116,97],S [110,97,118],S [110,111,101,109,98,101,100],S [110,111,102,114,97,109,101,115],S [110,111,115,99,114,105,112,116],S [111,98,106,101,99,116],S [111,108],S [112],S [112,97,114,97,109],S [112,108,97,105,110,116,101,120,116],S [112,114,101],S [115,99,114,105,112,116],S [115,101,97,114,99,104],S [115,101,99,116,105,111,110],S [115,101,108,101,99,116],S [115,111,117,114,99,101],S [115,116,121,108,101],S [115,117,109,109,97,114,121],S [116,97,98,108,101],S [116,98,111,100,121],S [116,100],S [116,101,109,112,108,97,116,101],S [116,101,120,116,97,114,101,97],S [116,102,111,111,116],S [116,104],S [116,104,101,97,100],S [116,105,116,108,101],S [116,114],S [116,114,97,99,107],S [117,108],S [119,98,114],S [120,109,112]] 9 fun a1 h2=>zC 174 [.slice (some a1) 84 84,S x1] h2 fun v3 h4=>au v3 fun b5=>cond b5 (Kr true h4) (Kr false h4)) (aB L6 (fun K2=>aO (x5=(2:Int)) (K2 x1 x5 true h) (K2 x1 x5 false h)) fun x1 x5 cg h=>cond cg (aw h #[S [97,110,110,111,116,97,116,105,111,110,45,120,109,108],S [109,105],S [109,110],S [109,111],S [109,115],S [109,116,101,120,116]] 9 fun a6 h7=>zC 174 [.slice (some a6) 6 6,S x1] h7 fun v8 h9=>au v8 fun J7=>cond J7 (Kr true h9) (Kr false h9)) (aO (x5=(1:Int)) (aw h #[S [100,101,115,99],S [102,111,114,101,105,103,110,79,98,106,101,99,116],S [116,105,116,108,101]] 9 fun lk eM=>zC 174 [.slice (some lk) 3 3,S x1] eM fun np dA=>au np fun ND=>cond ND (Kr true dA) (Kr false dA)) (K1 h)))) fun h=>Kr false h) fun y4 h=>K (.bool y4) h
theorem ok (q:asks x0 x1 K h):zC 177 [.int .u8 x0,S x1] h K:=
 cl Tryz.func177 q (fun p q=>sq p q fun p q=>sc q (fun q=>sq p q fun p q=>bl (b:=0) (sq p q fun p q=>cn (i:=6) p q (fun p q=>lf p q) fun p q=>sq p q fun p q=>lf p q)) fun p q=>lf p q) fun p q=>rt p q
end Xea
namespace Xd7
abbrev L0:=[Z6 4]
abbrev L3:=[Z6 5]
abbrev L2:=[Zl 0,Zs 1,Z6 5]
abbrev L1:=[Zl 0,Zs 1]
abbrev T0:=TK L0
abbrev T3:=TK L3
abbrev T2:=TK L2
variable (ao:OA) (aj aq:Nat) (x1:List UInt8) (x5:Int)
abbrev n4 (Kn Kr:T0) (h:H):Prop:=
 Kr x5 h
abbrev bS (Kn Ke0:T3) (Kr:T0):T2->T2:=fun K2 ao aj aq x1 x5 h=>aO (x5>(0:Int)) (bc .i64 (x5 - (1:Int))/\((0<=(x5 - (1:Int))/\(x5 - (1:Int))<(aj:Int))/\(ae ao fun a1=>zT h ((a1.add (Int.toNat (x5 - (1:Int))*4)).add 2) fun s2=>aO (s2=x1) (Ke0 x5 h) (bc .i64 (x5 - (1:Int))/\((0<=(x5 - (1:Int))/\(x5 - (1:Int))<(aj:Int))/\(ae ao fun a3=>zI .i64 h (((a3.add (Int.toNat (x5 - (1:Int))*4))).add 0) fun i4=>zI .u8 h (((a3.add (Int.toNat (x5 - (1:Int))*4))).add 1) fun i5=>zT h (((a3.add (Int.toNat (x5 - (1:Int))*4))).add 2) fun s6=>zI .u8 h (((a3.add (Int.toNat (x5 - (1:Int))*4))).add 3) fun i7=>aw h #[S [100,100],S [100,116],S [108,105],S [111,112,116,103,114,111,117,112],S [111,112,116,105,111,110],S [112],S [114,98],S [114,112],S [114,116],S [114,116,99]] 9 fun a8 h9=>zC 181 [(.agg ⟨[.int .i64 i4,.int .u8 i5,S s6,.int .u8 i7]⟩),.slice (some a8) 10 10] h9 fun v10 eF=>au v10 fun VL=>cond VL (bc .i64 (x5 - (1:Int))/\(K2 ao aj aq x1 (x5 - (1:Int)) eF)) (Ke0 x5 eF))))))) (Ke0 x5 h)
abbrev cR (Kn Ke0:T3) (Kr:T0):Nat->T2:=LP L2 (bS Kn Ke0 Kr)
variable (K:KV) (h:H)
abbrev asks (ao:OA) (aj aq:Nat) (x1:List UInt8) (K:KV) (h:H):Prop:=cF L0 (fun Kr=>aB L1 (fun K4=>K4 ao aj aq x1 h) fun ao aj aq x1 h=>aB L2 (fun K3=>K3 ao aj aq x1 (aj:Int) h) fun ao aj aq x1 x5 h=>aB L3 (fun K1=>il L2 (bS K1 K1 Kr) fun K2=>K2 ao aj aq x1 x5 h) fun x5 h=>n4 x5 Kr Kr h) fun y4 h=>K (.int .i64 y4) h
theorem ok (q:asks ao aj aq x1 K h):zC 169 [.slice ao aj aq,S x1] h K:=
 cl Tryz.func169 q (fun p q=>sq (l:=L1) p q fun p q=>sq (l:=L2) p q fun p q=>sc (l:=L3) q (fun q=>bl (b:=0) (lp p q fun p q=>lf p q)) fun p q=>lf p q) fun p q=>rt p q
end Xd7
namespace N9
abbrev L0:=[Zb 6]
abbrev L6:=[Zp 0,Z6 2,Zl 10]
abbrev L7:=[Zp 0,Z6 2,Zl 10,Z6 11]
abbrev L5:=[Zp 0,Z6 1,Z6 2,Zl 10]
abbrev L1:=[Zp 0,Z6 1,Z6 2]
abbrev L4:=[Zp 0,Z6 1,Z6 2,Zb 9]
abbrev L3:=[Zp 0,Z6 1,Z6 2,Zb 7,Zb 8]
abbrev L2:=[Zp 0,Z6 1,Z6 2,Zb 7]
abbrev T0:=TK L0
abbrev T6:=TK L6
abbrev T7:=TK L7
variable (x0:OA) (x1 x2:Int) (tD:OA) (rS ur:Nat)
abbrev sg (Kn Kr:T0) (h:H):Prop:=
 (ae x0 fun a1=>ae x0 fun a2=>zS h (a2.add 0) fun wg r8 u6=>(0<=x2/\x2<(r8:Int))/\(ae wg fun a4=>zS h ((a4.add (Int.toNat x2*8)).add 7) fun BG zX F9=>bf Tryz.prog (Builtin.append_ #[82,82] 82 ⟨[.slice BG zX F9,.slice tD rS ur]⟩) h fun v6 h7=>aA v6 fun ri qF ui=>zS h7 (a1.add 0) fun wa uX yV=>(0<=x2/\x2<(uX:Int))/\(ae wa fun jJ=>aZ ((jJ.add (Int.toNat x2*8)).add 7) [.slice ri qF ui] 0 h7 fun eF=>Kr true eF)))/\(ae x0 fun a12=>zS h (a12.add 0) fun jT jD lD=>ae x0 fun lS=>zS h (lS.add 0) fun kR ly oN=>(0<=x2/\x2<(ly:Int))/\(ae kR fun pM=>zS h ((pM.add (Int.toNat x2*8)).add 7) fun oP mY oQ=>bf Tryz.prog (Builtin.append_ #[82,82] 82 ⟨[.slice oP mY oQ,.slice tD rS ur]⟩) h fun Ey pB=>aA Ey fun oR nS qH=>(0<=x2/\x2<(jD:Int))/\(ae jT fun a21=>aZ ((a21.add (Int.toNat x2*8)).add 7) [.slice oR nS qH] 0 pB fun lN=>Kr true lN)))
abbrev SD (Kn Ke0:T6) (Kr:T0):T7->T7:=fun K2 x0 x2 tD rS ur cg h=>aO (cg<(rS:Int)) (ae x0 fun a23=>zS h (a23.add 0) fun F4 F5 Mq=>(0<=cg/\cg<(rS:Int))/\(ae tD fun a25=>zI .i64 h (a25.add (Int.toNat cg*1)) fun i26=>(0<=i26/\i26<(F5:Int))/\(ae F4 fun zU=>aZ ((zU.add (Int.toNat i26*8)).add 6) [.int .i64 x2] 0 h fun lK=>bc .i64 (cg+(1:Int))/\(K2 x0 x2 tD rS ur (cg+(1:Int)) lK)))) (Ke0 x0 x2 tD rS ur h)
abbrev GZ (Kn Ke0:T6) (Kr:T0):Nat->T7:=LP L7 (SD Kn Ke0 Kr)
variable (K:KV) (h:H)
abbrev asks (x0:OA) (x1 x2:Int) (K:KV) (h:H):Prop:=cF L0 (fun Kr=>aB L1 (fun rZ=>rZ x0 x1 x2 h) fun x0 x1 x2 h=>aB L2 (fun ng=>zC 125 [.pointer x0,.int .i64 x1] h fun UN DS=>au UN fun b49=>cond b49 (ng x0 x1 x2 true DS) (ng x0 x1 x2 false DS)) fun x0 x1 x2 x7 h=>aB L3 (fun K9=>zC 134 [.pointer x0,.int .i64 x2] h fun Mr Ex=>au Mr fun b46=>cond b46 (K9 x0 x1 x2 x7 true Ex) (K9 x0 x1 x2 x7 false Ex)) fun x0 x1 x2 x7 x8 h=>aB L1 (fun K8=>cond x7 (cond x8 (ae x0 fun a40=>zS h (a40.add 0) fun VQ VR aag=>(0<=x1/\x1<(VR:Int))/\(ae VQ fun VU=>zS h ((VU.add (Int.toNat x1*8)).add 7) fun QK NF VV=>aO ((NF:Int)=0) (Kr false h) (K8 x0 x1 x2 h))) (Kr false h)) (Kr false h)) fun x0 x1 x2 h=>aB L4 (fun K7=>zC 164 [.pointer x0,.int .i64 x2,.int .i64 x1] h fun v37 Cf=>au v37 fun b39=>cond b39 (K7 x0 x1 x2 true Cf) (K7 x0 x1 x2 false Cf)) fun x0 x1 x2 x9 h=>aB L1 (fun K6=>cond x9 (Kr false h) (K6 x0 x1 x2 h)) fun x0 x1 x2 h=>aB L5 (fun K5=>ae x0 fun EC=>zS h (EC.add 0) fun xC xD yU=>(0<=x1/\x1<(xD:Int))/\(ae xC fun Nx=>zS h ((Nx.add (Int.toNat x1*8)).add 7) fun UT UU UW=>K5 x0 x1 x2 UT UU UW h)) fun x0 x1 x2 tD rS ur h=>aB L6 (fun K4=>ae x0 fun Sv=>zS h (Sv.add 0) fun BH BJ DY=>(0<=x1/\x1<(BJ:Int))/\(ae BH fun a31=>aZ ((a31.add (Int.toNat x1*8)).add 7) [.slice none 0 0] 0 h fun Ez=>K4 x0 x2 tD rS ur Ez)) fun x0 x2 tD rS ur h=>aB L6 (fun K1=>aB L7 (fun K3=>K3 x0 x2 tD rS ur 0 h) fun x0 x2 tD rS ur cg h=>il L7 (SD K1 K1 Kr) fun K2=>K2 x0 x2 tD rS ur cg h) fun x0 x2 tD rS ur h=>sg x0 x2 tD rS ur Kr Kr h) fun y6 h=>K (.bool y6) h
theorem ok (q:asks x0 x1 x2 K h):zC 230 [.pointer x0,.int .i64 x1,.int .i64 x2] h K:=
 cl Tryz.func230 q (fun p q=>sq (l:=L1) p q fun p q=>sq (l:=L2) p q fun p q=>sq (l:=L3) p q fun p q=>sq (l:=L1) p q fun p q=>sq (l:=L4) p q fun p q=>sq (l:=L1) p q fun p q=>sq (l:=L5) p q fun p q=>sq (l:=L6) p q fun p q=>sc (l:=L6) q (fun q=>sq (l:=L7) p q fun p q=>bl (b:=0) (lp p q fun p q=>lf p q)) fun p q=>lf p q) fun p q=>rt p q
end N9
namespace Xf7
abbrev L0:=[Zl 6]
variable (ao:OA) (aj aq:Nat) (x1 x2:Int)
variable (K:KV) (h:H)
abbrev asks:Prop:=cF L0 (fun Kr=>(0<=x1/\x1<=x2/\x2<=(aj:Int)/\(aj:Int)<=(aq:Int))/\(aO (x1=x2) (Kr ao aj aq h) ((0<=(0:Int)/\0<=x1/\x1<=(aq:Int))/\((0<=x2/\x2<=(aj:Int)/\(aj:Int)<=(aq:Int))/\(bf Tryz.prog (Builtin.append_ #[40,40] 40 ⟨[(.slice (if aq=Int.toNat 0 then ao else Option.map (fun q=>q.add (Int.toNat (0:Int)*3)) ao) (Int.toNat x1 - Int.toNat 0) (aq - Int.toNat 0)),(.slice (if aq=Int.toNat x2 then ao else Option.map (fun q=>q.add (Int.toNat x2*3)) ao) (Int.toNat (aj:Int) - Int.toNat x2) (aq - Int.toNat x2))]⟩) h fun v1 h2=>aA v1 fun wg r8 u6=>(0<=(r8:Int)/\(r8:Int)<=(aj:Int)/\(aj:Int)<=(u6:Int))/\(bf Tryz.prog (Builtin.clear_ #[40] 0 ⟨[(.slice (if u6=Int.toNat (r8:Int) then wg else Option.map (fun q=>q.add (Int.toNat (r8:Int)*3)) wg) (Int.toNat (aj:Int) - Int.toNat (r8:Int)) (u6 - Int.toNat (r8:Int)))]⟩) h2 fun v4 h5=>Kr wg r8 u6 h5)))))) fun VM VN VO h=>K (.slice VM VN VO) h
theorem ok (q:asks ao aj aq x1 x2 K h):zC 237 [.slice ao aj aq,.int .i64 x1,.int .i64 x2] h K:=
 cl Tryz.func237 q (fun p q=>lf p q) fun p q=>rt p q
end Xf7
namespace Xgf
abbrev L3:=[Zl 0,Z6 1,Zl 2,Z6 7,Z6 8]
abbrev L4:=[Zl 0,Z6 1,Zl 2,Z6 7,Z6 8,Zb 68]
abbrev L5:=[Zl 0,Z6 1,Zl 2,Z6 7,Z6 8,Zb 31]
abbrev L2:=[Zl 0,Z6 1,Zl 2,Z6 7]
abbrev L1:=[Zl 0,Z6 1,Zl 2]
abbrev L0:=[Zl 6]
variable (ao:OA) (aj aq:Nat) (x1:Int) (dx:OA) (dq dz:Nat)
variable (K:KV) (h:H)
abbrev asks (ao:OA) (aj aq:Nat) (x1:Int) (dx:OA) (dq dz:Nat) (K:KV) (h:H):Prop:=cF L0 (fun Kr=>aB L1 (fun rZ=>rZ ao aj aq x1 dx dq dz h) fun ao aj aq x1 dx dq dz h=>aB L1 (fun ng=>(0<=x1/\x1<=(aj:Int)/\(aj:Int)<=(aq:Int))/\(ng ao aj aq x1 dx dq dz h)) fun ao aj aq x1 dx dq dz h=>aB L2 (fun K9=>K9 ao aj aq x1 dx dq dz (dq:Int) h) fun ao aj aq x1 dx dq dz x7 h=>aB L2 (fun K8=>aO (x7=(0:Int)) (Kr ao aj aq h) (K8 ao aj aq x1 dx dq dz x7 h)) fun ao aj aq x1 dx dq dz x7 h=>aB L3 (fun K7=>K7 ao aj aq x1 dx dq dz x7 (aj:Int) h) fun ao aj aq x1 dx dq dz x7 x8 h=>aB L3 (fun K6=>aO (x1=x8) (bf Tryz.prog (Builtin.append_ #[40,40] 40 ⟨[.slice ao aj aq,.slice dx dq dz]⟩) h fun v28 u5=>aA v28 fun BH BJ DY=>Kr BH BJ DY u5) (K6 ao aj aq x1 dx dq dz x7 x8 h)) fun ao aj aq x1 dx dq dz x7 x8 h=>aB L3 (fun K4=>aB L5 (fun K5=>bc .i64 (x8+x7)/\(bf Tryz.prog (Builtin.cap_ #[40] 3 ⟨[.slice ao aj aq]⟩) h fun v25 oC=>aL .i64 v25 fun i27=>aO ((x8+x7)>i27) (K5 ao aj aq x1 dx dq dz x7 x8 true oC) (K5 ao aj aq x1 dx dq dz x7 x8 false oC))) fun ao aj aq x1 dx dq dz x7 x8 VW h=>cond VW ((0<=(0:Int)/\0<=x1/\x1<=(aq:Int))/\(bc .i64 (x8+x7)/\(bc .i64 ((x8+x7) - x1)/\(bf Tryz.prog (Builtin.append_ #[40,3] 40 ⟨[(.slice (if aq=Int.toNat 0 then ao else Option.map (fun q=>q.add (Int.toNat (0:Int)*3)) ao) (Int.toNat x1 - Int.toNat 0) (aq - Int.toNat 0)),.int .i64 ((x8+x7) - x1)]⟩) h fun oT fF=>aA oT fun gL fA fW=>(0<=x1/\x1<=(fA:Int)/\(fA:Int)<=(fW:Int))/\(bf Tryz.prog (Builtin.copy_ #[40,40] 3 ⟨[(.slice (if fW=Int.toNat x1 then gL else Option.map (fun q=>q.add (Int.toNat x1*3)) gL) (Int.toNat (fA:Int) - Int.toNat x1) (fW - Int.toNat x1)),.slice dx dq dz]⟩) fF fun xA gx=>aL .i64 xA fun i21=>bc .i64 (x1+x7)/\((0<=(x1+x7)/\(x1+x7)<=(fA:Int)/\(fA:Int)<=(fW:Int))/\((0<=x1/\x1<=(aj:Int)/\(aj:Int)<=(aq:Int))/\(bf Tryz.prog (Builtin.copy_ #[40,40] 3 ⟨[(.slice (if fW=Int.toNat (x1+x7) then gL else Option.map (fun q=>q.add (Int.toNat (x1+x7)*3)) gL) (Int.toNat (fA:Int) - Int.toNat (x1+x7)) (fW - Int.toNat (x1+x7))),(.slice (if aq=Int.toNat x1 then ao else Option.map (fun q=>q.add (Int.toNat x1*3)) ao) (Int.toNat (aj:Int) - Int.toNat x1) (aq - Int.toNat x1))]⟩) gx fun v22 qD=>aL .i64 v22 fun i24=>Kr gL fA fW qD)))))))) (K4 ao aj aq x1 dx dq dz x7 x8 h)) fun ao aj aq x1 dx dq dz x7 x8 h=>aB L3 (fun K3=>bc .i64 (x8+x7)/\((0<=(0:Int)/\0<=(x8+x7)/\(x8+x7)<=(aq:Int))/\(K3 (if aq=Int.toNat 0 then ao else Option.map (fun q=>q.add (Int.toNat (0:Int)*3)) ao) (Int.toNat (x8+x7) - Int.toNat 0) (aq - Int.toNat 0) x1 dx dq dz x7 x8 h))) fun ao aj aq x1 dx dq dz x7 x8 h=>aB L3 (fun K1=>aB L4 (fun K2=>bc .i64 (x1+x7)/\((0<=(x1+x7)/\(x1+x7)<=(aj:Int)/\(aj:Int)<=(aq:Int))/\(bf Tryz.prog (Extern.SlicesOverlaps.overlaps #[40,40] #[4] ⟨[.slice dx dq dz,(.slice (if aq=Int.toNat (x1+x7) then ao else Option.map (fun q=>q.add (Int.toNat (x1+x7)*3)) ao) (Int.toNat (aj:Int) - Int.toNat (x1+x7)) (aq - Int.toNat (x1+x7)))]⟩) h fun np dA=>au np fun ND=>cond ND (K2 ao aj aq x1 dx dq dz x7 x8 false dA) (K2 ao aj aq x1 dx dq dz x7 x8 true dA)))) fun ao aj aq x1 dx dq dz x7 x8 x68 h=>cond x68 (bc .i64 (x1+x7)/\((0<=(x1+x7)/\(x1+x7)<=(aj:Int)/\(aj:Int)<=(aq:Int))/\((0<=x1/\x1<=(aj:Int)/\(aj:Int)<=(aq:Int))/\(bf Tryz.prog (Builtin.copy_ #[40,40] 3 ⟨[(.slice (if aq=Int.toNat (x1+x7) then ao else Option.map (fun q=>q.add (Int.toNat (x1+x7)*3)) ao) (Int.toNat (aj:Int) - Int.toNat (x1+x7)) (aq - Int.toNat (x1+x7))),(.slice (if aq=Int.toNat x1 then ao else Option.map (fun q=>q.add (Int.toNat x1*3)) ao) (Int.toNat (aj:Int) - Int.toNat x1) (aq - Int.toNat x1))]⟩) h fun v6 h7=>aL .i64 v6 fun i8=>(0<=x1/\x1<=(aj:Int)/\(aj:Int)<=(aq:Int))/\(bf Tryz.prog (Builtin.copy_ #[40,40] 3 ⟨[(.slice (if aq=Int.toNat x1 then ao else Option.map (fun q=>q.add (Int.toNat x1*3)) ao) (Int.toNat (aj:Int) - Int.toNat x1) (aq - Int.toNat x1)),.slice dx dq dz]⟩) h7 fun v9 cS=>aL .i64 v9 fun i11=>Kr ao aj aq cS))))) (K1 ao aj aq x1 dx dq dz x7 x8 h)) fun ao aj aq x1 dx dq dz x7 x8 h=>(0<=x8/\x8<=(aj:Int)/\(aj:Int)<=(aq:Int))/\(bf Tryz.prog (Builtin.copy_ #[40,40] 3 ⟨[(.slice (if aq=Int.toNat x8 then ao else Option.map (fun q=>q.add (Int.toNat x8*3)) ao) (Int.toNat (aj:Int) - Int.toNat x8) (aq - Int.toNat x8)),.slice dx dq dz]⟩) h fun v1 h2=>aL .i64 v1 fun i3=>(0<=x1/\x1<=(aj:Int)/\(aj:Int)<=(aq:Int))/\(zC 247 [(.slice (if aq=Int.toNat x1 then ao else Option.map (fun q=>q.add (Int.toNat x1*3)) ao) (Int.toNat (aj:Int) - Int.toNat x1) (aq - Int.toNat x1)),.int .i64 x7] h2 fun v4 h5=>Kr ao aj aq h5))) fun VM VN VO h=>K (.slice VM VN VO) h
theorem ok (q:asks ao aj aq x1 dx dq dz K h):zC 240 [.slice ao aj aq,.int .i64 x1,.slice dx dq dz] h K:=
 cl Tryz.func240 q (fun p q=>sq p q fun p q=>sq p q fun p q=>sq p q fun p q=>sq p q fun p q=>sq p q fun p q=>sq p q fun p q=>sc q (fun q=>sq p q fun p q=>lf p q) fun p q=>sq p q fun p q=>sc q (fun q=>sq p q fun p q=>lf p q) fun p q=>lf p q) fun p q=>rt p q
end Xgf
namespace Xgg
abbrev L3:=[Zl 0,Z6 1,Zl 2,Z6 7,Z6 8]
abbrev L4:=[Zl 0,Z6 1,Zl 2,Z6 7,Z6 8,Zb 68]
abbrev L5:=[Zl 0,Z6 1,Zl 2,Z6 7,Z6 8,Zb 31]
abbrev L2:=[Zl 0,Z6 1,Zl 2,Z6 7]
abbrev L1:=[Zl 0,Z6 1,Zl 2]
abbrev L0:=[Zl 6]
variable (ao:OA) (aj aq:Nat) (x1:Int) (dx:OA) (dq dz:Nat)
variable (K:KV) (h:H)
abbrev asks (ao:OA) (aj aq:Nat) (x1:Int) (dx:OA) (dq dz:Nat) (K:KV) (h:H):Prop:=cF L0 (fun Kr=>aB L1 (fun rZ=>rZ ao aj aq x1 dx dq dz h) fun ao aj aq x1 dx dq dz h=>aB L1 (fun ng=>(0<=x1/\x1<=(aj:Int)/\(aj:Int)<=(aq:Int))/\(ng ao aj aq x1 dx dq dz h)) fun ao aj aq x1 dx dq dz h=>aB L2 (fun K9=>K9 ao aj aq x1 dx dq dz (dq:Int) h) fun ao aj aq x1 dx dq dz x7 h=>aB L2 (fun K8=>aO (x7=(0:Int)) (Kr ao aj aq h) (K8 ao aj aq x1 dx dq dz x7 h)) fun ao aj aq x1 dx dq dz x7 h=>aB L3 (fun K7=>K7 ao aj aq x1 dx dq dz x7 (aj:Int) h) fun ao aj aq x1 dx dq dz x7 x8 h=>aB L3 (fun K6=>aO (x1=x8) (bf Tryz.prog (Builtin.append_ #[39,39] 39 ⟨[.slice ao aj aq,.slice dx dq dz]⟩) h fun v28 u5=>aA v28 fun BH BJ DY=>Kr BH BJ DY u5) (K6 ao aj aq x1 dx dq dz x7 x8 h)) fun ao aj aq x1 dx dq dz x7 x8 h=>aB L3 (fun K4=>aB L5 (fun K5=>bc .i64 (x8+x7)/\(bf Tryz.prog (Builtin.cap_ #[39] 3 ⟨[.slice ao aj aq]⟩) h fun v25 oC=>aL .i64 v25 fun i27=>aO ((x8+x7)>i27) (K5 ao aj aq x1 dx dq dz x7 x8 true oC) (K5 ao aj aq x1 dx dq dz x7 x8 false oC))) fun ao aj aq x1 dx dq dz x7 x8 VW h=>cond VW ((0<=(0:Int)/\0<=x1/\x1<=(aq:Int))/\(bc .i64 (x8+x7)/\(bc .i64 ((x8+x7) - x1)/\(bf Tryz.prog (Builtin.append_ #[39,3] 39 ⟨[(.slice (if aq=Int.toNat 0 then ao else Option.map (fun q=>q.add (Int.toNat (0:Int)*4)) ao) (Int.toNat x1 - Int.toNat 0) (aq - Int.toNat 0)),.int .i64 ((x8+x7) - x1)]⟩) h fun oT fF=>aA oT fun gL fA fW=>(0<=x1/\x1<=(fA:Int)/\(fA:Int)<=(fW:Int))/\(bf Tryz.prog (Builtin.copy_ #[39,39] 3 ⟨[(.slice (if fW=Int.toNat x1 then gL else Option.map (fun q=>q.add (Int.toNat x1*4)) gL) (Int.toNat (fA:Int) - Int.toNat x1) (fW - Int.toNat x1)),.slice dx dq dz]⟩) fF fun xA gx=>aL .i64 xA fun i21=>bc .i64 (x1+x7)/\((0<=(x1+x7)/\(x1+x7)<=(fA:Int)/\(fA:Int)<=(fW:Int))/\((0<=x1/\x1<=(aj:Int)/\(aj:Int)<=(aq:Int))/\(bf Tryz.prog (Builtin.copy_ #[39,39] 3 ⟨[(.slice (if fW=Int.toNat (x1+x7) then gL else Option.map (fun q=>q.add (Int.toNat (x1+x7)*4)) gL) (Int.toNat (fA:Int) - Int.toNat (x1+x7)) (fW - Int.toNat (x1+x7))),(.slice (if aq=Int.toNat x1 then ao else Option.map (fun q=>q.add (Int.toNat x1*4)) ao) (Int.toNat (aj:Int) - Int.toNat x1) (aq - Int.toNat x1))]⟩) gx fun v22 qD=>aL .i64 v22 fun i24=>Kr gL fA fW qD)))))))) (K4 ao aj aq x1 dx dq dz x7 x8 h)) fun ao aj aq x1 dx dq dz x7 x8 h=>aB L3 (fun K3=>bc .i64 (x8+x7)/\((0<=(0:Int)/\0<=(x8+x7)/\(x8+x7)<=(aq:Int))/\(K3 (if aq=Int.toNat 0 then ao else Option.map (fun q=>q.add (Int.toNat (0:Int)*4)) ao) (Int.toNat (x8+x7) - Int.toNat 0) (aq - Int.toNat 0) x1 dx dq dz x7 x8 h))) fun ao aj aq x1 dx dq dz x7 x8 h=>aB L3 (fun K1=>aB L4 (fun K2=>bc .i64 (x1+x7)/\((0<=(x1+x7)/\(x1+x7)<=(aj:Int)/\(aj:Int)<=(aq:Int))/\(bf Tryz.prog (Extern.SlicesOverlaps.overlaps #[39,39] #[4] ⟨[.slice dx dq dz,(.slice (if aq=Int.toNat (x1+x7) then ao else Option.map (fun q=>q.add (Int.toNat (x1+x7)*4)) ao) (Int.toNat (aj:Int) - Int.toNat (x1+x7)) (aq - Int.toNat (x1+x7)))]⟩) h fun np dA=>au np fun ND=>cond ND (K2 ao aj aq x1 dx dq dz x7 x8 false dA) (K2 ao aj aq x1 dx dq dz x7 x8 true dA)))) fun ao aj aq x1 dx dq dz x7 x8 x68 h=>cond x68 (bc .i64 (x1+x7)/\((0<=(x1+x7)/\(x1+x7)<=(aj:Int)/\(aj:Int)<=(aq:Int))/\((0<=x1/\x1<=(aj:Int)/\(aj:Int)<=(aq:Int))/\(bf Tryz.prog (Builtin.copy_ #[39,39] 3 ⟨[(.slice (if aq=Int.toNat (x1+x7) then ao else Option.map (fun q=>q.add (Int.toNat (x1+x7)*4)) ao) (Int.toNat (aj:Int) - Int.toNat (x1+x7)) (aq - Int.toNat (x1+x7))),(.slice (if aq=Int.toNat x1 then ao else Option.map (fun q=>q.add (Int.toNat x1*4)) ao) (Int.toNat (aj:Int) - Int.toNat x1) (aq - Int.toNat x1))]⟩) h fun v6 h7=>aL .i64 v6 fun i8=>(0<=x1/\x1<=(aj:Int)/\(aj:Int)<=(aq:Int))/\(bf Tryz.prog (Builtin.copy_ #[39,39] 3 ⟨[(.slice (if aq=Int.toNat x1 then ao else Option.map (fun q=>q.add (Int.toNat x1*4)) ao) (Int.toNat (aj:Int) - Int.toNat x1) (aq - Int.toNat x1)),.slice dx dq dz]⟩) h7 fun v9 cS=>aL .i64 v9 fun i11=>Kr ao aj aq cS))))) (K1 ao aj aq x1 dx dq dz x7 x8 h)) fun ao aj aq x1 dx dq dz x7 x8 h=>(0<=x8/\x8<=(aj:Int)/\(aj:Int)<=(aq:Int))/\(bf Tryz.prog (Builtin.copy_ #[39,39] 3 ⟨[(.slice (if aq=Int.toNat x8 then ao else Option.map (fun q=>q.add (Int.toNat x8*4)) ao) (Int.toNat (aj:Int) - Int.toNat x8) (aq - Int.toNat x8)),.slice dx dq dz]⟩) h fun v1 h2=>aL .i64 v1 fun i3=>(0<=x1/\x1<=(aj:Int)/\(aj:Int)<=(aq:Int))/\(zC 249 [(.slice (if aq=Int.toNat x1 then ao else Option.map (fun q=>q.add (Int.toNat x1*4)) ao) (Int.toNat (aj:Int) - Int.toNat x1) (aq - Int.toNat x1)),.int .i64 x7] h2 fun v4 h5=>Kr ao aj aq h5))) fun VM VN VO h=>K (.slice VM VN VO) h
theorem ok (q:asks ao aj aq x1 dx dq dz K h):zC 241 [.slice ao aj aq,.int .i64 x1,.slice dx dq dz] h K:=
 cl Tryz.func241 q (fun p q=>sq p q fun p q=>sq p q fun p q=>sq p q fun p q=>sq p q fun p q=>sq p q fun p q=>sq p q fun p q=>sc q (fun q=>sq p q fun p q=>lf p q) fun p q=>sq p q fun p q=>sc q (fun q=>sq p q fun p q=>lf p q) fun p q=>lf p q) fun p q=>rt p q
end Xgg
namespace Xdt
abbrev L2:=[Zp 0,Z6 1,Zb 5]
abbrev L1:=[Zp 0,Z6 1]
abbrev L0:=[Z6 4]
variable (x0:OA) (x1:Int)
variable (K:KV) (h:H)
abbrev asks (x0:OA) (x1:Int) (K:KV) (h:H):Prop:=cF L0 (fun Kr=>aB L1 (fun K2=>K2 x0 x1 h) fun x0 x1 h=>aB L2 (fun K1=>zC 125 [.pointer x0,.int .i64 x1] h fun np dA=>au np fun ND=>cond ND (K1 x0 x1 true dA) (K1 x0 x1 false dA)) fun x0 x1 x5 h=>cond x5 (aO (x1=(0:Int)) (Kr (-1) h) (ae x0 fun a1=>zS h (a1.add 0) fun ma lx oM=>(0<=x1/\x1<(lx:Int))/\(ae ma fun a3=>zI .u8 h ((((a3.add (Int.toNat x1*8)).add 0)).add 0) fun i4=>zI .u8 h ((((a3.add (Int.toNat x1*8)).add 0)).add 1) fun i5=>zT h ((((a3.add (Int.toNat x1*8)).add 0)).add 2) fun s6=>zS h ((((a3.add (Int.toNat x1*8)).add 0)).add 3) fun yT zY yu=>zT h ((((a3.add (Int.toNat x1*8)).add 0)).add 4) fun s8=>zS h ((((a3.add (Int.toNat x1*8)).add 0)).add 5) fun wa uX yV=>zC 105 [.pointer x0,(.agg ⟨[.int .u8 i4,.int .u8 i5,S s6,.slice yT zY yu,S s8,.slice wa uX yV]⟩)] h fun v10 eF=>aL .i64 v10 fun i12=>Kr i12 eF))) (Kr (-1) h)) fun y4 h=>K (.int .i64 y4) h
theorem ok (q:asks x0 x1 K h):zC 229 [.pointer x0,.int .i64 x1] h K:=
 cl Tryz.func229 q (fun p q=>sq p q fun p q=>sq p q fun p q=>lf p q) fun p q=>rt p q
end Xdt
end Go.Proofs
