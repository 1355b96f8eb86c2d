/- Own text. No condition. -/
import Derived.Test.YtijoifkjeamonaaGreatHc
import Derived.Test.YtijoifkjeamonaaGreatShR
import Derived.Test.YtijoifkjeamonaaGreatProg
namespace Go.Proofs
open Go Go.Sh
set_option linter.unusedVariables false
set_option maxRecDepth 100000
namespace Xcx
abbrev L0:=[Zb 2]
variable (x0:List UInt8)
variable (K:KV) (h:H)
abbrev asks:Prop:=cF L0 (fun Kr=>zC 157 [S [32,97,32,98,32,98,105,103,32,99,111,100,101,32,101,109,32,102,111,110,116,32,105,32,110,111,98,114,32,115,32,115,109,97,108,108,32,115,116,114,105,107,101,32,115,116,114,111,110,103,32,116,116,32,117,32],S x0] h fun v1 h2=>au v1 fun b3=>cond b3 (Kr true h2) (Kr false h2)) fun y2 h=>K (.bool y2) h
theorem ok (q:asks x0 K h):zC 91 [S x0] h K:=
 cl Tryz.func91 q (fun p q=>lf p q) fun p q=>rt p q
end Xcx
namespace Xc0
abbrev L0:=[Za 4]
abbrev L3:=[Za 3,Za 4,Zr 8]
abbrev L2:=[Zl 0,Za 3,Za 4]
abbrev asks (ao:OA) (aj aq:Nat) (cf:OA) (bU cu:Nat) (K:KV) (h:H):Prop:=nQ L0 (fun Kr=>nQ L2 (fun K3=>aw h #[.slice cf bU cu] 104 fun OW qz=>aw qz #[.int .i64 0] 3 fun Ji mr=>K3 ao aj aq OW Ji [] mr) fun ao aj aq x3 x4 ds h=>nQ L0 (fun K1=>nQ L3 (fun K2=>zC 178 [.slice ao aj aq] h fun B5 mq=>K2 x3 x4 B5 ds mq) fun x3 x4 x8 ds h=>Oe Tryz.prog x8 2 [.o 9 (.i .i64),.g 10 [.i .i64,.i .u8,.s,.i .u8]] h (fun p9 tf tg DW DX Mid Kc Fin h1=>aw h1 ⟨[.int .i64 0,.int .u8 0,S [],.int .u8 0]⟩ 77 fun a2 h3=>aZ a2 [.int .i64 tf,.int .u8 tg,S DW,.int .u8 DX] 0 h3 fun h4=>Mid h4 fun gW=>zI .i64 gW (a2.add 0) fun i6=>zI .u8 gW (a2.add 1) fun i7=>zT gW (a2.add 2) fun s8=>zI .u8 gW (a2.add 3) fun i9=>zS gW x3 fun jS jl mW=>zC 179 [(.agg ⟨[.int .i64 i6,.int .u8 i7,S s8,.int .u8 i9]⟩),.slice jS jl mW] gW fun v11 eM=>au v11 fun F8=>cond F8 (aZ x4 [.int .i64 p9] 0 eM fun dA=>Fin gW dA fun fZ=>Kr x4 (cr h.size::ds) fZ) (zI .u8 eM (a2.add 1) fun i16=>zT eM (a2.add 2) fun Oj=>zC 162 [.int .u8 i16,S Oj] eM fun Ey pB=>au Ey fun V4=>cond V4 (zI .i64 pB (a2.add 0) fun i21=>zI .u8 pB (a2.add 1) fun i22=>zT pB (a2.add 2) fun Vs=>zI .u8 pB (a2.add 3) fun i24=>aw pB #[S [97,100,100,114,101,115,115],S [100,105,118],S [112]] 9 fun a25 oC=>zC 179 [(.agg ⟨[.int .i64 i21,.int .u8 i22,S Vs,.int .u8 i24]⟩),.slice (some a25) 3 3] oC fun zV lK=>au zV fun I9=>cond I9 (Kc gW lK) (aZ x4 [.int .i64 (-1)] 0 lK fun tO=>Fin gW tO fun yj=>Kr x4 (cr h.size::ds) yj)) (Kc gW pB))) (fun h4=>K1 x4 (cr h.size::ds) h4)) fun x4 ds h=>aZ x4 [.int .i64 (-1)] 0 h fun h1=>Kr x4 ds h1) fun y4 ds h=>dE ds h fun h=>zI .i64 h y4 fun i38=>K (.int .i64 i38) h
theorem ok (ao:OA) (aj aq:Nat) (cf:OA) (bU cu:Nat) (K:KV) (h:H) (hS:asks ao aj aq cf bU cu K h):zC 190 [.slice ao aj aq,.slice cf bU cu] h K:=
 P3 Tryz.func190 hS (fun hg hS=>BC (l:=L2) hg hS fun hg hS=>Sa (l:=L0) hS (fun hS=>BC (l:=L3) hg hS fun hg hS=>bl (b:=0) (P4 (.tmp 8) #[9,10] hg hS)) fun hg hS=>P5 hg hS) fun hg hS=>P6 hg hS
end Xc0
namespace Xcy
abbrev L0:=[Za 4]
abbrev L3:=[Za 3,Za 4,Zr 8]
abbrev L2:=[Zl 0,Za 3,Za 4]
abbrev asks (ao:OA) (aj aq:Nat) (x1:List UInt8) (K:KV) (h:H):Prop:=nQ L0 (fun Kr=>nQ L2 (fun K3=>aw h #[S x1] 9 fun a21 lN=>aw lN #[.int .i64 0] 3 fun a23 lX=>K3 ao aj aq a21 a23 [] lX) fun ao aj aq x3 x4 ds h=>nQ L0 (fun K1=>nQ L3 (fun K2=>zC 178 [.slice ao aj aq] h fun xA gx=>K2 x3 x4 xA ds gx) fun x3 x4 x8 ds h=>Oe Tryz.prog x8 2 [.o 9 (.i .i64),.g 10 [.i .i64,.i .u8,.s,.i .u8]] h (fun p9 tf tg DW DX Mid Kc Fin h1=>aw h1 ⟨[.int .i64 0,.int .u8 0,S [],.int .u8 0]⟩ 77 fun a2 h3=>aZ a2 [.int .i64 tf,.int .u8 tg,S DW,.int .u8 DX] 0 h3 fun h4=>Mid h4 fun gW=>zI .u8 gW (a2.add 1) fun i6=>aO (i6=(0:Int)) (zT gW (a2.add 2) fun s7=>zT gW x3 fun s8=>aO (s7=s8) (bc .i64 (p9+(1:Int))/\(aZ x4 [.int .i64 (p9+(1:Int))] 0 gW fun h9=>Fin gW h9 fun cS=>Kr x4 (cr h.size::ds) cS)) (zT gW (a2.add 2) fun vl=>zC 157 [S [32,100,100,32,100,116,32,108,105,32,111,112,116,103,114,111,117,112,32,111,112,116,105,111,110,32,112,32,114,98,32,114,112,32,114,116,32,114,116,99,32],S vl] gW fun v12 fi=>au v12 fun b14=>cond b14 (Kc gW fi) (bc .i64 (p9+(1:Int))/\(aZ x4 [.int .i64 (p9+(1:Int))] 0 fi fun fZ=>Fin gW fZ fun gX=>Kr x4 (cr h.size::ds) gX)))) (bc .i64 (p9+(1:Int))/\(aZ x4 [.int .i64 (p9+(1:Int))] 0 gW fun fF=>Fin gW fF fun gO=>Kr x4 (cr h.size::ds) gO))) (fun h4=>K1 x4 (cr h.size::ds) h4)) fun x4 ds h=>aZ x4 [.int .i64 0] 0 h fun h1=>Kr x4 ds h1) fun y4 ds h=>dE ds h fun h=>zI .i64 h y4 fun i25=>K (.int .i64 i25) h
theorem ok (ao:OA) (aj aq:Nat) (x1:List UInt8) (K:KV) (h:H) (hS:asks ao aj aq x1 K h):zC 192 [.slice ao aj aq,S x1] h K:=
 P3 Tryz.func192 hS (fun hg hS=>BC (l:=L2) hg hS fun hg hS=>Sa (l:=L0) hS (fun hS=>BC (l:=L3) hg hS fun hg hS=>bl (b:=0) (P4 (.tmp 8) #[9,10] hg hS)) fun hg hS=>P5 hg hS) fun hg hS=>P6 hg hS
end Xcy
namespace NL
abbrev L0:=[Zl 4]
abbrev L3:=[Zl 0,Z6 5]
abbrev L4:=[Zl 0,Zr 1,Z6 5,Z6 6]
abbrev L2:=[Zl 0,Zr 1,Z6 5]
abbrev L1:=[Zl 0,Zr 1]
abbrev T0:=TK L0
abbrev T3:=TK L3
abbrev T4:=TK L4
variable (ao:OA) (aj aq:Nat) (x1:Value) (x5:Int)
abbrev n5 (Kn Kr:T0) (h:H):Prop:=
 (0<=x5/\x5<=(aj:Int)/\(aj:Int)<=(aq:Int))/\(bf Tryz.prog (Builtin.clear_ #[40] 0 ⟨[(.slice (if aq=Int.toNat x5 then ao else Option.map (fun q=>q.add (Int.toNat x5*3)) ao) (Int.toNat (aj:Int) - Int.toNat x5) (aq - Int.toNat x5))]⟩) h fun v1 h2=>(0<=(0:Int)/\0<=x5/\x5<=(aq:Int))/\(Kr (if aq=Int.toNat 0 then ao else Option.map (fun q=>q.add (Int.toNat (0:Int)*3)) ao) (Int.toNat x5 - Int.toNat 0) (aq - Int.toNat 0) h2))
abbrev ix (Kn Ke0:T3) (Kr:T0):T4->T4:=fun K2 ao aj aq x1 x5 x6 h=>aO (x6<(aj:Int)) ((0<=x6/\x6<(aj:Int))/\(ae ao fun a3=>zI .i64 h (((a3.add (Int.toNat x6*3))).add 0) fun i4=>zT h (((a3.add (Int.toNat x6*3))).add 1) fun s5=>zS h (((a3.add (Int.toNat x6*3))).add 2) fun jH gn lj=>aw h ⟨[.int .i64 0,S [],.slice none 0 0]⟩ 79 fun a7 h8=>aZ a7 [.int .i64 i4,S s5,.slice jH gn lj] 0 h8 fun h9=>zI .i64 h9 (a7.add 0) fun i10=>zT h9 (a7.add 1) fun vl=>zS h9 (a7.add 2) fun rO nX rP=>fT Tryz.prog 4 x1 ⟨[(.agg ⟨[.int .i64 i10,S vl,.slice rO nX rP]⟩)]⟩ h9 fun np dA=>au np fun ND=>cond ND (bc .i64 (x6+(1:Int))/\(K2 ao aj aq x1 x5 (x6+(1:Int)) dA)) (zI .i64 dA (a7.add 0) fun i16=>zT dA (a7.add 1) fun Oj=>zS dA (a7.add 2) fun gL fA fW=>(0<=x5/\x5<(aj:Int))/\(ae ao fun jK=>aZ (jK.add (Int.toNat x5*3)) [.int .i64 i16,S Oj,.slice gL fA fW] 0 dA fun gx=>bc .i64 (x5+(1:Int))/\(bc .i64 (x6+(1:Int))/\(K2 ao aj aq x1 (x5+(1:Int)) (x6+(1:Int)) gx)))))) (Ke0 ao aj aq x5 h)
abbrev gJ (Kn Ke0:T3) (Kr:T0):Nat->T4:=LP L4 (ix Kn Ke0 Kr)
variable (K:KV) (h:H)
abbrev asks (ao:OA) (aj aq:Nat) (x1:Value) (K:KV) (h:H):Prop:=cF L0 (fun Kr=>aB L1 (fun K6=>K6 ao aj aq x1 h) fun ao aj aq x1 h=>aB L2 (fun K5=>zC 193 [.slice ao aj aq,x1] h fun v21 lN=>aL .i64 v21 fun i23=>K5 ao aj aq x1 i23 lN) fun ao aj aq x1 x5 h=>aB L2 (fun K4=>aO (x5=(-1:Int)) (Kr ao aj aq h) (K4 ao aj aq x1 x5 h)) fun ao aj aq x1 x5 h=>aB L3 (fun K1=>aB L4 (fun K3=>bc .i64 (x5+(1:Int))/\(K3 ao aj aq x1 x5 (x5+(1:Int)) h)) fun ao aj aq x1 x5 x6 h=>il L4 (ix K1 K1 Kr) fun K2=>K2 ao aj aq x1 x5 x6 h) fun ao aj aq x5 h=>n5 ao aj aq x5 Kr Kr h) fun fJ fK fL h=>K (.slice fJ fK fL) h
theorem ok (q:asks ao aj aq x1 K h):zC 153 [.slice ao aj aq,x1] h K:=
 cl Tryz.func153 q (fun p q=>sq (l:=L1) p q fun p q=>sq (l:=L2) p q fun p q=>sq (l:=L2) p q fun p q=>sc (l:=L3) q (fun q=>sq (l:=L4) p q fun p q=>bl (b:=0) (lp p q fun p q=>lf p q)) fun p q=>lf p q) fun p q=>rt p q
end NL
namespace QU
abbrev L0:=[Zl 4]
abbrev L5:=[Zl 5,Zl 6]
abbrev L6:=[Zl 0,Za 3,Zl 5,Zl 6,Z6 7]
abbrev L4:=[Zl 0,Za 3,Zl 5,Zl 6]
abbrev L3:=[Zl 0,Za 3,Zl 5]
abbrev L2:=[Zl 0,Za 3]
abbrev T0:=TK L0
abbrev T5:=TK L5
abbrev T6:=TK L6
variable (ao:OA) (aj aq:Nat) (dh:Int) (di:List UInt8) (eZ:OA) (fb fc:Nat) (uq:OA) (u7 tC:Nat) (oD:OA) (nR oW:Nat)
abbrev n6 (uq:OA) (u7 tC:Nat) (oD:OA) (nR oW:Nat) (Kn Kr:T0) (h:H):Prop:=
 aO ((nR:Int)<3) (Kr uq u7 tC h) ((0<=(0:Int)/\0<(nR:Int))/\(ae oD fun a1=>zI .i64 h (a1.add (Int.toNat (0:Int)*1)) fun i2=>(0<=(0:Int)/\0<=i2/\i2<=(tC:Int))/\((0<=(0:Int)/\0<(nR:Int))/\(ae oD fun a3=>zI .i64 h (a3.add (Int.toNat (0:Int)*1)) fun i4=>bc .i64 (i4+(1:Int))/\((0<=(i4+(1:Int))/\(i4+(1:Int))<=(u7:Int)/\(u7:Int)<=(tC:Int))/\(zC 63 [(.slice (if tC=Int.toNat 0 then uq else Option.map (fun q=>q.add (Int.toNat (0:Int)*3)) uq) (Int.toNat i2 - Int.toNat 0) (tC - Int.toNat 0))] h fun v5 h6=>aA v5 fun yT zY yu=>bH h h6/\(bf Tryz.prog (Builtin.append_ #[40,40] 40 ⟨[.slice yT zY yu,(.slice (if tC=Int.toNat (i4+(1:Int)) then uq else Option.map (fun q=>q.add (Int.toNat (i4+(1:Int))*3)) uq) (Int.toNat (u7:Int) - Int.toNat (i4+(1:Int))) (tC - Int.toNat (i4+(1:Int))))]⟩) h6 fun v8 h9=>aA v8 fun jS jl mW=>Kr jS jl mW h9)))))))
abbrev F6 (Kn Ke0:T5) (Kr:T0):T6->T6:=fun K2 ao aj aq x3 uq u7 tC oD nR oW x7 h=>aO (x7<(aj:Int)) (zI .i64 h (x3.add 0) fun i11=>zT h (x3.add 1) fun j9=>zS h (x3.add 2) fun jT jD lD=>(0<=x7/\x7<(aj:Int))/\(ae ao fun lS=>zI .i64 h (((lS.add (Int.toNat x7*3))).add 0) fun i15=>zT h (((lS.add (Int.toNat x7*3))).add 1) fun Mv=>zS h (((lS.add (Int.toNat x7*3))).add 2) fun oP mY oQ=>zC 198 [(.agg ⟨[.int .i64 i11,S j9,.slice jT jD lD]⟩),(.agg ⟨[.int .i64 i15,S Mv,.slice oP mY oQ]⟩)] h fun Ey pB=>au Ey fun V4=>cond V4 (aw pB #[.int .i64 x7] 3 fun a21 lN=>bf Tryz.prog (Builtin.append_ #[82,82] 82 ⟨[.slice oD nR oW,.slice (some a21) 1 1]⟩) lN fun v23 lX=>aA v23 fun Nt Nu Nv=>bc .i64 (x7+(1:Int))/\(K2 ao aj aq x3 uq u7 tC Nt Nu Nv (x7+(1:Int)) lX)) (bc .i64 (x7+(1:Int))/\(K2 ao aj aq x3 uq u7 tC oD nR oW (x7+(1:Int)) pB)))) (Ke0 uq u7 tC oD nR oW h)
abbrev F7 (Kn Ke0:T5) (Kr:T0):Nat->T6:=LP L6 (F6 Kn Ke0 Kr)
variable (K:KV) (h:H)
abbrev asks (ao:OA) (aj aq:Nat) (dh:Int) (di:List UInt8) (eZ:OA) (fb fc:Nat) (K:KV) (h:H):Prop:=cF L0 (fun Kr=>aB L2 (fun K7=>aw h ⟨[.int .i64 dh,S di,.slice eZ fb fc]⟩ 79 fun Ny yr=>K7 ao aj aq Ny yr) fun ao aj aq x3 h=>aB L3 (fun K6=>(0<=(0:Int)/\0<=(aj:Int)/\(aj:Int)<=(aj:Int)/\(aj:Int)<=(aq:Int))/\(zI .i64 h (x3.add 0) fun i30=>zT h (x3.add 1) fun s31=>zS h (x3.add 2) fun Ee BR BS=>aw h #[.int .i64 i30,S s31,.slice Ee BR BS] 79 fun EC zZ=>bf Tryz.prog (Builtin.append_ #[40,40] 40 ⟨[(.slice (if Int.toNat (aj:Int)=Int.toNat 0 then ao else Option.map (fun q=>q.add (Int.toNat (0:Int)*3)) ao) (Int.toNat (aj:Int) - Int.toNat 0) (Int.toNat (aj:Int) - Int.toNat 0)),.slice (some EC) 1 1]⟩) zZ fun Kb uC=>aA Kb fun QL QM QN=>K6 ao aj aq x3 QL QM QN uC)) fun ao aj aq x3 uq u7 tC h=>aB L3 (fun K5=>zI .i64 h (x3.add 0) fun i29=>aO (i29<(0:Int)) (Kr uq u7 tC h) (K5 ao aj aq x3 uq u7 tC h)) fun ao aj aq x3 uq u7 tC h=>aB L4 (fun K4=>K4 ao aj aq x3 uq u7 tC none 0 0 h) fun ao aj aq x3 uq u7 tC oD nR oW h=>aB L5 (fun K1=>aB L6 (fun K3=>zC 197 [.slice ao aj aq] h fun v26 AK=>aL .i64 v26 fun i28=>K3 ao aj aq x3 uq u7 tC oD nR oW i28 AK) fun ao aj aq x3 uq u7 tC oD nR oW x7 h=>il L6 (F6 K1 K1 Kr) fun K2=>K2 ao aj aq x3 uq u7 tC oD nR oW x7 h) fun uq u7 tC oD nR oW h=>n6 uq u7 tC oD nR oW Kr Kr h) fun fJ fK fL h=>K (.slice fJ fK fL) h
theorem ok (q:asks ao aj aq dh di eZ fb fc K h):zC 156 [.slice ao aj aq,(.agg ⟨[.int .i64 dh,S di,.slice eZ fb fc]⟩)] h K:=
 cl Tryz.func156 q (fun p q=>sq (l:=L2) p q fun p q=>sq (l:=L3) p q fun p q=>sq (l:=L3) p q fun p q=>sq (l:=L4) p q fun p q=>sc (l:=L5) q (fun q=>sq (l:=L6) p q fun p q=>bl (b:=0) (lp p q fun p q=>lf p q)) fun p q=>lf p q) fun p q=>rt p q
end QU
namespace Xbf
abbrev L0:=[Za 2]
abbrev L3:=[Za 2,Zr 6]
abbrev L2:=[Zl 0,Za 2]
abbrev asks (ao:OA) (aj aq:Nat) (K:KV) (h:H):Prop:=nQ L0 (fun Kr=>nQ L2 (fun K3=>aw h #[.int .i64 0] 3 fun lk eM=>K3 ao aj aq lk [] eM) fun ao aj aq x2 ds h=>nQ L0 (fun K1=>nQ L3 (fun K2=>zC 136 [.slice ao aj aq] h fun v9 cS=>K2 x2 v9 ds cS) fun x2 x6 ds h=>Oe Tryz.prog x6 2 [.o 7 (.i .i64),.g 8 [.i .i64,.s,.l]] h (fun p7 ahh ahi aao aap aaq Mid Kc Fin h1=>aw h1 ⟨[.int .i64 0,S [],.slice none 0 0]⟩ 79 fun a2 h3=>aZ a2 [.int .i64 ahh,S ahi,.slice aao aap aaq] 0 h3 fun h4=>Mid h4 fun gW=>zI .i64 gW (a2.add 0) fun i6=>aO (i6<(0:Int)) (bc .i64 (p7+(1:Int))/\(aZ x2 [.int .i64 (p7+(1:Int))] 0 gW fun h7=>Fin gW h7 fun h8=>Kr x2 (cr h.size::ds) h8)) (Kc gW gW)) (fun h4=>K1 x2 (cr h.size::ds) h4)) fun x2 ds h=>aZ x2 [.int .i64 0] 0 h fun h1=>Kr x2 ds h1) fun y2 ds h=>dE ds h fun h=>zI .i64 h y2 fun i13=>K (.int .i64 i13) h
theorem ok (ao:OA) (aj aq:Nat) (K:KV) (h:H) (hS:asks ao aj aq K h):zC 197 [.slice ao aj aq] h K:=
 P3 Tryz.func197 hS (fun hg hS=>BC (l:=L2) hg hS fun hg hS=>Sa (l:=L0) hS (fun hS=>BC (l:=L3) hg hS fun hg hS=>bl (b:=0) (P4 (.tmp 6) #[7,8] hg hS)) fun hg hS=>P5 hg hS) fun hg hS=>P6 hg hS
end Xbf
namespace Xbd
abbrev L0:=[Zb 4]
variable (cz:Int) (cD:List UInt8) (kX:OA) (kY kZ:Nat) (dh:Int) (di:List UInt8) (eZ:OA) (fb fc:Nat)
variable (K:KV) (h:H)
abbrev asks:Prop:=cF L0 (fun Kr=>aw h ⟨[.int .i64 cz,S cD,.slice kX kY kZ]⟩ 79 fun a1 h2=>aw h2 ⟨[.int .i64 dh,S di,.slice eZ fb fc]⟩ 79 fun a3 h4=>zT h4 (a1.add 1) fun s5=>zT h4 (a3.add 1) fun s6=>aO (s5=s6) (zS h4 (a1.add 2) fun yT zY yu=>zS h4 (a3.add 2) fun ri qF ui=>aO ((zY:Int)=(qF:Int)) (zS h4 (a1.add 2) fun wa uX yV=>zC 219 [.slice wa uX yV,(.func (.func 217) ⟨[]⟩ ⟨[.pointer (some a3)]⟩)] h4 fun v10 eF=>au v10 fun VL=>cond VL (Kr false eF) (Kr true eF)) (Kr false h4)) (Kr false h4)) fun y4 h=>K (.bool y4) h
theorem ok (q:asks cz cD kX kY kZ dh di eZ fb fc K h):zC 198 [(.agg ⟨[.int .i64 cz,S cD,.slice kX kY kZ]⟩),(.agg ⟨[.int .i64 dh,S di,.slice eZ fb fc]⟩)] h K:=
 cl Tryz.func198 q (fun p q=>lf p q) fun p q=>rt p q
end Xbd
namespace Xbe
abbrev L0:=[Zb 3]
variable (cz cD:List UInt8) (x1:Addr)
variable (K:KV) (h:H)
abbrev asks:Prop:=cF L0 (fun Kr=>aw h ⟨[S cz,S cD]⟩ 67 fun a1 h2=>zS h2 (x1.add 2) fun wg r8 u6=>zT h2 (a1.add 0) fun s4=>zT h2 (a1.add 1) fun s5=>zC 218 [.slice wg r8 u6,(.agg ⟨[S s4,S s5]⟩)] h2 fun v6 h7=>au v6 fun b8=>cond b8 (Kr false h7) (Kr true h7)) fun y3 h=>K (.bool y3) h
theorem ok (q:asks cz cD x1 K h):zC 217 [(.agg ⟨[S cz,S cD]⟩),.pointer (some x1)] h K:=
 cl Tryz.func217 q (fun p q=>lf p q) fun p q=>rt p q
end Xbe
namespace Xf4
abbrev L0:=[Zb 4]
variable (ao:OA) (aj aq:Nat) (dh di:List UInt8)
variable (K:KV) (h:H)
abbrev asks:Prop:=cF L0 (fun Kr=>aw h ⟨[S dh,S di]⟩ 67 fun a1 h2=>zT h2 (a1.add 0) fun s3=>zT h2 (a1.add 1) fun s4=>zC 233 [.slice ao aj aq,(.agg ⟨[S s3,S s4]⟩)] h2 fun v5 h6=>aL .i64 v5 fun i7=>aO (i7 ≥ 0) (Kr true h6) (Kr false h6)) fun y4 h=>K (.bool y4) h
theorem ok (q:asks ao aj aq dh di K h):zC 218 [.slice ao aj aq,(.agg ⟨[S dh,S di]⟩)] h K:=
 cl Tryz.func218 q (fun p q=>lf p q) fun p q=>rt p q
end Xf4
namespace Xf2
abbrev L0:=[Zb 4]
variable (ao:OA) (aj aq:Nat) (x1:Value)
variable (K:KV) (h:H)
abbrev asks:Prop:=cF L0 (fun Kr=>zC 234 [.slice ao aj aq,x1] h fun v1 h2=>aL .i64 v1 fun i3=>aO (i3 ≥ 0) (Kr true h2) (Kr false h2)) fun y4 h=>K (.bool y4) h
theorem ok (q:asks ao aj aq x1 K h):zC 219 [.slice ao aj aq,x1] h K:=
 cl Tryz.func219 q (fun p q=>lf p q) fun p q=>rt p q
end Xf2
namespace Xgc
abbrev L3:List Sl:=[]
abbrev L4:=[Zl 0,Za 3,Z6 7,Z6 8]
abbrev L0:=[Z6 4]
abbrev L2:=[Zl 0,Za 3]
abbrev T3:=TK L3
abbrev T0:=TK L0
abbrev T4:=TK L4
variable (ao:OA) (aj aq:Nat) (dh di:List UInt8)
abbrev bS (Kn Ke0:T3) (Kr:T0):T4->T4:=fun K2 ao aj aq x3 x7 x8 h=>aO (x8<x7) (zT h (x3.add 0) fun s1=>zT h (x3.add 1) fun s2=>(0<=x8/\x8<(aj:Int))/\(ae ao fun a3=>zT h (((a3.add (Int.toNat x8*2))).add 0) fun s4=>zT h (((a3.add (Int.toNat x8*2))).add 1) fun s5=>ue Tryz.prog (dX .eql 67 (.tmp 11) (.tmp 15) (.agg ⟨[S s1,S s2]⟩) (.agg ⟨[S s4,S s5]⟩)) h fun v6=>au v6 fun b7=>cond b7 (Kr x8 h) (bc .i64 (x8+(1:Int))/\(K2 ao aj aq x3 x7 (x8+(1:Int)) h)))) (Ke0 h)
abbrev cR (Kn Ke0:T3) (Kr:T0):Nat->T4:=LP L4 (bS Kn Ke0 Kr)
variable (K:KV) (h:H)
abbrev asks (ao:OA) (aj aq:Nat) (dh di:List UInt8) (K:KV) (h:H):Prop:=cF L0 (fun Kr=>aB L2 (fun K4=>aw h ⟨[S dh,S di]⟩ 67 fun a8 h9=>K4 ao aj aq a8 h9) fun ao aj aq x3 h=>aB L3 (fun K1=>aB L4 (fun K3=>K3 ao aj aq x3 (aj:Int) 0 h) fun ao aj aq x3 x7 x8 h=>il L4 (bS K1 K1 Kr) fun K2=>K2 ao aj aq x3 x7 x8 h) fun h=>Kr (-1) h) fun y4 h=>K (.int .i64 y4) h
theorem ok (q:asks ao aj aq dh di K h):zC 233 [.slice ao aj aq,(.agg ⟨[S dh,S di]⟩)] h K:=
 cl Tryz.func233 q (fun p q=>sq (l:=L2) p q fun p q=>sc (l:=L3) q (fun q=>sq (l:=L4) p q fun p q=>bl (b:=0) (lp p q fun p q=>lf p q)) fun p q=>lf p q) fun p q=>rt p q
end Xgc
namespace Xf9
abbrev L2:List Sl:=[]
abbrev L3:=[Zl 0,Zr 1,Z6 7,Z6 8]
abbrev L0:=[Z6 4]
abbrev L1:=[Zl 0,Zr 1]
abbrev T2:=TK L2
abbrev T0:=TK L0
abbrev T3:=TK L3
variable (ao:OA) (aj aq:Nat) (x1:Value)
abbrev bS (Kn Ke0:T2) (Kr:T0):T3->T3:=fun K2 ao aj aq x1 x7 x8 h=>aO (x8<x7) ((0<=x8/\x8<(aj:Int))/\(ae ao fun a1=>zT h (((a1.add (Int.toNat x8*2))).add 0) fun s2=>zT h (((a1.add (Int.toNat x8*2))).add 1) fun s3=>fT Tryz.prog 4 x1 ⟨[(.agg ⟨[S s2,S s3]⟩)]⟩ h fun v4 h5=>au v4 fun b6=>cond b6 (Kr x8 h5) (bc .i64 (x8+(1:Int))/\(K2 ao aj aq x1 x7 (x8+(1:Int)) h5)))) (Ke0 h)
abbrev cR (Kn Ke0:T2) (Kr:T0):Nat->T3:=LP L3 (bS Kn Ke0 Kr)
variable (K:KV) (h:H)
abbrev asks (ao:OA) (aj aq:Nat) (x1:Value) (K:KV) (h:H):Prop:=cF L0 (fun Kr=>aB L1 (fun K4=>K4 ao aj aq x1 h) fun ao aj aq x1 h=>aB L2 (fun K1=>aB L3 (fun K3=>K3 ao aj aq x1 (aj:Int) 0 h) fun ao aj aq x1 x7 x8 h=>il L3 (bS K1 K1 Kr) fun K2=>K2 ao aj aq x1 x7 x8 h) fun h=>Kr (-1) h) fun y4 h=>K (.int .i64 y4) h
theorem ok (q:asks ao aj aq x1 K h):zC 234 [.slice ao aj aq,x1] h K:=
 cl Tryz.func234 q (fun p q=>sq (l:=L1) p q fun p q=>sc (l:=L2) q (fun q=>sq (l:=L3) p q fun p q=>bl (b:=0) (lp p q fun p q=>lf p q)) fun p q=>lf p q) fun p q=>rt p q
end Xf9
namespace Xa6
abbrev L0:=[Zl 2]
variable (ao:OA) (aj aq:Nat)
variable (K:KV) (h:H)
abbrev asks:Prop:=cF L0 (fun Kr=>zC 197 [.slice ao aj aq] h fun v1 h2=>aL .i64 v1 fun i3=>aO (i3>(0:Int)) (bc .i64 (i3 - (1:Int))/\((0<=(0:Int)/\0<=(i3 - (1:Int))/\(i3 - (1:Int))<=(aq:Int))/\(zC 63 [(.slice (if aq=Int.toNat 0 then ao else Option.map (fun q=>q.add (Int.toNat (0:Int)*3)) ao) (Int.toNat (i3 - (1:Int)) - Int.toNat 0) (aq - Int.toNat 0))] h2 fun v4 h5=>aA v4 fun jH gn lj=>Kr jH gn lj h5))) (Kr none 0 0 h2)) fun gq gr gu h=>K (.slice gq gr gu) h
theorem ok (q:asks ao aj aq K h):zC 159 [.slice ao aj aq] h K:=
 cl Tryz.func159 q (fun p q=>lf p q) fun p q=>rt p q
end Xa6
end Go.Proofs
