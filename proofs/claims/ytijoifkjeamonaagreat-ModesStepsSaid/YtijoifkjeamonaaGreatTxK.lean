/- Own text. No condition. -/
import Derived.Test.YtijoifkjeamonaaGreatHc
import Derived.Test.YtijoifkjeamonaaGreatShR
import Derived.Test.YtijoifkjeamonaaGreatProg
namespace Go.Proofs
open Go Go.Sh
set_option linter.unusedVariables false
set_option maxRecDepth 100000
namespace Xcx
abbrev L0:=[Zb 2]
variable (x0:List UInt8)
variable (K:KV) (h:H)
abbrev asks:Prop:=cF L0 (fun Kr=>zC 157 [S [32,97,32,98,32,98,105,103,32,99,111,100,101,32,101,109,32,102,111,110,116,32,105,32,110,111,98,114,32,115,32,115,109,97,108,108,32,115,116,114,105,107,101,32,115,116,114,111,110,103,32,116,116,32,117,32],S x0] h fun v1 h2=>au v1 fun b3=>cond b3 (Kr true h2) (Kr false h2)) fun y2 h=>K (.bool y2) h
theorem ok (q:asks x0 K h):zC 91 [S x0] h K:=
 cl Tryz.func91 q (fun p q=>lf p q) fun p q=>rt p q
end Xcx
namespace Xc0
abbrev L0:=[Za 4]
abbrev L3:=[Za 3,Za 4,Zr 8]
abbrev L2:=[Zl 0,Za 3,Za 4]
abbrev asks (ao:OA) (aj aq:Nat) (bM:OA) (bI bV:Nat) (K:KV) (h:H):Prop:=nF L0 (fun Kr=>nF L2 (fun K3=>aw h #[.slice bM bI bV] 104 fun O3 qi=>aw qi #[.int .i64 0] 3 fun Gy lX=>K3 ao aj aq O3 Gy [] lX) fun ao aj aq x3 x4 ds h=>nF L0 (fun K1=>nF L3 (fun K2=>zC 178 [.slice ao aj aq] h fun B0 lW=>K2 x3 x4 B0 ds lW) fun x3 x4 x8 ds h=>Oo Tryz.prog x8 2 [.o 9 (.i .i64),.g 10 [.i .i64,.i .u8,.s,.i .u8]] h (fun p9 sU sV DX DY Mid Kc Fin h1=>aw h1 ⟨[.int .i64 0,.int .u8 0,S [],.int .u8 0]⟩ 77 fun a2 h3=>bc a2 [.int .i64 sU,.int .u8 sV,S DX,.int .u8 DY] 0 h3 fun h4=>Mid h4 fun gN=>zI .i64 gN (a2.add 0) fun i6=>zI .u8 gN (a2.add 1) fun i7=>zT gN (a2.add 2) fun s8=>zI .u8 gN (a2.add 3) fun i9=>zS gN x3 fun jf iD kY=>zC 179 [(.agg ⟨[.int .i64 i6,.int .u8 i7,S s8,.int .u8 i9]⟩),.slice jf iD kY] gN fun v11 eL=>au v11 fun F8=>cond F8 (bc x4 [.int .i64 p9] 0 eL fun dx=>Fin gN dx fun gA=>Kr x4 (cu h.size::ds) gA) (zI .u8 eL (a2.add 1) fun i16=>zT eL (a2.add 2) fun OB=>zC 162 [.int .u8 i16,S OB] eL fun HP qs=>au HP fun Wg=>cond Wg (zI .i64 qs (a2.add 0) fun i21=>zI .u8 qs (a2.add 1) fun i22=>zT qs (a2.add 2) fun VF=>zI .u8 qs (a2.add 3) fun i24=>aw qs #[S [97,100,100,114,101,115,115],S [100,105,118],S [112]] 9 fun a25 od=>zC 179 [(.agg ⟨[.int .i64 i21,.int .u8 i22,S VF,.int .u8 i24]⟩),.slice (some a25) 3 3] od fun zY lY=>au zY fun Jc=>cond Jc (Kc gN lY) (bc x4 [.int .i64 (-1)] 0 lY fun u3=>Fin gN u3 fun yh=>Kr x4 (cu h.size::ds) yh)) (Kc gN qs))) (fun h4=>K1 x4 (cu h.size::ds) h4)) fun x4 ds h=>bc x4 [.int .i64 (-1)] 0 h fun h1=>Kr x4 ds h1) fun y4 ds h=>dE ds h fun h=>zI .i64 h y4 fun i38=>K (.int .i64 i38) h
theorem ok (ao:OA) (aj aq:Nat) (bM:OA) (bI bV:Nat) (K:KV) (h:H) (hS:asks ao aj aq bM bI bV K h):zC 190 [.slice ao aj aq,.slice bM bI bV] h K:=
 Qe Tryz.func190 hS (fun hg hS=>BG (l:=L2) hg hS fun hg hS=>Ss (l:=L0) hS (fun hS=>BG (l:=L3) hg hS fun hg hS=>bl (b:=0) (Qf (.tmp 8) #[9,10] hg hS)) fun hg hS=>Qg hg hS) fun hg hS=>Qh hg hS
end Xc0
namespace Xcy
abbrev L0:=[Za 4]
abbrev L3:=[Za 3,Za 4,Zr 8]
abbrev L2:=[Zl 0,Za 3,Za 4]
abbrev asks (ao:OA) (aj aq:Nat) (x1:List UInt8) (K:KV) (h:H):Prop:=nF L0 (fun Kr=>nF L2 (fun K3=>aw h #[S x1] 9 fun a21 mB=>aw mB #[.int .i64 0] 3 fun a23 mC=>K3 ao aj aq a21 a23 [] mC) fun ao aj aq x3 x4 ds h=>nF L0 (fun K1=>nF L3 (fun K2=>zC 178 [.slice ao aj aq] h fun xv gm=>K2 x3 x4 xv ds gm) fun x3 x4 x8 ds h=>Oo Tryz.prog x8 2 [.o 9 (.i .i64),.g 10 [.i .i64,.i .u8,.s,.i .u8]] h (fun p9 sU sV DX DY Mid Kc Fin h1=>aw h1 ⟨[.int .i64 0,.int .u8 0,S [],.int .u8 0]⟩ 77 fun a2 h3=>bc a2 [.int .i64 sU,.int .u8 sV,S DX,.int .u8 DY] 0 h3 fun h4=>Mid h4 fun gN=>zI .u8 gN (a2.add 1) fun i6=>aM (i6=(0:Int)) (zT gN (a2.add 2) fun s7=>zT gN x3 fun s8=>aM (s7=s8) (bd .i64 (p9+(1:Int))/\(bc x4 [.int .i64 (p9+(1:Int))] 0 gN fun h9=>Fin gN h9 fun df=>Kr x4 (cu h.size::ds) df)) (zT gN (a2.add 2) fun ve=>zC 157 [S [32,100,100,32,100,116,32,108,105,32,111,112,116,103,114,111,117,112,32,111,112,116,105,111,110,32,112,32,114,98,32,114,112,32,114,116,32,114,116,99,32],S ve] gN fun v12 fI=>au v12 fun b14=>cond b14 (Kc gN fI) (bd .i64 (p9+(1:Int))/\(bc x4 [.int .i64 (p9+(1:Int))] 0 fI fun gA=>Fin gN gA fun gZ=>Kr x4 (cu h.size::ds) gZ)))) (bd .i64 (p9+(1:Int))/\(bc x4 [.int .i64 (p9+(1:Int))] 0 gN fun fh=>Fin gN fh fun gI=>Kr x4 (cu h.size::ds) gI))) (fun h4=>K1 x4 (cu h.size::ds) h4)) fun x4 ds h=>bc x4 [.int .i64 0] 0 h fun h1=>Kr x4 ds h1) fun y4 ds h=>dE ds h fun h=>zI .i64 h y4 fun i25=>K (.int .i64 i25) h
theorem ok (ao:OA) (aj aq:Nat) (x1:List UInt8) (K:KV) (h:H) (hS:asks ao aj aq x1 K h):zC 192 [.slice ao aj aq,S x1] h K:=
 Qe Tryz.func192 hS (fun hg hS=>BG (l:=L2) hg hS fun hg hS=>Ss (l:=L0) hS (fun hS=>BG (l:=L3) hg hS fun hg hS=>bl (b:=0) (Qf (.tmp 8) #[9,10] hg hS)) fun hg hS=>Qg hg hS) fun hg hS=>Qh hg hS
end Xcy
namespace NT
abbrev L0:=[Zl 4]
abbrev L3:=[Zl 0,Z6 5]
abbrev L4:=[Zl 0,Zr 1,Z6 5,Z6 6]
abbrev L2:=[Zl 0,Zr 1,Z6 5]
abbrev L1:=[Zl 0,Zr 1]
abbrev T0:=TK L0
abbrev T3:=TK L3
abbrev T4:=TK L4
variable (ao:OA) (aj aq:Nat) (x1:Value) (x5:Int)
abbrev n5 (Kn Kr:T0) (h:H):Prop:=
 (0<=x5/\x5<=(aj:Int)/\(aj:Int)<=(aq:Int))/\(aZ Tryz.prog (Builtin.clear_ #[40] 0 ⟨[(.slice (if aq=Int.toNat x5 then ao else Option.map (fun q=>q.add (Int.toNat x5*3)) ao) (Int.toNat (aj:Int) - Int.toNat x5) (aq - Int.toNat x5))]⟩) h fun v1 h2=>(0<=(0:Int)/\0<=x5/\x5<=(aq:Int))/\(Kr (if aq=Int.toNat 0 then ao else Option.map (fun q=>q.add (Int.toNat (0:Int)*3)) ao) (Int.toNat x5 - Int.toNat 0) (aq - Int.toNat 0) h2))
abbrev iq (Kn Ke0:T3) (Kr:T0):T4->T4:=fun K2 ao aj aq x1 x5 x6 h=>aM (x6<(aj:Int)) ((0<=x6/\x6<(aj:Int))/\(ae ao fun a3=>zI .i64 h (((a3.add (Int.toNat x6*3))).add 0) fun i4=>zT h (((a3.add (Int.toNat x6*3))).add 1) fun s5=>zS h (((a3.add (Int.toNat x6*3))).add 2) fun lO gV mM=>aw h ⟨[.int .i64 0,S [],.slice none 0 0]⟩ 79 fun a7 h8=>bc a7 [.int .i64 i4,S s5,.slice lO gV mM] 0 h8 fun h9=>zI .i64 h9 (a7.add 0) fun i10=>zT h9 (a7.add 1) fun ve=>zS h9 (a7.add 2) fun pB lS pC=>fQ Tryz.prog 4 x1 ⟨[(.agg ⟨[.int .i64 i10,S ve,.slice pB lS pC]⟩)]⟩ h9 fun mu dx=>au mu fun Jm=>cond Jm (bd .i64 (x6+(1:Int))/\(K2 ao aj aq x1 x5 (x6+(1:Int)) dx)) (zI .i64 dx (a7.add 0) fun i16=>zT dx (a7.add 1) fun OB=>zS dx (a7.add 2) fun gC fw fT=>(0<=x5/\x5<(aj:Int))/\(ae ao fun jh=>bc (jh.add (Int.toNat x5*3)) [.int .i64 i16,S OB,.slice gC fw fT] 0 dx fun gm=>bd .i64 (x5+(1:Int))/\(bd .i64 (x6+(1:Int))/\(K2 ao aj aq x1 (x5+(1:Int)) (x6+(1:Int)) gm)))))) (Ke0 ao aj aq x5 h)
abbrev gz (Kn Ke0:T3) (Kr:T0):Nat->T4:=LP L4 (iq Kn Ke0 Kr)
variable (K:KV) (h:H)
abbrev asks (ao:OA) (aj aq:Nat) (x1:Value) (K:KV) (h:H):Prop:=cF L0 (fun Kr=>aA L1 (fun K6=>K6 ao aj aq x1 h) fun ao aj aq x1 h=>aA L2 (fun K5=>zC 193 [.slice ao aj aq,x1] h fun v21 mB=>aL .i64 v21 fun i23=>K5 ao aj aq x1 i23 mB) fun ao aj aq x1 x5 h=>aA L2 (fun K4=>aM (x5=(-1:Int)) (Kr ao aj aq h) (K4 ao aj aq x1 x5 h)) fun ao aj aq x1 x5 h=>aA L3 (fun K1=>aA L4 (fun K3=>bd .i64 (x5+(1:Int))/\(K3 ao aj aq x1 x5 (x5+(1:Int)) h)) fun ao aj aq x1 x5 x6 h=>iy L4 (iq K1 K1 Kr) fun K2=>K2 ao aj aq x1 x5 x6 h) fun ao aj aq x5 h=>n5 ao aj aq x5 Kr Kr h) fun fE fF fG h=>K (.slice fE fF fG) h
theorem ok (q:asks ao aj aq x1 K h):zC 153 [.slice ao aj aq,x1] h K:=
 cl Tryz.func153 q (fun p q=>sq (l:=L1) p q fun p q=>sq (l:=L2) p q fun p q=>sq (l:=L2) p q fun p q=>sc (l:=L3) q (fun q=>sq (l:=L4) p q fun p q=>bl (b:=0) (lp p q fun p q=>lf p q)) fun p q=>lf p q) fun p q=>rt p q
end NT
namespace Q5
abbrev L0:=[Zl 4]
abbrev L5:=[Zl 5,Zl 6]
abbrev L6:=[Zl 0,Za 3,Zl 5,Zl 6,Z6 7]
abbrev L4:=[Zl 0,Za 3,Zl 5,Zl 6]
abbrev L3:=[Zl 0,Za 3,Zl 5]
abbrev L2:=[Zl 0,Za 3]
abbrev T0:=TK L0
abbrev T5:=TK L5
abbrev T6:=TK L6
variable (ao:OA) (aj aq:Nat) (dh:Int) (di:List UInt8) (eY:OA) (eZ fb:Nat) (ud:OA) (uY tl:Nat) (og:OA) (nG oJ:Nat)
abbrev n6 (ud:OA) (uY tl:Nat) (og:OA) (nG oJ:Nat) (Kn Kr:T0) (h:H):Prop:=
 aM ((nG:Int)<3) (Kr ud uY tl h) ((0<=(0:Int)/\0<(nG:Int))/\(ae og fun a1=>zI .i64 h (a1.add (Int.toNat (0:Int)*1)) fun i2=>(0<=(0:Int)/\0<=i2/\i2<=(tl:Int))/\((0<=(0:Int)/\0<(nG:Int))/\(ae og fun a3=>zI .i64 h (a3.add (Int.toNat (0:Int)*1)) fun i4=>bd .i64 (i4+(1:Int))/\((0<=(i4+(1:Int))/\(i4+(1:Int))<=(uY:Int)/\(uY:Int)<=(tl:Int))/\(zC 63 [(.slice (if tl=Int.toNat 0 then ud else Option.map (fun q=>q.add (Int.toNat (0:Int)*3)) ud) (Int.toNat i2 - Int.toNat 0) (tl - Int.toNat 0))] h fun v5 h6=>aB v5 fun yU Ab yt=>bG h h6/\(aZ Tryz.prog (Builtin.append_ #[40,40] 40 ⟨[.slice yU Ab yt,(.slice (if tl=Int.toNat (i4+(1:Int)) then ud else Option.map (fun q=>q.add (Int.toNat (i4+(1:Int))*3)) ud) (Int.toNat (uY:Int) - Int.toNat (i4+(1:Int))) (tl - Int.toNat (i4+(1:Int))))]⟩) h6 fun v8 h9=>aB v8 fun jf iD kY=>Kr jf iD kY h9)))))))
abbrev F6 (Kn Ke0:T5) (Kr:T0):T6->T6:=fun K2 ao aj aq x3 ud uY tl og nG oJ x7 h=>aM (x7<(aj:Int)) (zI .i64 h (x3.add 0) fun i11=>zT h (x3.add 1) fun jU=>zS h (x3.add 2) fun jK jv lg=>(0<=x7/\x7<(aj:Int))/\(ae ao fun lE=>zI .i64 h (((lE.add (Int.toNat x7*3))).add 0) fun i15=>zT h (((lE.add (Int.toNat x7*3))).add 1) fun MC=>zS h (((lE.add (Int.toNat x7*3))).add 2) fun qx oB qy=>zC 198 [(.agg ⟨[.int .i64 i11,S jU,.slice jK jv lg]⟩),(.agg ⟨[.int .i64 i15,S MC,.slice qx oB qy]⟩)] h fun HP qs=>au HP fun Wg=>cond Wg (aw qs #[.int .i64 x7] 3 fun a21 mB=>aZ Tryz.prog (Builtin.append_ #[82,82] 82 ⟨[.slice og nG oJ,.slice (some a21) 1 1]⟩) mB fun v23 mC=>aB v23 fun NF NG NH=>bd .i64 (x7+(1:Int))/\(K2 ao aj aq x3 ud uY tl NF NG NH (x7+(1:Int)) mC)) (bd .i64 (x7+(1:Int))/\(K2 ao aj aq x3 ud uY tl og nG oJ (x7+(1:Int)) qs)))) (Ke0 ud uY tl og nG oJ h)
abbrev F7 (Kn Ke0:T5) (Kr:T0):Nat->T6:=LP L6 (F6 Kn Ke0 Kr)
variable (K:KV) (h:H)
abbrev asks (ao:OA) (aj aq:Nat) (dh:Int) (di:List UInt8) (eY:OA) (eZ fb:Nat) (K:KV) (h:H):Prop:=cF L0 (fun Kr=>aA L2 (fun K7=>aw h ⟨[.int .i64 dh,S di,.slice eY eZ fb]⟩ 79 fun Jn yq=>K7 ao aj aq Jn yq) fun ao aj aq x3 h=>aA L3 (fun K6=>(0<=(0:Int)/\0<=(aj:Int)/\(aj:Int)<=(aj:Int)/\(aj:Int)<=(aq:Int))/\(zI .i64 h (x3.add 0) fun i30=>zT h (x3.add 1) fun s31=>zS h (x3.add 2) fun za xQ xR=>aw h #[.int .i64 i30,S s31,.slice za xQ xR] 79 fun EF tY=>aZ Tryz.prog (Builtin.append_ #[40,40] 40 ⟨[(.slice (if Int.toNat (aj:Int)=Int.toNat 0 then ao else Option.map (fun q=>q.add (Int.toNat (0:Int)*3)) ao) (Int.toNat (aj:Int) - Int.toNat 0) (Int.toNat (aj:Int) - Int.toNat 0)),.slice (some EF) 1 1]⟩) tY fun Kj uq=>aB Kj fun QV QW QY=>K6 ao aj aq x3 QV QW QY uq)) fun ao aj aq x3 ud uY tl h=>aA L3 (fun K5=>zI .i64 h (x3.add 0) fun i29=>aM (i29<(0:Int)) (Kr ud uY tl h) (K5 ao aj aq x3 ud uY tl h)) fun ao aj aq x3 ud uY tl h=>aA L4 (fun K4=>K4 ao aj aq x3 ud uY tl none 0 0 h) fun ao aj aq x3 ud uY tl og nG oJ h=>aA L5 (fun K1=>aA L6 (fun K3=>zC 197 [.slice ao aj aq] h fun v26 CH=>aL .i64 v26 fun i28=>K3 ao aj aq x3 ud uY tl og nG oJ i28 CH) fun ao aj aq x3 ud uY tl og nG oJ x7 h=>iy L6 (F6 K1 K1 Kr) fun K2=>K2 ao aj aq x3 ud uY tl og nG oJ x7 h) fun ud uY tl og nG oJ h=>n6 ud uY tl og nG oJ Kr Kr h) fun fE fF fG h=>K (.slice fE fF fG) h
theorem ok (q:asks ao aj aq dh di eY eZ fb K h):zC 156 [.slice ao aj aq,(.agg ⟨[.int .i64 dh,S di,.slice eY eZ fb]⟩)] h K:=
 cl Tryz.func156 q (fun p q=>sq (l:=L2) p q fun p q=>sq (l:=L3) p q fun p q=>sq (l:=L3) p q fun p q=>sq (l:=L4) p q fun p q=>sc (l:=L5) q (fun q=>sq (l:=L6) p q fun p q=>bl (b:=0) (lp p q fun p q=>lf p q)) fun p q=>lf p q) fun p q=>rt p q
end Q5
namespace Xbf
abbrev L0:=[Za 2]
abbrev L3:=[Za 2,Zr 6]
abbrev L2:=[Zl 0,Za 2]
abbrev asks (ao:OA) (aj aq:Nat) (K:KV) (h:H):Prop:=nF L0 (fun Kr=>nF L2 (fun K3=>aw h #[.int .i64 0] 3 fun jC eL=>K3 ao aj aq jC [] eL) fun ao aj aq x2 ds h=>nF L0 (fun K1=>nF L3 (fun K2=>zC 136 [.slice ao aj aq] h fun v9 df=>K2 x2 v9 ds df) fun x2 x6 ds h=>Oo Tryz.prog x6 2 [.o 7 (.i .i64),.g 8 [.i .i64,.s,.l]] h (fun p7 ahJ ahK aaR aaS aaT Mid Kc Fin h1=>aw h1 ⟨[.int .i64 0,S [],.slice none 0 0]⟩ 79 fun a2 h3=>bc a2 [.int .i64 ahJ,S ahK,.slice aaR aaS aaT] 0 h3 fun h4=>Mid h4 fun gN=>zI .i64 gN (a2.add 0) fun i6=>aM (i6<(0:Int)) (bd .i64 (p7+(1:Int))/\(bc x2 [.int .i64 (p7+(1:Int))] 0 gN fun h7=>Fin gN h7 fun h8=>Kr x2 (cu h.size::ds) h8)) (Kc gN gN)) (fun h4=>K1 x2 (cu h.size::ds) h4)) fun x2 ds h=>bc x2 [.int .i64 0] 0 h fun h1=>Kr x2 ds h1) fun y2 ds h=>dE ds h fun h=>zI .i64 h y2 fun i13=>K (.int .i64 i13) h
theorem ok (ao:OA) (aj aq:Nat) (K:KV) (h:H) (hS:asks ao aj aq K h):zC 197 [.slice ao aj aq] h K:=
 Qe Tryz.func197 hS (fun hg hS=>BG (l:=L2) hg hS fun hg hS=>Ss (l:=L0) hS (fun hS=>BG (l:=L3) hg hS fun hg hS=>bl (b:=0) (Qf (.tmp 6) #[7,8] hg hS)) fun hg hS=>Qg hg hS) fun hg hS=>Qh hg hS
end Xbf
namespace Xbd
abbrev L0:=[Zb 4]
variable (cE:Int) (cG:List UInt8) (kN:OA) (kO kP:Nat) (dh:Int) (di:List UInt8) (eY:OA) (eZ fb:Nat)
variable (K:KV) (h:H)
abbrev asks:Prop:=cF L0 (fun Kr=>aw h ⟨[.int .i64 cE,S cG,.slice kN kO kP]⟩ 79 fun a1 h2=>aw h2 ⟨[.int .i64 dh,S di,.slice eY eZ fb]⟩ 79 fun a3 h4=>zT h4 (a1.add 1) fun s5=>zT h4 (a3.add 1) fun s6=>aM (s5=s6) (zS h4 (a1.add 2) fun yU Ab yt=>zS h4 (a3.add 2) fun rT rJ vq=>aM ((Ab:Int)=(rJ:Int)) (zS h4 (a1.add 2) fun yu vU BP=>zC 219 [.slice yu vU BP,(.func (.func 217) ⟨[]⟩ ⟨[.pointer (some a3)]⟩)] h4 fun v10 eG=>au v10 fun QS=>cond QS (Kr false eG) (Kr true eG)) (Kr false h4)) (Kr false h4)) fun y4 h=>K (.bool y4) h
theorem ok (q:asks cE cG kN kO kP dh di eY eZ fb K h):zC 198 [(.agg ⟨[.int .i64 cE,S cG,.slice kN kO kP]⟩),(.agg ⟨[.int .i64 dh,S di,.slice eY eZ fb]⟩)] h K:=
 cl Tryz.func198 q (fun p q=>lf p q) fun p q=>rt p q
end Xbd
namespace Xbe
abbrev L0:=[Zb 3]
variable (cE cG:List UInt8) (x1:Addr)
variable (K:KV) (h:H)
abbrev asks:Prop:=cF L0 (fun Kr=>aw h ⟨[S cE,S cG]⟩ 67 fun a1 h2=>zS h2 (x1.add 2) fun Ai uX yv=>zT h2 (a1.add 0) fun s4=>zT h2 (a1.add 1) fun s5=>zC 218 [.slice Ai uX yv,(.agg ⟨[S s4,S s5]⟩)] h2 fun v6 h7=>au v6 fun b8=>cond b8 (Kr false h7) (Kr true h7)) fun y3 h=>K (.bool y3) h
theorem ok (q:asks cE cG x1 K h):zC 217 [(.agg ⟨[S cE,S cG]⟩),.pointer (some x1)] h K:=
 cl Tryz.func217 q (fun p q=>lf p q) fun p q=>rt p q
end Xbe
namespace Xf1
abbrev L0:=[Zb 4]
variable (ao:OA) (aj aq:Nat) (dh di:List UInt8)
variable (K:KV) (h:H)
abbrev asks:Prop:=cF L0 (fun Kr=>aw h ⟨[S dh,S di]⟩ 67 fun a1 h2=>zT h2 (a1.add 0) fun s3=>zT h2 (a1.add 1) fun s4=>zC 233 [.slice ao aj aq,(.agg ⟨[S s3,S s4]⟩)] h2 fun v5 h6=>aL .i64 v5 fun i7=>aM (i7 ≥ 0) (Kr true h6) (Kr false h6)) fun y4 h=>K (.bool y4) h
theorem ok (q:asks ao aj aq dh di K h):zC 218 [.slice ao aj aq,(.agg ⟨[S dh,S di]⟩)] h K:=
 cl Tryz.func218 q (fun p q=>lf p q) fun p q=>rt p q
end Xf1
namespace Xfz
abbrev L0:=[Zb 4]
variable (ao:OA) (aj aq:Nat) (x1:Value)
variable (K:KV) (h:H)
abbrev asks:Prop:=cF L0 (fun Kr=>zC 234 [.slice ao aj aq,x1] h fun v1 h2=>aL .i64 v1 fun i3=>aM (i3 ≥ 0) (Kr true h2) (Kr false h2)) fun y4 h=>K (.bool y4) h
theorem ok (q:asks ao aj aq x1 K h):zC 219 [.slice ao aj aq,x1] h K:=
 cl Tryz.func219 q (fun p q=>lf p q) fun p q=>rt p q
end Xfz
namespace Xf9
abbrev L3:List Sl:=[]
abbrev L4:=[Zl 0,Za 3,Z6 7,Z6 8]
abbrev L0:=[Z6 4]
abbrev L2:=[Zl 0,Za 3]
abbrev T3:=TK L3
abbrev T0:=TK L0
abbrev T4:=TK L4
variable (ao:OA) (aj aq:Nat) (dh di:List UInt8)
abbrev bU (Kn Ke0:T3) (Kr:T0):T4->T4:=fun K2 ao aj aq x3 x7 x8 h=>aM (x8<x7) (zT h (x3.add 0) fun s1=>zT h (x3.add 1) fun s2=>(0<=x8/\x8<(aj:Int))/\(ae ao fun a3=>zT h (((a3.add (Int.toNat x8*2))).add 0) fun s4=>zT h (((a3.add (Int.toNat x8*2))).add 1) fun s5=>sK Tryz.prog (dy .eql 67 (.tmp 11) (.tmp 15) (.agg ⟨[S s1,S s2]⟩) (.agg ⟨[S s4,S s5]⟩)) h fun v6=>au v6 fun b7=>cond b7 (Kr x8 h) (bd .i64 (x8+(1:Int))/\(K2 ao aj aq x3 x7 (x8+(1:Int)) h)))) (Ke0 h)
abbrev cQ (Kn Ke0:T3) (Kr:T0):Nat->T4:=LP L4 (bU Kn Ke0 Kr)
variable (K:KV) (h:H)
abbrev asks (ao:OA) (aj aq:Nat) (dh di:List UInt8) (K:KV) (h:H):Prop:=cF L0 (fun Kr=>aA L2 (fun K4=>aw h ⟨[S dh,S di]⟩ 67 fun a8 h9=>K4 ao aj aq a8 h9) fun ao aj aq x3 h=>aA L3 (fun K1=>aA L4 (fun K3=>K3 ao aj aq x3 (aj:Int) 0 h) fun ao aj aq x3 x7 x8 h=>iy L4 (bU K1 K1 Kr) fun K2=>K2 ao aj aq x3 x7 x8 h) fun h=>Kr (-1) h) fun y4 h=>K (.int .i64 y4) h
theorem ok (q:asks ao aj aq dh di K h):zC 233 [.slice ao aj aq,(.agg ⟨[S dh,S di]⟩)] h K:=
 cl Tryz.func233 q (fun p q=>sq (l:=L2) p q fun p q=>sc (l:=L3) q (fun q=>sq (l:=L4) p q fun p q=>bl (b:=0) (lp p q fun p q=>lf p q)) fun p q=>lf p q) fun p q=>rt p q
end Xf9
namespace Xf6
abbrev L2:List Sl:=[]
abbrev L3:=[Zl 0,Zr 1,Z6 7,Z6 8]
abbrev L0:=[Z6 4]
abbrev L1:=[Zl 0,Zr 1]
abbrev T2:=TK L2
abbrev T0:=TK L0
abbrev T3:=TK L3
variable (ao:OA) (aj aq:Nat) (x1:Value)
abbrev bU (Kn Ke0:T2) (Kr:T0):T3->T3:=fun K2 ao aj aq x1 x7 x8 h=>aM (x8<x7) ((0<=x8/\x8<(aj:Int))/\(ae ao fun a1=>zT h (((a1.add (Int.toNat x8*2))).add 0) fun s2=>zT h (((a1.add (Int.toNat x8*2))).add 1) fun s3=>fQ Tryz.prog 4 x1 ⟨[(.agg ⟨[S s2,S s3]⟩)]⟩ h fun v4 h5=>au v4 fun b6=>cond b6 (Kr x8 h5) (bd .i64 (x8+(1:Int))/\(K2 ao aj aq x1 x7 (x8+(1:Int)) h5)))) (Ke0 h)
abbrev cQ (Kn Ke0:T2) (Kr:T0):Nat->T3:=LP L3 (bU Kn Ke0 Kr)
variable (K:KV) (h:H)
abbrev asks (ao:OA) (aj aq:Nat) (x1:Value) (K:KV) (h:H):Prop:=cF L0 (fun Kr=>aA L1 (fun K4=>K4 ao aj aq x1 h) fun ao aj aq x1 h=>aA L2 (fun K1=>aA L3 (fun K3=>K3 ao aj aq x1 (aj:Int) 0 h) fun ao aj aq x1 x7 x8 h=>iy L3 (bU K1 K1 Kr) fun K2=>K2 ao aj aq x1 x7 x8 h) fun h=>Kr (-1) h) fun y4 h=>K (.int .i64 y4) h
theorem ok (q:asks ao aj aq x1 K h):zC 234 [.slice ao aj aq,x1] h K:=
 cl Tryz.func234 q (fun p q=>sq (l:=L1) p q fun p q=>sc (l:=L2) q (fun q=>sq (l:=L3) p q fun p q=>bl (b:=0) (lp p q fun p q=>lf p q)) fun p q=>lf p q) fun p q=>rt p q
end Xf6
namespace Xa6
abbrev L0:=[Zl 2]
variable (ao:OA) (aj aq:Nat)
variable (K:KV) (h:H)
abbrev asks:Prop:=cF L0 (fun Kr=>zC 197 [.slice ao aj aq] h fun v1 h2=>aL .i64 v1 fun i3=>aM (i3>(0:Int)) (bd .i64 (i3 - (1:Int))/\((0<=(0:Int)/\0<=(i3 - (1:Int))/\(i3 - (1:Int))<=(aq:Int))/\(zC 63 [(.slice (if aq=Int.toNat 0 then ao else Option.map (fun q=>q.add (Int.toNat (0:Int)*3)) ao) (Int.toNat (i3 - (1:Int)) - Int.toNat 0) (aq - Int.toNat 0))] h2 fun v4 h5=>aB v4 fun lO gV mM=>Kr lO gV mM h5))) (Kr none 0 0 h2)) fun qj qk ql h=>K (.slice qj qk ql) h
theorem ok (q:asks ao aj aq K h):zC 159 [.slice ao aj aq] h K:=
 cl Tryz.func159 q (fun p q=>lf p q) fun p q=>rt p q
end Xa6
end Go.Proofs
