/- Own text. No condition. -/
import Derived.Test.YtijoifkjeamonaaGreatHc
import Derived.Test.YtijoifkjeamonaaGreatShR
import Derived.Test.YtijoifkjeamonaaGreatProg
namespace Go.Proofs
open Go Go.Sh
set_option linter.unusedVariables false
set_option maxRecDepth 100000
namespace Xem
abbrev L0:=[Zp 0]
variable (K:KV) (h:H)
abbrev asks:Prop:=cF L0 (fun Kr=>zC 52 [] h fun v1 h2=>lr v1 fun p3=>aw h2 #[.int .i64 0,.int .u8 0,S [104,116,109,108],.int .u8 0] 77 fun a4 h5=>aw h5 ⟨[.pointer p3,.slice (some a4) 1 1,.slice none 0 0,.bool false,.int .i64 1]⟩ 58 fun a6 h7=>Kr (some a6) h7) fun y0 h=>K (.pointer y0) h
theorem ok (q:asks K h):zC 34 [] h K:=
 cl Tryz.func34 q (fun p q=>lf p q) fun p q=>rt p q
end Xem
namespace Xeq
abbrev L0:=[Z6 6]
abbrev L5:=[Zp 0,Z8 1,Za 5,Z6 9]
abbrev L4:=[Zp 0,Z8 1,Za 5,Z6 7,Z6 8,Z6 9]
abbrev L3:=[Zp 0,Z8 1,Za 5,Z6 7,Z6 8]
abbrev L2:=[Zp 0,Z8 1,Za 5]
abbrev T0:=TK L0
variable (x0:OA) (x1 nT:Int) (nU:List UInt8) (th:OA) (ti tl:Nat) (nV:Bool) (BK:List UInt8) (x5:Addr) (x9:Int)
abbrev n5 (Kn Kr:T0) (h:H):Prop:=
 ae x0 fun a1=>zS h (a1.add 1) fun ma lx oM=>zT h (x5.add 1) fun s3=>zI .u8 h (x5.add 0) fun i4=>zT h (x5.add 1) fun s5=>zS h (x5.add 2) fun jH gn lj=>zB h (x5.add 3) fun b7=>zT h (x5.add 4) fun s8=>zC 163 [.int .u8 x1,(.agg ⟨[.int .u8 i4,S s5,.slice jH gn lj,.bool b7,S s8]⟩)] h fun v9 cS=>aL .u8 v9 fun i11=>bH h cS/\(aw cS #[.int .i64 x9,.int .u8 x1,S s3,.int .u8 i11] 77 fun a12 fi=>bH cS fi/\(bf Tryz.prog (Builtin.append_ #[39,39] 39 ⟨[.slice ma lx oM,.slice (some a12) 1 1]⟩) fi fun oU fZ=>aA oU fun gQ gR gS=>ae x0 fun oO=>aZ (oO.add 1) [.slice gQ gR gS] 0 fZ fun gO=>ae x0 fun jK=>zI .i64 gO (jK.add 4) fun i20=>ae x0 fun a21=>zS gO (a21.add 1) fun me iI mf=>ae x0 fun a23=>aZ (a23.add 4) [.int .i64 (if(iI:Int)>i20 then(iI:Int) else i20)] 0 gO fun lX=>Kr x9 lX))
variable (K:KV) (h:H)
abbrev asks (x0:OA) (x1 nT:Int) (nU:List UInt8) (th:OA) (ti tl:Nat) (nV:Bool) (BK:List UInt8) (K:KV) (h:H):Prop:=cF L0 (fun Kr=>aB L2 (fun K4=>aw h ⟨[.int .u8 nT,S nU,.slice th ti tl,.bool nV,S BK]⟩ 45 fun Qb U2=>K4 x0 x1 Qb U2) fun x0 x1 x5 h=>aB L3 (fun K3=>zC 59 [.pointer x0] h fun v37 Cf=>lv v37 fun l39=>aH l39 fun e40 l41=>aL .i64 e40 fun i42=>aH l41 fun e43 l44=>aL .u8 e43 fun i45=>aH l44 fun e46 l47=>gU e46 fun s48=>aH l47 fun e49 l50=>aL .u8 e49 fun i51=>dc l50 (zC 58 [.pointer x0,(.agg ⟨[.int .i64 i42,.int .u8 i45,S s48,.int .u8 i51]⟩)] Cf fun ZD Of=>oI ZD fun l54=>aH l54 fun e55 l56=>aL .i64 e55 fun i57=>aH l56 fun e58 l59=>aL .i64 e58 fun i60=>dc l59 (K3 x0 x1 x5 i57 i60 Of))) fun x0 x1 x5 x7 x8 h=>aB L4 (fun K2=>ae x0 fun ET=>zP h (ET.add 0) fun Qc=>zT h (x5.add 1) fun ZE=>zS h (x5.add 2) fun Mw Mx My=>zC 105 [.pointer Qc,(.agg ⟨[.int .u8 1,.int .u8 x1,S ZE,.slice Mw Mx My,S [],.slice none 0 0]⟩)] h fun zt qz=>aL .i64 zt fun i36=>K2 x0 x1 x5 x7 x8 i36 qz) fun x0 x1 x5 x7 x8 x9 h=>aB L5 (fun K1=>ae x0 fun a25=>zP h (a25.add 0) fun Mz=>zC 104 [.pointer Mz,.int .i64 x7,.int .i64 x8,.int .i64 x9] h fun zV lK=>au zV fun I9=>cond I9 (K1 x0 x1 x5 x9 lK) (K1 x0 x1 x5 x9 lK)) fun x0 x1 x5 x9 h=>n5 x0 x1 x5 x9 Kr Kr h) fun y6 h=>K (.int .i64 y6) h
theorem ok (q:asks x0 x1 nT nU th ti tl nV BK K h):zC 103 [.pointer x0,.int .u8 x1,(.agg ⟨[.int .u8 nT,S nU,.slice th ti tl,.bool nV,S BK]⟩)] h K:=
 cl Tryz.func103 q (fun p q=>sq (l:=L2) p q fun p q=>sq (l:=L3) p q fun p q=>sq (l:=L4) p q fun p q=>sq (l:=L5) p q fun p q=>lf p q) fun p q=>rt p q
end Xeq
namespace Xeo
abbrev L0:=[Za 2]
variable (x0:OA)
variable (K:KV) (h:H)
abbrev asks:Prop:=cF L0 (fun Kr=>aw h ⟨[.int .i64 0,.int .u8 0,S [],.int .u8 0]⟩ 77 fun a1 h2=>ae x0 fun a3=>zS h2 (a3.add 1) fun mB mC sB=>ae x0 fun a5=>zS h2 (a5.add 1) fun jH gn lj=>bc .i64 ((gn:Int) - 1)/\((0<=((gn:Int) - 1)/\((gn:Int) - 1)<(mC:Int))/\(ae mB fun a7=>zI .i64 h2 (((a7.add (Int.toNat ((gn:Int) - 1)*4))).add 0) fun i8=>zI .u8 h2 (((a7.add (Int.toNat ((gn:Int) - 1)*4))).add 1) fun i9=>zT h2 (((a7.add (Int.toNat ((gn:Int) - 1)*4))).add 2) fun pv=>zI .u8 h2 (((a7.add (Int.toNat ((gn:Int) - 1)*4))).add 3) fun i11=>aZ a1 [.int .i64 i8,.int .u8 i9,S pv,.int .u8 i11] 0 h2 fun eM=>Kr a1 eM))) fun y2 h=>zI .i64 h ((y2).add 0) fun i13=>zI .u8 h ((y2).add 1) fun i14=>zT h ((y2).add 2) fun Ep=>zI .u8 h ((y2).add 3) fun i16=>K (.agg ⟨[.int .i64 i13,.int .u8 i14,S Ep,.int .u8 i16]⟩) h
theorem ok (q:asks x0 K h):zC 59 [.pointer x0] h K:=
 cl Tryz.func59 q (fun p q=>lf p q) fun p q=>rt p q
end Xeo
namespace Xeu
abbrev L0:List Sl:=[]
variable (x0:OA) (x1:List UInt8)
variable (K:KV) (h:H)
abbrev asks:Prop:=cF L0 (fun Kr=>zC 59 [.pointer x0] h fun v1 h2=>lv v1 fun l3=>aH l3 fun e4 l5=>aL .i64 e4 fun i6=>aH l5 fun e7 l8=>aL .u8 e7 fun i9=>aH l8 fun Sc U3=>gU Sc fun j9=>aH U3 fun N4 Qd=>aL .u8 N4 fun i15=>dc Qd (zC 58 [.pointer x0,(.agg ⟨[.int .i64 i6,.int .u8 i9,S j9,.int .u8 i15]⟩)] h2 fun oT fF=>oI oT fun Qe=>aH Qe fun Qf Qg=>aL .i64 Qf fun i21=>aH Qg fun Qh Qi=>aL .i64 Qh fun i24=>dc Qi (ae x0 fun a25=>zP fF (a25.add 0) fun Mz=>zC 60 [.pointer Mz,.int .i64 i21,.int .i64 i24,S x1] fF fun zV lK=>au zV fun I9=>cond I9 (Kr lK) (Kr lK)))) fun h=>K (.tuple ⟨[]⟩) h
theorem ok (q:asks x0 x1 K h):zC 38 [.pointer x0,S x1] h K:=
 cl Tryz.func38 q (fun p q=>lf p q) fun p q=>rt p q
end Xeu
namespace Xer
abbrev L0:List Sl:=[]
variable (x0:OA) (x1:List UInt8)
variable (K:KV) (h:H)
abbrev asks:Prop:=cF L0 (fun Kr=>zC 59 [.pointer x0] h fun v1 h2=>lv v1 fun l3=>aH l3 fun e4 l5=>aL .i64 e4 fun i6=>aH l5 fun e7 l8=>aL .u8 e7 fun i9=>aH l8 fun Sc U3=>gU Sc fun j9=>aH U3 fun N4 Qd=>aL .u8 N4 fun i15=>dc Qd (zC 58 [.pointer x0,(.agg ⟨[.int .i64 i6,.int .u8 i9,S j9,.int .u8 i15]⟩)] h2 fun oT fF=>oI oT fun Qe=>aH Qe fun Qf Qg=>aL .i64 Qf fun i21=>aH Qg fun Qh Qi=>aL .i64 Qh fun i24=>dc Qi ((ae x0 fun a25=>ae x0 fun a26=>zP fF (a26.add 0) fun QJ=>zC 105 [.pointer QJ,(.agg ⟨[.int .u8 3,.int .u8 0,S [],.slice none 0 0,S x1,.slice none 0 0]⟩)] fF fun v28 u5=>aL .i64 v28 fun i30=>zP u5 (a25.add 0) fun Qc=>zC 104 [.pointer Qc,.int .i64 i21,.int .i64 i24,.int .i64 i30] u5 fun B5 mq=>au B5 fun UO=>cond UO (Kr mq) (Kr mq))/\(ae x0 fun Nx=>zP fF (Nx.add 0) fun p36=>ae x0 fun a37=>zP fF (a37.add 0) fun ZI=>zC 105 [.pointer ZI,(.agg ⟨[.int .u8 3,.int .u8 0,S [],.slice none 0 0,S x1,.slice none 0 0]⟩)] fF fun P9 DV=>aL .i64 P9 fun i41=>zC 104 [.pointer p36,.int .i64 i21,.int .i64 i24,.int .i64 i41] DV fun Sb Mt=>au Sb fun b44=>cond b44 (Kr Mt) (Kr Mt))))) fun h=>K (.tuple ⟨[]⟩) h
theorem ok (q:asks x0 x1 K h):zC 45 [.pointer x0,S x1] h K:=
 cl Tryz.func45 q (fun p q=>lf p q) fun p q=>rt p q
end Xer
namespace Xen
abbrev L2:=[Zp 0,Z6 1,Zb 14]
abbrev L0:List Sl:=[]
variable (x0:OA) (x1:Int)
variable (K:KV) (h:H)
abbrev asks (x0:OA) (x1:Int) (K:KV) (h:H):Prop:=cF L0 (fun Kr=>aB L2 (fun K1=>aO (x1 ≥ 1) (ae x0 fun a5=>zS h (a5.add 1) fun jH gn lj=>aO (x1<(gn:Int)) (K1 x0 x1 true h) (K1 x0 x1 false h)) (K1 x0 x1 false h)) fun x0 x1 rY h=>cond rY (ae x0 fun a1=>zS h (a1.add 1) fun ma lx oM=>(0<=(0:Int)/\0<=x1/\x1<=(oM:Int))/\(ae x0 fun a3=>aZ (a3.add 1) [(.slice (if oM=Int.toNat 0 then ma else Option.map (fun q=>q.add (Int.toNat (0:Int)*4)) ma) (Int.toNat x1 - Int.toNat 0) (oM - Int.toNat 0))] 0 h fun h4=>Kr h4)) (Kr h)) fun h=>K (.tuple ⟨[]⟩) h
theorem ok (q:asks x0 x1 K h):zC 61 [.pointer x0,.int .i64 x1] h K:=
 cl Tryz.func61 q (fun p q=>sq p q fun p q=>lf p q) fun p q=>rt p q
end Xen
namespace Xet
abbrev L5:=[Zp 0,Z6 7]
abbrev L4:=[Zp 0]
abbrev L0:=[Z6 4,Z6 5]
abbrev L3:=[Zp 0,Za 3,Zb 6]
abbrev L2:=[Zp 0,Za 3]
abbrev T0:=TK L0
variable (x0:OA) (dh di:Int) (oK:List UInt8) (nW:Int) (x3:Addr) (x6:Bool)
abbrev n3 (x0:OA) (x3:Addr) (x6:Bool) (Kn Kr:T0) (h:H):Prop:=
 aB L4 (fun K3=>ae x0 fun a25=>zB h (a25.add 3) fun UP=>cond UP (zI .u8 h (x3.add 1) fun i27=>aO (i27=(0:Int)) (cond x6 (K3 x0 h) (zI .i64 h (x3.add 0) fun i28=>Kr i28 (-1) h)) (zI .i64 h (x3.add 0) fun i29=>Kr i29 (-1) h)) (zI .i64 h (x3.add 0) fun i30=>Kr i30 (-1) h)) fun x0 h=>aB L5 (fun K2=>ae x0 fun sS=>zS h (sS.add 1) fun qG pN pO=>aw h #[S [116,97,98,108,101]] 9 fun a20 qC=>zC 132 [.slice qG pN pO,.slice (some a20) 1 1] qC fun v22 qD=>aL .i64 v22 fun i24=>K2 x0 i24 qD) fun x0 x7 h=>aB L5 (fun K1=>aO (x7<(0:Int)) (Kr 0 (-1) h) (K1 x0 x7 h)) fun x0 x7 h=>ae x0 fun a1=>zP h (a1.add 0) fun p2=>ae x0 fun a3=>zS h (a3.add 1) fun mB mC sB=>(0<=x7/\x7<(mC:Int))/\(ae mB fun a5=>zI .i64 h ((a5.add (Int.toNat x7*4)).add 0) fun i6=>zC 133 [.pointer p2,.int .i64 i6] h fun v7 h8=>aL .i64 v7 fun i9=>aO (i9 ≥ 0) (ae x0 fun jJ=>zS h8 (jJ.add 1) fun mX lz mg=>(0<=x7/\x7<(lz:Int))/\(ae mX fun a12=>zI .i64 h8 ((a12.add (Int.toNat x7*4)).add 0) fun i13=>Kr i9 i13 h8)) (ae x0 fun lS=>zS h8 (lS.add 1) fun kR ly oN=>bc .i64 (x7 - (1:Int))/\((0<=(if 0>(x7 - (1:Int)) then 0 else(x7 - (1:Int)))/\(if 0>(x7 - (1:Int)) then 0 else(x7 - (1:Int)))<(ly:Int))/\(ae kR fun pM=>zI .i64 h8 ((pM.add (Int.toNat (if 0>(x7 - (1:Int)) then 0 else(x7 - (1:Int)))*4)).add 0) fun i17=>Kr i17 (-1) h8))))
variable (K:KV) (h:H)
abbrev asks (x0:OA) (dh di:Int) (oK:List UInt8) (nW:Int) (K:KV) (h:H):Prop:=cF L0 (fun Kr=>aB L2 (fun K5=>aw h ⟨[.int .i64 dh,.int .u8 di,S oK,.int .u8 nW]⟩ 77 fun Ji mr=>K5 x0 Ji mr) fun x0 x3 h=>aB L3 (fun K4=>zT h (x3.add 2) fun s31=>aO (s31=[116,97,98,108,101]) (K4 x0 x3 true h) (zT h (x3.add 2) fun ZE=>aO (ZE=[116,98,111,100,121]) (K4 x0 x3 true h) (zT h (x3.add 2) fun s33=>aO (s33=[116,102,111,111,116]) (K4 x0 x3 true h) (zT h (x3.add 2) fun s34=>aO (s34=[116,104,101,97,100]) (K4 x0 x3 true h) (zT h (x3.add 2) fun s35=>aO (s35=[116,114]) (K4 x0 x3 true h) (K4 x0 x3 false h)))))) fun x0 x3 x6 h=>n3 x0 x3 x6 Kr Kr h) fun y4 y5 h=>K (.tuple ⟨[.int .i64 y4,.int .i64 y5]⟩) h
theorem ok (q:asks x0 dh di oK nW K h):zC 58 [.pointer x0,(.agg ⟨[.int .i64 dh,.int .u8 di,S oK,.int .u8 nW]⟩)] h K:=
 cl Tryz.func58 q (fun p q=>sq (l:=L2) p q fun p q=>sq (l:=L3) p q fun p q=>sq (l:=L4) p q fun p q=>sq (l:=L5) p q fun p q=>sq (l:=L5) p q fun p q=>lf p q) fun p q=>rt p q
end Xet
namespace Oi
abbrev L0:=[Z8 4]
abbrev L4:List Sl:=[]
abbrev yv:=[Za 3,Zs 5,Z6 6]
abbrev L9:=[Za 3,Zs 5]
abbrev L8:=[Za 3,Zs 5,Zb 23]
abbrev L6:=[Za 3,Zs 5,Z8 10,Zb 11]
abbrev L5:=[Za 3,Zs 5,Z8 10]
abbrev L3:=[Z8 0,Za 3,Zs 5]
abbrev L2:=[Z8 0,Za 3]
abbrev T0:=TK L0
abbrev T4:=TK L4
abbrev RM:=TK yv
variable (x0 dh:Int) (di:List UInt8) (eZ:OA) (fb fc:Nat) (nW:Bool) (oL:List UInt8)
abbrev n4 (Kn Kr:T0) (h:H):Prop:=
 Kr 0 h
abbrev Ef (Kn Ke1 Ke0:T4) (Kr:T0):RM->RM:=fun K2 x3 x5 x6 h=>zS h (x3.add 2) fun ZB UX s1c=>aO (x6<(UX:Int)) (aO (x5=[97,110,110,111,116,97,116,105,111,110,45,120,109,108]) (zS h (x3.add 2) fun ma lx oM=>(0<=x6/\x6<(lx:Int))/\(ae ma fun a3=>zT h ((a3.add (Int.toNat x6*2)).add 1) fun s4=>zC 204 [S s4] h fun v5 h6=>gU v5 fun s7=>zS h6 (x3.add 2) fun ri qF ui=>(0<=x6/\x6<(qF:Int))/\(ae ri fun a9=>zT h6 ((a9.add (Int.toNat x6*2)).add 0) fun pv=>aO (pv=[101,110,99,111,100,105,110,103]) (aO (s7=[116,101,120,116,47,104,116,109,108]) (Kr 2 h6) (aO (s7=[97,112,112,108,105,99,97,116,105,111,110,47,120,104,116,109,108,43,120,109,108]) (Kr 2 h6) (bc .i64 (x6+(1:Int))/\(K2 x3 x5 (x6+(1:Int)) h6)))) (bc .i64 (x6+(1:Int))/\(K2 x3 x5 (x6+(1:Int)) h6))))) (Ke1 h)) (Ke1 h)
abbrev G2 (Kn Ke1 Ke0:T4) (Kr:T0):Nat->RM:=LP yv (Ef Kn Ke1 Ke0 Kr)
variable (K:KV) (h:H)
abbrev asks (x0 dh:Int) (di:List UInt8) (eZ:OA) (fb fc:Nat) (nW:Bool) (oL:List UInt8) (K:KV) (h:H):Prop:=cF L0 (fun Kr=>aB L2 (fun K9=>aw h ⟨[.int .u8 dh,S di,.slice eZ fb fc,.bool nW,S oL]⟩ 45 fun a12 fi=>K9 x0 a12 fi) fun x0 x3 h=>aB L3 (fun K8=>zT h (x3.add 1) fun vl=>K8 x0 x3 vl h) fun x0 x3 x5 h=>aB L4 (fun K1=>aB L5 (fun K7=>K7 x3 x5 x0 h) fun x3 x5 bD h=>aB L6 (fun K6=>aO (bD=(1:Int)) (K6 x3 x5 bD true h) (K6 x3 x5 bD false h)) fun x3 x5 bD cg h=>cond cg (aO (x5=[100,101,115,99]) (Kr 2 h) (aO (x5=[102,111,114,101,105,103,110,79,98,106,101,99,116]) (Kr 2 h) (aO (x5=[116,105,116,108,101]) (Kr 2 h) (K1 h)))) (aB L8 (fun K5=>aO (bD=(2:Int)) (K5 x3 x5 true h) (K5 x3 x5 false h)) fun x3 x5 x23 h=>cond x23 (aB L9 (fun K4=>aO (x5=[109,105]) (Kr 1 h) (aO (x5=[109,110]) (Kr 1 h) (aO (x5=[109,111]) (Kr 1 h) (aO (x5=[109,115]) (Kr 1 h) (aO (x5=[109,116,101,120,116]) (Kr 1 h) (K4 x3 x5 h)))))) fun x3 x5 h=>aB yv (fun K3=>K3 x3 x5 0 h) fun x3 x5 x6 h=>il yv (Ef K1 K1 K1 Kr) fun K2=>K2 x3 x5 x6 h) (K1 h))) fun h=>n4 Kr Kr h) fun y4 h=>K (.int .u8 y4) h
theorem ok (q:asks x0 dh di eZ fb fc nW oL K h):zC 163 [.int .u8 x0,(.agg ⟨[.int .u8 dh,S di,.slice eZ fb fc,.bool nW,S oL]⟩)] h K:=
 cl Tryz.func163 q (fun p q=>sq (l:=L2) p q fun p q=>sq (l:=L3) p q fun p q=>sc (l:=L4) q (fun q=>sq (l:=L5) p q fun p q=>bl (b:=0) (sq (l:=L6) p q fun p q=>cn (i:=11) p q (fun p q=>lf p q) fun p q=>sq (l:=L8) p q fun p q=>cn (i:=23) p q (fun p q=>sq (l:=L9) p q fun p q=>sq (l:=yv) p q fun p q=>bl (b:=1) (lp p q fun p q=>lf p q)) fun p q=>lf p q)) fun p q=>lf p q) fun p q=>rt p q
end Oi
namespace Xeb
abbrev L2:List Sl:=[]
abbrev L3:=[Zl 0,Zl 1,Z6 5]
abbrev L0:=[Z6 4]
abbrev L1:=[Zl 0,Zl 1]
abbrev T2:=TK L2
abbrev T0:=TK L0
abbrev T3:=TK L3
variable (ao:OA) (aj aq:Nat) (cf:OA) (bU cu:Nat)
abbrev bS (Kn Ke0:T2) (Kr:T0):T3->T3:=fun K2 ao aj aq cf bU cu x5 h=>aO (x5 ≥ 0) ((0<=x5/\x5<(aj:Int))/\(ae ao fun a1=>zI .i64 h (((a1.add (Int.toNat x5*4))).add 0) fun i2=>zI .u8 h (((a1.add (Int.toNat x5*4))).add 1) fun i3=>zT h (((a1.add (Int.toNat x5*4))).add 2) fun s4=>zI .u8 h (((a1.add (Int.toNat x5*4))).add 3) fun i5=>zC 181 [(.agg ⟨[.int .i64 i2,.int .u8 i3,S s4,.int .u8 i5]⟩),.slice cf bU cu] h fun v6 h7=>au v6 fun b8=>cond b8 (Kr x5 h7) (bc .i64 (x5 - (1:Int))/\(K2 ao aj aq cf bU cu (x5 - (1:Int)) h7)))) (Ke0 h)
abbrev cR (Kn Ke0:T2) (Kr:T0):Nat->T3:=LP L3 (bS Kn Ke0 Kr)
variable (K:KV) (h:H)
abbrev asks (ao:OA) (aj aq:Nat) (cf:OA) (bU cu:Nat) (K:KV) (h:H):Prop:=cF L0 (fun Kr=>aB L1 (fun K4=>K4 ao aj aq cf bU cu h) fun ao aj aq cf bU cu h=>aB L2 (fun K1=>aB L3 (fun K3=>bc .i64 ((aj:Int) - 1)/\(K3 ao aj aq cf bU cu ((aj:Int) - 1) h)) fun ao aj aq cf bU cu x5 h=>il L3 (bS K1 K1 Kr) fun K2=>K2 ao aj aq cf bU cu x5 h) fun h=>Kr (-1) h) fun y4 h=>K (.int .i64 y4) h
theorem ok (q:asks ao aj aq cf bU cu K h):zC 132 [.slice ao aj aq,.slice cf bU cu] h K:=
 cl Tryz.func132 q (fun p q=>sq (l:=L1) p q fun p q=>sc (l:=L2) q (fun q=>sq (l:=L3) p q fun p q=>bl (b:=0) (lp p q fun p q=>lf p q)) fun p q=>lf p q) fun p q=>rt p q
end Xeb
namespace Xee
abbrev L0:=[Zb 4]
variable (cz cD:Int) (eA:List UInt8) (eQ:Int) (cf:OA) (bU cu:Nat)
variable (K:KV) (h:H)
abbrev asks:Prop:=cF L0 (fun Kr=>aw h ⟨[.int .i64 cz,.int .u8 cD,S eA,.int .u8 eQ]⟩ 77 fun a1 h2=>zI .u8 h2 (a1.add 1) fun i3=>aO (i3=(0:Int)) (zT h2 (a1.add 2) fun s4=>zC 174 [.slice cf bU cu,S s4] h2 fun v5 h6=>au v5 fun b7=>cond b7 (Kr true h6) (Kr false h6)) (Kr false h2)) fun y4 h=>K (.bool y4) h
theorem ok (q:asks cz cD eA eQ cf bU cu K h):zC 181 [(.agg ⟨[.int .i64 cz,.int .u8 cD,S eA,.int .u8 eQ]⟩),.slice cf bU cu] h K:=
 cl Tryz.func181 q (fun p q=>lf p q) fun p q=>rt p q
end Xee
namespace Xed
abbrev L2:List Sl:=[]
abbrev L3:=[Zl 0,Zs 1,Z6 5]
abbrev L0:=[Zb 4]
abbrev L1:=[Zl 0,Zs 1]
abbrev T2:=TK L2
abbrev T0:=TK L0
abbrev T3:=TK L3
variable (ao:OA) (aj aq:Nat) (x1:List UInt8)
abbrev bS (Kn Ke0:T2) (Kr:T0):T3->T3:=fun K2 ao aj aq x1 x5 h=>aO (x5<(aj:Int)) ((0<=x5/\x5<(aj:Int))/\(ae ao fun a1=>zT h (a1.add (Int.toNat x5*1)) fun s2=>aO (s2=x1) (Kr true h) (bc .i64 (x5+(1:Int))/\(K2 ao aj aq x1 (x5+(1:Int)) h)))) (Ke0 h)
abbrev cR (Kn Ke0:T2) (Kr:T0):Nat->T3:=LP L3 (bS Kn Ke0 Kr)
variable (K:KV) (h:H)
abbrev asks (ao:OA) (aj aq:Nat) (x1:List UInt8) (K:KV) (h:H):Prop:=cF L0 (fun Kr=>aB L1 (fun K4=>K4 ao aj aq x1 h) fun ao aj aq x1 h=>aB L2 (fun K1=>aB L3 (fun K3=>K3 ao aj aq x1 0 h) fun ao aj aq x1 x5 h=>il L3 (bS K1 K1 Kr) fun K2=>K2 ao aj aq x1 x5 h) fun h=>Kr false h) fun y4 h=>K (.bool y4) h
theorem ok (q:asks ao aj aq x1 K h):zC 174 [.slice ao aj aq,S x1] h K:=
 cl Tryz.func174 q (fun p q=>sq (l:=L1) p q fun p q=>sc (l:=L2) q (fun q=>sq (l:=L3) p q fun p q=>bl (b:=0) (lp p q fun p q=>lf p q)) fun p q=>lf p q) fun p q=>rt p q
end Xed
namespace SB
abbrev L0:=[Zs 2]
abbrev L3:=[Zl 3]
abbrev L4:=[Zs 0,Zl 3,Z6 4]
abbrev L2:=[Zs 0,Zl 3]
abbrev L1:=[Zs 0]
abbrev T0:=TK L0
abbrev T3:=TK L3
abbrev T4:=TK L4
variable (x0:List UInt8) (jU:OA) (jL ko:Nat)
abbrev n4 (Kn Kr:T0) (h:H):Prop:=
 bf Tryz.prog (convert 176 9 (.slice jU jL ko)) h fun v1 h2=>gU v1 fun s3=>Kr s3 h2
abbrev fg (Kn Ke0:T3) (Kr:T0):T4->T4:=fun K2 x0 jU jL ko x4 h=>aB L4 (fun K4=>aO (x4<(x0.length:Int)) (K4 x0 jU jL ko x4 h) (Ke0 jU jL ko h)) fun x0 jU jL ko x4 h=>aB L4 (fun K3=>(0<=x4/\x4<(x0.length:Int))/\(aO (((List.getD x0 (Int.toNat x4) 0).toNat:Int) ≥ 65) (aO (((List.getD x0 (Int.toNat x4) 0).toNat:Int)<=90) (aw h #[(.int .u8 (IntKind.wrap .u8 (((List.getD x0 (Int.toNat x4) 0).toNat:Int)+32)))] 5 fun a4 h5=>bf Tryz.prog (Builtin.append_ #[176,176] 176 ⟨[.slice jU jL ko,.slice (some a4) 1 1]⟩) h5 fun v6 h7=>aA v6 fun ri qF ui=>K3 x0 ri qF ui x4 h7) (aw h #[(.int .u8 ((List.getD x0 (Int.toNat x4) 0).toNat:Int))] 5 fun a9 cS=>bf Tryz.prog (Builtin.append_ #[176,176] 176 ⟨[.slice jU jL ko,.slice (some a9) 1 1]⟩) cS fun v11 eM=>aA v11 fun jT jD lD=>K3 x0 jT jD lD x4 eM)) (aw h #[(.int .u8 ((List.getD x0 (Int.toNat x4) 0).toNat:Int))] 5 fun lS fZ=>bf Tryz.prog (Builtin.append_ #[176,176] 176 ⟨[.slice jU jL ko,.slice (some lS) 1 1]⟩) fZ fun oT fF=>aA oT fun gL fA fW=>K3 x0 gL fA fW x4 fF))) fun x0 jU jL ko x4 h=>bc .i64 (x4+(1:Int))/\(K2 x0 jU jL ko (x4+(1:Int)) h)
abbrev fu (Kn Ke0:T3) (Kr:T0):Nat->T4:=LP L4 (fg Kn Ke0 Kr)
variable (K:KV) (h:H)
abbrev asks (x0:List UInt8) (K:KV) (h:H):Prop:=cF L0 (fun Kr=>aB L1 (fun K7=>K7 x0 h) fun x0 h=>aB L2 (fun K6=>K6 x0 none 0 0 h) fun x0 jU jL ko h=>aB L3 (fun K1=>aB L4 (fun K5=>K5 x0 jU jL ko 0 h) fun x0 jU jL ko x4 h=>il L4 (fg K1 K1 Kr) fun K2=>K2 x0 jU jL ko x4 h) fun jU jL ko h=>n4 jU jL ko Kr Kr h) fun y2 h=>K (S y2) h
theorem ok (q:asks x0 K h):zC 204 [S x0] h K:=
 cl Tryz.func204 q (fun p q=>sq (l:=L1) p q fun p q=>sq (l:=L2) p q fun p q=>sc (l:=L3) q (fun q=>sq (l:=L4) p q fun p q=>bl (b:=0) (lp p q fun p q=>sq (l:=L4) p q fun p q=>sq (l:=L4) p q fun p q=>lf p q)) fun p q=>lf p q) fun p q=>rt p q
end SB
namespace Xdd
abbrev L0:List Sl:=[]
variable (x0:OA) (x1:List UInt8)
variable (K:KV) (h:H)
abbrev asks:Prop:=cF L0 (fun Kr=>zC 55 [.pointer x0] h fun v1 h2=>lv v1 fun l3=>aH l3 fun e4 l5=>aL .i64 e4 fun i6=>aH l5 fun e7 l8=>aL .u8 e7 fun i9=>aH l8 fun Sc U3=>gU Sc fun j9=>aH U3 fun N4 Qd=>aL .u8 N4 fun i15=>dc Qd (zC 54 [.pointer x0,(.agg ⟨[.int .i64 i6,.int .u8 i9,S j9,.int .u8 i15]⟩)] h2 fun oT fF=>oI oT fun Qe=>aH Qe fun Qf Qg=>aL .i64 Qf fun i21=>aH Qg fun Qh Qi=>aL .i64 Qh fun i24=>dc Qi ((ae x0 fun a25=>ae x0 fun a26=>zP fF (a26.add 0) fun QJ=>zC 66 [.pointer QJ,(.agg ⟨[.int .u8 3,.int .u8 0,S [],.slice none 0 0,S x1,.slice none 0 0]⟩)] fF fun v28 u5=>aL .i64 v28 fun i30=>zP u5 (a25.add 0) fun Qc=>zC 65 [.pointer Qc,.int .i64 i21,.int .i64 i24,.int .i64 i30] u5 fun B5 mq=>au B5 fun UO=>cond UO (Kr mq) (Kr mq))/\(ae x0 fun Nx=>zP fF (Nx.add 0) fun p36=>ae x0 fun a37=>zP fF (a37.add 0) fun ZI=>zC 66 [.pointer ZI,(.agg ⟨[.int .u8 3,.int .u8 0,S [],.slice none 0 0,S x1,.slice none 0 0]⟩)] fF fun P9 DV=>aL .i64 P9 fun i41=>zC 65 [.pointer p36,.int .i64 i21,.int .i64 i24,.int .i64 i41] DV fun Sb Mt=>au Sb fun b44=>cond b44 (Kr Mt) (Kr Mt))))) fun h=>K (.tuple ⟨[]⟩) h
theorem ok (q:asks x0 x1 K h):zC 41 [.pointer x0,S x1] h K:=
 cl Tryz.func41 q (fun p q=>lf p q) fun p q=>rt p q
end Xdd
namespace Xde
abbrev L3:=[Zp 0,Z6 2,Z6 28,Z6 29]
abbrev L0:List Sl:=[]
abbrev L2:=[Zp 0,Z6 2]
abbrev T0:=TK L0
abbrev T3:=TK L3
variable (x0:OA)
abbrev Ns (Kn Ke0 Kr:T0):T3->T3:=fun K1 x0 x2 HR zW h=>aO (zW<HR) (ae x0 fun a1=>zS h (a1.add 2) fun ma lx oM=>bc .i64 (x2+zW)/\((0<=(x2+zW)/\(x2+zW)<(lx:Int))/\(ae ma fun a3=>zT h ((a3.add (Int.toNat (x2+zW)*3)).add 1) fun s4=>zS h ((a3.add (Int.toNat (x2+zW)*3)).add 2) fun BG zX F9=>zC 64 [.pointer x0,.int .u8 0,(.agg ⟨[.int .u8 0,S s4,.slice BG zX F9,.bool false,S []]⟩)] h fun v6 h7=>aL .i64 v6 fun i8=>aZ ((a3.add (Int.toNat (x2+zW)*3)).add 0) [.int .i64 i8] 0 h7 fun h9=>bc .i64 (zW+(1:Int))/\(K1 x0 x2 HR (zW+(1:Int)) h9)))) (Ke0 h)
abbrev MO (Kn Ke0 Kr:T0):Nat->T3:=LP L3 (Ns Kn Ke0 Kr)
variable (K:KV) (h:H)
abbrev asks (x0:OA) (K:KV) (h:H):Prop:=cF L0 (fun Kr=>aB L2 (fun K4=>ae x0 fun jK=>zS h (jK.add 2) fun oR nS qH=>ae x0 fun a21=>zS h (a21.add 1) fun me iI mf=>zC 62 [.slice oR nS qH,.slice me iI mf] h fun v23 lX=>aL .i64 v23 fun i25=>K4 x0 i25 lX) fun x0 x2 h=>aB L2 (fun K3=>ae x0 fun a12=>zS h (a12.add 2) fun jT jD lD=>zC 63 [.slice jT jD lD] h fun oU fZ=>aA oU fun gQ gR gS=>ae x0 fun oO=>aZ (oO.add 2) [.slice gQ gR gS] 0 fZ fun gO=>K3 x0 x2 gO) fun x0 x2 h=>aB L3 (fun K2=>ae x0 fun jJ=>zS h (jJ.add 2) fun mX lz mg=>(0<=x2/\x2<=(lz:Int)/\(lz:Int)<=(mg:Int))/\(K2 x0 x2 (((Int.toNat (lz:Int) - Int.toNat x2):Nat):Int) 0 h)) fun x0 x2 HR zW h=>il L3 (Ns Kr Kr Kr) fun K1=>K1 x0 x2 HR zW h) fun h=>K (.tuple ⟨[]⟩) h
theorem ok (q:asks x0 K h):zC 40 [.pointer x0] h K:=
 cl Tryz.func40 q (fun p q=>sq (l:=L2) p q fun p q=>sq (l:=L2) p q fun p q=>sq (l:=L3) p q fun p q=>bl (b:=0) (lp p q fun p q=>lf p q)) fun p q=>rt p q
end Xde
namespace Xda
abbrev L4:=[Zp 0,Z6 4,Zb 12]
abbrev L3:=[Zp 0,Z6 4]
abbrev L2:=[Zp 0,Za 3]
abbrev L0:List Sl:=[]
variable (x0:OA) (x1:Int)
variable (K:KV) (h:H)
abbrev asks (x0:OA) (x1:Int) (K:KV) (h:H):Prop:=cF L0 (fun Kr=>aB L2 (fun K3=>aw h #[.int .i64 x1] 3 fun pM fF=>K3 x0 pM fF) fun x0 x3 h=>aB L3 (fun K2=>ae x0 fun lk=>zS h (lk.add 1) fun rO nX rP=>zC 183 [.slice rO nX rP,(.func (.func 194) ⟨[]⟩ ⟨[.pointer (some x3)]⟩)] h fun np dA=>aL .i64 np fun i15=>K2 x0 i15 dA) fun x0 x4 h=>aB L4 (fun K1=>aO (x4>(0:Int)) (K1 x0 x4 true h) (K1 x0 x4 false h)) fun x0 x4 ia h=>cond ia (ae x0 fun a1=>zS h (a1.add 1) fun ma lx oM=>zC 196 [.slice ma lx oM] h fun v3 h4=>aA v3 fun BG zX F9=>bc .i64 (x4+(1:Int))/\(zC 195 [.slice BG zX F9,.int .i64 x4,.int .i64 (x4+(1:Int))] h4 fun v6 h7=>aA v6 fun ri qF ui=>ae x0 fun a9=>aZ (a9.add 1) [.slice ri qF ui] 0 h7 fun cS=>Kr cS)) (Kr h)) fun h=>K (.tuple ⟨[]⟩) h
theorem ok (q:asks x0 x1 K h):zC 155 [.pointer x0,.int .i64 x1] h K:=
 cl Tryz.func155 q (fun p q=>sq p q fun p q=>sq p q fun p q=>sq p q fun p q=>lf p q) fun p q=>rt p q
end Xda
namespace Xgb
abbrev L2:List Sl:=[]
abbrev L3:=[Zl 0,Zr 1,Z6 7,Z6 8]
abbrev L0:=[Z6 4]
abbrev L1:=[Zl 0,Zr 1]
abbrev T2:=TK L2
abbrev T0:=TK L0
abbrev T3:=TK L3
variable (ao:OA) (aj aq:Nat) (x1:Value)
abbrev bS (Kn Ke0:T2) (Kr:T0):T3->T3:=fun K2 ao aj aq x1 x7 x8 h=>aO (x8<x7) ((0<=x8/\x8<(aj:Int))/\(ae ao fun a1=>zI .i64 h (((a1.add (Int.toNat x8*4))).add 0) fun i2=>zI .u8 h (((a1.add (Int.toNat x8*4))).add 1) fun i3=>zT h (((a1.add (Int.toNat x8*4))).add 2) fun s4=>zI .u8 h (((a1.add (Int.toNat x8*4))).add 3) fun i5=>fT Tryz.prog 4 x1 ⟨[(.agg ⟨[.int .i64 i2,.int .u8 i3,S s4,.int .u8 i5]⟩)]⟩ h fun v6 h7=>au v6 fun b8=>cond b8 (Kr x8 h7) (bc .i64 (x8+(1:Int))/\(K2 ao aj aq x1 x7 (x8+(1:Int)) h7)))) (Ke0 h)
abbrev cR (Kn Ke0:T2) (Kr:T0):Nat->T3:=LP L3 (bS Kn Ke0 Kr)
variable (K:KV) (h:H)
abbrev asks (ao:OA) (aj aq:Nat) (x1:Value) (K:KV) (h:H):Prop:=cF L0 (fun Kr=>aB L1 (fun K4=>K4 ao aj aq x1 h) fun ao aj aq x1 h=>aB L2 (fun K1=>aB L3 (fun K3=>K3 ao aj aq x1 (aj:Int) 0 h) fun ao aj aq x1 x7 x8 h=>il L3 (bS K1 K1 Kr) fun K2=>K2 ao aj aq x1 x7 x8 h) fun h=>Kr (-1) h) fun y4 h=>K (.int .i64 y4) h
theorem ok (q:asks ao aj aq x1 K h):zC 183 [.slice ao aj aq,x1] h K:=
 cl Tryz.func183 q (fun p q=>sq (l:=L1) p q fun p q=>sc (l:=L2) q (fun q=>sq (l:=L3) p q fun p q=>bl (b:=0) (lp p q fun p q=>lf p q)) fun p q=>lf p q) fun p q=>rt p q
end Xgb
namespace Xdb
abbrev L0:=[Zb 3]
variable (cz cD:Int) (eA:List UInt8) (eQ:Int) (x1:Addr)
variable (K:KV) (h:H)
abbrev asks:Prop:=cF L0 (fun Kr=>aw h ⟨[.int .i64 cz,.int .u8 cD,S eA,.int .u8 eQ]⟩ 77 fun a1 h2=>zI .i64 h2 (a1.add 0) fun i3=>zI .i64 h2 x1 fun i4=>aO (i3=i4) (Kr true h2) (Kr false h2)) fun y3 h=>K (.bool y3) h
theorem ok (q:asks cz cD eA eQ x1 K h):zC 194 [(.agg ⟨[.int .i64 cz,.int .u8 cD,S eA,.int .u8 eQ]⟩),.pointer (some x1)] h K:=
 cl Tryz.func194 q (fun p q=>lf p q) fun p q=>rt p q
end Xdb
namespace Xf8
abbrev L0:=[Zl 6]
variable (ao:OA) (aj aq:Nat) (x1 x2:Int)
variable (K:KV) (h:H)
abbrev asks:Prop:=cF L0 (fun Kr=>(0<=x1/\x1<=x2/\x2<=(aj:Int)/\(aj:Int)<=(aq:Int))/\(aO (x1=x2) (Kr ao aj aq h) ((0<=(0:Int)/\0<=x1/\x1<=(aq:Int))/\((0<=x2/\x2<=(aj:Int)/\(aj:Int)<=(aq:Int))/\(bf Tryz.prog (Builtin.append_ #[39,39] 39 ⟨[(.slice (if aq=Int.toNat 0 then ao else Option.map (fun q=>q.add (Int.toNat (0:Int)*4)) ao) (Int.toNat x1 - Int.toNat 0) (aq - Int.toNat 0)),(.slice (if aq=Int.toNat x2 then ao else Option.map (fun q=>q.add (Int.toNat x2*4)) ao) (Int.toNat (aj:Int) - Int.toNat x2) (aq - Int.toNat x2))]⟩) h fun v1 h2=>aA v1 fun wg r8 u6=>(0<=(r8:Int)/\(r8:Int)<=(aj:Int)/\(aj:Int)<=(u6:Int))/\(bf Tryz.prog (Builtin.clear_ #[39] 0 ⟨[(.slice (if u6=Int.toNat (r8:Int) then wg else Option.map (fun q=>q.add (Int.toNat (r8:Int)*4)) wg) (Int.toNat (aj:Int) - Int.toNat (r8:Int)) (u6 - Int.toNat (r8:Int)))]⟩) h2 fun v4 h5=>Kr wg r8 u6 h5)))))) fun VM VN VO h=>K (.slice VM VN VO) h
theorem ok (q:asks ao aj aq x1 x2 K h):zC 195 [.slice ao aj aq,.int .i64 x1,.int .i64 x2] h K:=
 cl Tryz.func195 q (fun p q=>lf p q) fun p q=>rt p q
end Xf8
namespace Xf1
abbrev L0:=[Zl 2]
variable (ao:OA) (aj aq:Nat)
variable (K:KV) (h:H)
abbrev asks:Prop:=cF L0 (fun Kr=>bf Tryz.prog (dX .eql 39 (.tmp 3) (.const (.slice none 0 0)) (.slice ao aj aq) (.slice none 0 0)) h fun v1 h2=>au v1 fun b3=>cond b3 (Kr none 0 0 h2) (aw h2 #[] 77 fun a4 h5=>bf Tryz.prog (Builtin.append_ #[39,39] 39 ⟨[.slice (some a4) 0 0,.slice ao aj aq]⟩) h5 fun v6 h7=>aA v6 fun ri qF ui=>Kr ri qF ui h7)) fun gq gr gu h=>K (.slice gq gr gu) h
theorem ok (q:asks ao aj aq K h):zC 196 [.slice ao aj aq] h K:=
 cl Tryz.func196 q (fun p q=>lf p q) fun p q=>rt p q
end Xf1
namespace VP
abbrev L2:=[Zp 0,Z6 2]
abbrev L0:List Sl:=[]
abbrev T0:=TK L0
abbrev T2:=TK L2
variable (x0:OA)
abbrev mA (Kn Ke0 Kr:T0):T2->T2:=fun K1 x0 x2 h=>ae x0 fun a1=>zS h (a1.add 2) fun ma lx oM=>aO (x2<(lx:Int)) (ae x0 fun a3=>zS h (a3.add 2) fun mB mC sB=>(0<=x2/\x2<(mC:Int))/\(ae mB fun a5=>zI .i64 h (((a5.add (Int.toNat x2*3))).add 0) fun i6=>zT h (((a5.add (Int.toNat x2*3))).add 1) fun s7=>zS h (((a5.add (Int.toNat x2*3))).add 2) fun ri qF ui=>aw h ⟨[.int .i64 0,S [],.slice none 0 0]⟩ 79 fun a9 cS=>aZ a9 [.int .i64 i6,S s7,.slice ri qF ui] 0 cS fun eF=>zT eF (a9.add 1) fun j9=>zS eF (a9.add 2) fun jT jD lD=>zC 103 [.pointer x0,.int .u8 0,(.agg ⟨[.int .u8 0,S j9,.slice jT jD lD,.bool false,S []]⟩)] eF fun oU fZ=>aL .i64 oU fun i16=>aZ (a9.add 0) [.int .i64 i16] 0 fZ fun fF=>ae x0 fun sS=>zS fF (sS.add 2) fun qG pN pO=>(0<=(0:Int)/\0<=x2/\x2<=(pO:Int))/\(bf Tryz.prog (Builtin.append_ #[40,40] 40 ⟨[.slice none 0 0,(.slice (if pO=Int.toNat 0 then qG else Option.map (fun q=>q.add (Int.toNat (0:Int)*3)) qG) (Int.toNat x2 - Int.toNat 0) (pO - Int.toNat 0))]⟩) fF fun v20 qC=>aA v20 fun me iI mf=>zI .i64 qC (a9.add 0) fun i23=>zT qC (a9.add 1) fun s24=>zS qC (a9.add 2) fun Nt Nu Nv=>aw qC #[.int .i64 i23,S s24,.slice Nt Nu Nv] 79 fun a26 AK=>bf Tryz.prog (Builtin.append_ #[40,40] 40 ⟨[.slice me iI mf,.slice (some a26) 1 1]⟩) AK fun v28 u5=>aA v28 fun BH BJ DY=>ae x0 fun a31=>zS u5 (a31.add 2) fun Ee BR BS=>bc .i64 (x2+(1:Int))/\((0<=(x2+(1:Int))/\(x2+(1:Int))<=(BR:Int)/\(BR:Int)<=(BS:Int))/\(bf Tryz.prog (Builtin.append_ #[40,40] 40 ⟨[.slice BH BJ DY,(.slice (if BS=Int.toNat (x2+(1:Int)) then Ee else Option.map (fun q=>q.add (Int.toNat (x2+(1:Int))*3)) Ee) (Int.toNat (BR:Int) - Int.toNat (x2+(1:Int))) (BS - Int.toNat (x2+(1:Int))))]⟩) u5 fun Sd zZ=>aA Sd fun UZ U0 U1=>ae x0 fun Ji=>aZ (Ji.add 2) [.slice UZ U0 U1] 0 zZ fun mr=>bc .i64 (x2+(1:Int))/\(K1 x0 (x2+(1:Int)) mr)))))) (Ke0 h)
abbrev nv (Kn Ke0 Kr:T0):Nat->T2:=LP L2 (mA Kn Ke0 Kr)
variable (K:KV) (h:H)
abbrev asks (x0:OA) (K:KV) (h:H):Prop:=cF L0 (fun Kr=>aB L2 (fun K2=>ae x0 fun Ny=>zS h (Ny.add 2) fun ah0 ah1 ah2=>ae x0 fun a40=>zS h (a40.add 1) fun VQ VR aag=>zC 102 [.slice ah0 ah1 ah2,.slice VQ VR aag] h fun Sb Mt=>aL .i64 Sb fun i44=>K2 x0 i44 Mt) fun x0 x2 h=>il L2 (mA Kr Kr Kr) fun K1=>K1 x0 x2 h) fun h=>K (.tuple ⟨[]⟩) h
theorem ok (q:asks x0 K h):zC 44 [.pointer x0] h K:=
 cl Tryz.func44 q (fun p q=>sq (l:=L2) p q fun p q=>bl (b:=0) (lp p q fun p q=>lf p q)) fun p q=>rt p q
end VP
namespace EF
abbrev L0:List Sl:=[]
abbrev L3:=[Zp 0,Zl 4]
abbrev L4:=[Zp 0,Z6 1,Zl 4,Z6 5]
abbrev L5:=[Zp 0,Z6 1,Zl 4,Z6 5,Zb 28]
abbrev L2:=[Zp 0,Z6 1,Zl 4]
abbrev T0:=TK L0
abbrev T3:=TK L3
abbrev T4:=TK L4
variable (x0:OA) (x1:Int) (vG:OA) (vH vI:Nat) (x5:Int) (HR:Bool)
abbrev n3 (Kn Kr:T0) (h:H):Prop:=
 ae x0 fun a1=>aZ (a1.add 1) [.slice vG vH vI] 0 h fun h2=>Kn h2
abbrev uy (Kn Ke1:T4) (Ke0:T3) (Kr:T0) (h:H):Prop:=
 cond HR (ae x0 fun a3=>zS h (a3.add 1) fun mB mC sB=>(0<=x5/\x5<(mC:Int))/\(ae mB fun a5=>zI .i64 h (((a5.add (Int.toNat x5*4))).add 0) fun i6=>zI .u8 h (((a5.add (Int.toNat x5*4))).add 1) fun i7=>zT h (((a5.add (Int.toNat x5*4))).add 2) fun s8=>zI .u8 h (((a5.add (Int.toNat x5*4))).add 3) fun i9=>aw h #[.int .i64 i6,.int .u8 i7,S s8,.int .u8 i9] 77 fun jJ eF=>bf Tryz.prog (Builtin.append_ #[39,39] 39 ⟨[.slice vG vH vI,.slice (some jJ) 1 1]⟩) eF fun v12 fi=>aA v12 fun xV xW xX=>Kn x0 x1 xV xW xX x5 fi)) (Kn x0 x1 vG vH vI x5 h)
abbrev bS (Kn Ke0:T3) (Kr:T0):T4->T4:=fun K2 x0 x1 vG vH vI x5 h=>aB L4 (fun K5=>ae x0 fun jK=>zS h (jK.add 1) fun oR nS qH=>aO (x5<(nS:Int)) (K5 x0 x1 vG vH vI x5 h) (Ke0 x0 vG vH vI h)) fun x0 x1 vG vH vI x5 h=>aB L4 (fun K3=>aB L5 (fun K4=>aO (x5=(0:Int)) (K4 x0 x1 vG vH vI x5 true h) (ae x0 fun pV=>zS h (pV.add 1) fun gQ gR gS=>(0<=x5/\x5<(gR:Int))/\(ae gQ fun oO=>zI .i64 h ((oO.add (Int.toNat x5*4)).add 0) fun i18=>aO (i18=x1) (K4 x0 x1 vG vH vI x5 false h) (K4 x0 x1 vG vH vI x5 true h)))) fun x0 x1 vG vH vI x5 HR h=>uy x0 x1 vG vH vI x5 HR K3 K3 Ke0 Kr h) fun x0 x1 vG vH vI x5 h=>bc .i64 (x5+(1:Int))/\(K2 x0 x1 vG vH vI (x5+(1:Int)) h)
abbrev cR (Kn Ke0:T3) (Kr:T0):Nat->T4:=LP L4 (bS Kn Ke0 Kr)
variable (K:KV) (h:H)
abbrev asks (x0:OA) (x1:Int) (K:KV) (h:H):Prop:=cF L0 (fun Kr=>aB L2 (fun K7=>K7 x0 x1 none 0 0 h) fun x0 x1 vG vH vI h=>aB L3 (fun K1=>aB L4 (fun K6=>K6 x0 x1 vG vH vI 0 h) fun x0 x1 vG vH vI x5 h=>il L4 (bS K1 K1 Kr) fun K2=>K2 x0 x1 vG vH vI x5 h) fun x0 vG vH vI h=>n3 x0 vG vH vI Kr Kr h) fun h=>K (.tuple ⟨[]⟩) h
theorem ok (q:asks x0 x1 K h):zC 120 [.pointer x0,.int .i64 x1] h K:=
 cl Tryz.func120 q (fun p q=>sq (l:=L2) p q fun p q=>sc (l:=L3) q (fun q=>sq (l:=L4) p q fun p q=>bl (b:=0) (lp p q fun p q=>sq (l:=L4) p q fun p q=>sc (l:=L4) q (fun q=>bl (b:=1) (sq (l:=L5) p q fun p q=>lf p q)) fun p q=>lf p q)) fun p q=>lf p q) fun p q=>rt p q
end EF
end Go.Proofs
