/- Own text. No condition. -/
import Derived.Test.YtijoifkjeamonaaGreatHc
import Derived.Test.YtijoifkjeamonaaGreatShR
import Derived.Test.YtijoifkjeamonaaGreatProg
namespace Go.Proofs
open Go Go.Sh
set_option linter.unusedVariables false
set_option maxRecDepth 100000
namespace Xa1
abbrev L4:=[Zl 0,Zl 3,Zl 4,Zb 5]
abbrev L3:=[Zl 0,Zl 3,Zl 4]
abbrev L2:=[Zl 0,Zl 3]
abbrev L1:=[Zl 0]
abbrev L0:=[Zb 2]
variable (ao:OA) (aj aq:Nat)
variable (K:KV) (h:H)
abbrev asks (ao:OA) (aj aq:Nat) (K:KV) (h:H):Prop:=cF L0 (fun Kr=>aB L1 (fun K5=>K5 ao aj aq h) fun ao aj aq h=>aB L1 (fun K4=>zC 6 [.slice ao aj aq] h fun v21 lN=>au v21 fun VT=>cond VT (Kr true lN) (K4 ao aj aq lN)) fun ao aj aq h=>aB L2 (fun K3=>zC 7 [.slice ao aj aq] h fun Ey pB=>aA Ey fun oR nS qH=>K3 ao aj aq oR nS qH pB) fun ao aj aq jU jL ko h=>aB L3 (fun K2=>zC 8 [.slice jU jL ko] h fun tN gX=>aA tN fun oP mY oQ=>K2 ao aj aq jU jL ko oP mY oQ gX) fun ao aj aq jU jL ko vG vH vI h=>aB L4 (fun K1=>zC 9 [.slice jU jL ko,.slice ao aj aq] h fun v12 fi=>au v12 fun b14=>cond b14 (K1 ao aj aq jU jL ko vG vH vI true fi) (K1 ao aj aq jU jL ko vG vH vI false fi)) fun ao aj aq jU jL ko vG vH vI x5 h=>zC 10 [.slice jU jL ko] h fun v1 h2=>zC 11 [] h2 fun v3 h4=>au v3 fun b5=>cond b5 (cond x5 (zC 13 [.slice ao aj aq] h4 fun v6 h7=>aA v6 fun ri qF ui=>zC 12 [.slice vG vH vI,.slice ri qF ui] h7 fun v9 cS=>au v9 fun Uc=>cond Uc (Kr true cS) (Kr false cS)) (Kr false h4)) (Kr false h4)) fun y2 h=>K (.bool y2) h
theorem ok (q:asks ao aj aq K h):zC 3 [.slice ao aj aq] h K:=
 cl Tryz.func3 q (fun p q=>sq p q fun p q=>sq p q fun p q=>sq p q fun p q=>sq p q fun p q=>sq p q fun p q=>lf p q) fun p q=>rt p q
end Xa1
namespace Xa2
abbrev L0:=[Zb 2]
variable (ao:OA) (aj aq:Nat)
variable (K:KV) (h:H)
abbrev asks:Prop:=cF L0 (fun Kr=>aO ((aj:Int)>200) (Kr true h) (zC 28 [.slice ao aj aq,.int .i64 400] h fun v1 h2=>aL .i64 v1 fun i3=>aO (i3>(400:Int)) (Kr true h2) (Kr false h2))) fun y2 h=>K (.bool y2) h
theorem ok (q:asks ao aj aq K h):zC 6 [.slice ao aj aq] h K:=
 cl Tryz.func6 q (fun p q=>lf p q) fun p q=>rt p q
end Xa2
namespace Oz
abbrev L0:=[Zl 2]
abbrev L3:=[Zl 3]
abbrev L4:=[Zl 0,Zl 3,Z6 4]
abbrev L2:=[Zl 0,Zl 3]
abbrev L1:=[Zl 0]
abbrev T0:=TK L0
abbrev T3:=TK L3
abbrev T4:=TK L4
variable (ao:OA) (aj aq:Nat) (jU:OA) (jL ko:Nat)
abbrev n4 (Kn Kr:T0) (h:H):Prop:=
 Kr jU jL ko h
abbrev fg (Kn Ke0:T3) (Kr:T0):T4->T4:=fun K2 ao aj aq jU jL ko x4 h=>aO (x4<(aj:Int)) ((0<=x4/\x4<(aj:Int))/\(ae ao fun a1=>bL h (a1.add (Int.toNat x4*5)) fun t2=>aw h ⟨[.int .u8 0,S [],.slice none 0 0,.bool false,S []]⟩ 45 fun a3 h4=>aZ a3 [.int .u8 t2.k,S t2.n,.slice t2.b t2.l t2.c,.bool t2.z,S t2.t] 0 h4 fun h5=>zS h5 (a3.add 2) fun jH gn lj=>zC 29 [.slice jH gn lj] h5 fun v7 h8=>aA v7 fun wa uX yV=>aZ (a3.add 2) [.slice wa uX yV] 0 h8 fun cS=>bL cS a3 fun t11=>aw cS #[.int .u8 t11.k,S t11.n,.slice t11.b t11.l t11.c,.bool t11.z,S t11.t] 45 fun a12 fi=>bf Tryz.prog (Builtin.append_ #[22,22] 22 ⟨[.slice jU jL ko,.slice (some a12) 1 1]⟩) fi fun oU fZ=>aA oU fun gQ gR gS=>bc .i64 (x4+(1:Int))/\(K2 ao aj aq gQ gR gS (x4+(1:Int)) fZ))) (Ke0 jU jL ko h)
abbrev fu (Kn Ke0:T3) (Kr:T0):Nat->T4:=LP L4 (fg Kn Ke0 Kr)
variable (K:KV) (h:H)
abbrev asks (ao:OA) (aj aq:Nat) (K:KV) (h:H):Prop:=cF L0 (fun Kr=>aB L1 (fun K5=>K5 ao aj aq h) fun ao aj aq h=>aB L2 (fun K4=>K4 ao aj aq none 0 0 h) fun ao aj aq jU jL ko h=>aB L3 (fun K1=>aB L4 (fun K3=>K3 ao aj aq jU jL ko 0 h) fun ao aj aq jU jL ko x4 h=>il L4 (fg K1 K1 Kr) fun K2=>K2 ao aj aq jU jL ko x4 h) fun jU jL ko h=>n4 jU jL ko Kr Kr h) fun gq gr gu h=>K (.slice gq gr gu) h
theorem ok (q:asks ao aj aq K h):zC 7 [.slice ao aj aq] h K:=
 cl Tryz.func7 q (fun p q=>sq (l:=L1) p q fun p q=>sq (l:=L2) p q fun p q=>sc (l:=L3) q (fun q=>sq (l:=L4) p q fun p q=>bl (b:=0) (lp p q fun p q=>lf p q)) fun p q=>lf p q) fun p q=>rt p q
end Oz
namespace S8
abbrev L2:List Sl:=[]
abbrev L3:=[Zl 0,Zl 1,Z6 5]
abbrev L0:=[Zb 4]
abbrev L1:=[Zl 0,Zl 1]
abbrev T2:=TK L2
abbrev T0:=TK L0
abbrev T3:=TK L3
variable (ao:OA) (aj aq:Nat) (cf:OA) (bU cu:Nat)
abbrev fg (Kn Ke0:T2) (Kr:T0):T3->T3:=fun K2 ao aj aq cf bU cu x5 h=>aO (x5<(aj:Int)) ((0<=x5/\x5<(aj:Int))/\(ae ao fun a1=>bL h (a1.add (Int.toNat x5*5)) fun t2=>(0<=x5/\x5<(bU:Int))/\(ae cf fun a3=>bL h (a3.add (Int.toNat x5*5)) fun t4=>zC 18 [.agg ⟨aT t2⟩,.agg ⟨aT t4⟩] h fun v5 h6=>au v5 fun b7=>cond b7 (bc .i64 (x5+(1:Int))/\(K2 ao aj aq cf bU cu (x5+(1:Int)) h6)) (Kr false h6)))) (Ke0 h)
abbrev fu (Kn Ke0:T2) (Kr:T0):Nat->T3:=LP L3 (fg Kn Ke0 Kr)
variable (K:KV) (h:H)
abbrev asks (ao:OA) (aj aq:Nat) (cf:OA) (bU cu:Nat) (K:KV) (h:H):Prop:=cF L0 (fun Kr=>aB L1 (fun K5=>K5 ao aj aq cf bU cu h) fun ao aj aq cf bU cu h=>aB L1 (fun K4=>aO ((aj:Int)=(bU:Int)) (K4 ao aj aq cf bU cu h) (Kr false h)) fun ao aj aq cf bU cu h=>aB L2 (fun K1=>aB L3 (fun K3=>K3 ao aj aq cf bU cu 0 h) fun ao aj aq cf bU cu x5 h=>il L3 (fg K1 K1 Kr) fun K2=>K2 ao aj aq cf bU cu x5 h) fun h=>Kr true h) fun y4 h=>K (.bool y4) h
theorem ok (q:asks ao aj aq cf bU cu K h):zC 9 [.slice ao aj aq,.slice cf bU cu] h K:=
 cl Tryz.func9 q (fun p q=>sq (l:=L1) p q fun p q=>sq (l:=L1) p q fun p q=>sc (l:=L2) q (fun q=>sq (l:=L3) p q fun p q=>bl (b:=0) (lp p q fun p q=>lf p q)) fun p q=>lf p q) fun p q=>rt p q
end S8
namespace N5
abbrev L2:=[Zl 0,Z6 2]
abbrev L3:=[Zl 0,Z6 2,Z6 3]
abbrev L0:List Sl:=[]
abbrev T0:=TK L0
abbrev T2:=TK L2
variable (ao:OA) (aj aq:Nat)
abbrev mA (Kn Ke0 Kr:T0):T2->T2:=fun K1 ao aj aq x2 h=>aB L2 (fun K6=>aO (x2<(aj:Int)) (K6 ao aj aq x2 h) (Ke0 h)) fun ao aj aq x2 h=>aB L2 (fun K2=>aB L2 (fun K3=>aB L3 (fun K5=>K5 ao aj aq x2 0 h) fun ao aj aq x2 x3 h=>il L3 (fun K4 ao aj aq x2 x3 h=>(0<=x2/\x2<(aj:Int))/\(ae ao fun a3=>zS h ((a3.add (Int.toNat x2*5)).add 2) fun mB mC sB=>aO (x3<(mC:Int)) ((0<=x2/\x2<(aj:Int))/\(ae ao fun a5=>zS h ((a5.add (Int.toNat x2*5)).add 2) fun jH gn lj=>(0<=x3/\x3<(gn:Int))/\(ae jH fun a7=>aZ (a7.add (Int.toNat x3*2)) [S [115,112,111,105,108,116],S [115,112,111,105,108,116]] 0 h fun h8=>bc .i64 (x3+(1:Int))/\(K4 ao aj aq x2 (x3+(1:Int)) h8)))) (K3 ao aj aq x2 h))) fun K4=>K4 ao aj aq x2 x3 h) fun ao aj aq x2 h=>(0<=x2/\x2<(aj:Int))/\(ae ao fun a1=>aZ (a1.add (Int.toNat x2*5)) [.int .u8 3,S [115,112,111,105,108,116],.slice none 0 0,.bool false,S []] 0 h fun h2=>K2 ao aj aq x2 h2)) fun ao aj aq x2 h=>bc .i64 (x2+(1:Int))/\(K1 ao aj aq (x2+(1:Int)) h)
abbrev nv (Kn Ke0 Kr:T0):Nat->T2:=LP L2 (mA Kn Ke0 Kr)
variable (K:KV) (h:H)
abbrev asks (ao:OA) (aj aq:Nat) (K:KV) (h:H):Prop:=cF L0 (fun Kr=>aB L2 (fun K7=>K7 ao aj aq 0 h) fun ao aj aq x2 h=>il L2 (mA Kr Kr Kr) fun K1=>K1 ao aj aq x2 h) fun h=>K (.tuple ⟨[]⟩) h
theorem ok (q:asks ao aj aq K h):zC 10 [.slice ao aj aq] h K:=
 cl Tryz.func10 q (fun p q=>sq (l:=L2) p q fun p q=>bl (b:=0) (lp p q fun p q=>sq (l:=L2) p q fun p q=>sc (l:=L2) q (fun q=>bl (b:=1) (sc (l:=L2) q (fun q=>sq (l:=L3) p q fun p q=>bl (b:=2) (lp p q fun p q=>lf p q)) fun p q=>lf p q)) fun p q=>lf p q)) fun p q=>rt p q
end N5
namespace Xa3
abbrev L4:=[Zl 2,Zb 3]
abbrev L3:=[Zl 1,Zl 2]
abbrev L2:=[Zl 1]
abbrev L1:List Sl:=[]
abbrev L0:=[Zb 0]
variable (K:KV) (h:H)
abbrev asks:Prop:=cF L0 (fun Kr=>aB L1 (fun K4=>K4 h) fun h=>aB L2 (fun K3=>zC 30 [S [112]] h fun Kb uC=>dT Kb fun t37=>zC 31 [S [49]] uC fun Ms yr=>dT Ms fun t40=>zC 30 [S [98]] yr fun Zy I7=>dT Zy fun t43=>zC 31 [S [50]] I7 fun Mr Ex=>dT Mr fun t46=>zC 30 [S [112]] Ex fun UN DS=>dT UN fun t49=>zC 31 [S [51]] DS fun QF BT=>dT QF fun t52=>aw BT #[.int .u8 t37.k,S t37.n,.slice t37.b t37.l t37.c,.bool t37.z,S t37.t,.int .u8 t40.k,S t40.n,.slice t40.b t40.l t40.c,.bool t40.z,S t40.t,.int .u8 t43.k,S t43.n,.slice t43.b t43.l t43.c,.bool t43.z,S t43.t,.int .u8 t46.k,S t46.n,.slice t46.b t46.l t46.c,.bool t46.z,S t46.t,.int .u8 t49.k,S t49.n,.slice t49.b t49.l t49.c,.bool t49.z,S t49.t,.int .u8 t52.k,S t52.n,.slice t52.b t52.l t52.c,.bool t52.z,S t52.t] 45 fun a53 JP=>zC 8 [.slice (some a53) 6 6] JP fun v55 h56=>aA v55 fun NM NN NO=>K3 NM NN NO h56) fun cf bU cu h=>aB L3 (fun K2=>zC 30 [S [97]] h fun Ey pB=>dT Ey fun t20=>zC 31 [S [49]] pB fun v21 lN=>dT v21 fun t23=>zC 30 [S [97]] lN fun v24 iG=>dT v24 fun t26=>zC 31 [S [50]] iG fun zV lK=>dT zV fun t29=>aw lK #[.int .u8 t20.k,S t20.n,.slice t20.b t20.l t20.c,.bool t20.z,S t20.t,.int .u8 t23.k,S t23.n,.slice t23.b t23.l t23.c,.bool t23.z,S t23.t,.int .u8 t26.k,S t26.n,.slice t26.b t26.l t26.c,.bool t26.z,S t26.t,.int .u8 t29.k,S t29.n,.slice t29.b t29.l t29.c,.bool t29.z,S t29.t] 45 fun ET yj=>zC 8 [.slice (some ET) 4 4] yj fun B5 mq=>aA B5 fun xC xD yU=>K2 cf bU cu xC xD yU mq) fun cf bU cu dx dq dz h=>aB L4 (fun K1=>aO ((bU:Int)=2) ((0<=(0:Int)/\0<(bU:Int))/\(ae cf fun jJ=>zS h ((jJ.add (Int.toNat (0:Int)*6)).add 5) fun mX lz mg=>aO ((lz:Int)=2) ((0<=(1:Int)/\1<(bU:Int))/\(ae cf fun a12=>zS h ((a12.add (Int.toNat (1:Int)*6)).add 5) fun jT jD lD=>aO ((jD:Int)=1) ((0<=(1:Int)/\1<(bU:Int))/\(ae cf fun lS=>zS h ((lS.add (Int.toNat (1:Int)*6)).add 5) fun kR ly oN=>(0<=(0:Int)/\0<(ly:Int))/\(ae kR fun pM=>zT h ((pM.add (Int.toNat (0:Int)*6)).add 2) fun Oj=>aO (Oj=[98]) (K1 dx dq dz true h) (K1 dx dq dz false h)))) (K1 dx dq dz false h))) (K1 dx dq dz false h))) (K1 dx dq dz false h)) fun dx dq dz x3 h=>aw h #[.int .u8 3,S [112],.slice none 0 0,.bool false,S []] 45 fun a1 h2=>zC 8 [.slice (some a1) 1 1] h2 fun v3 h4=>aA v3 fun BG zX F9=>cond x3 (aO ((dq:Int)=2) ((0<=(1:Int)/\1<(dq:Int))/\(ae dx fun a6=>zT h4 ((a6.add (Int.toNat (1:Int)*6)).add 2) fun s7=>aO (s7=[97]) (aO ((zX:Int)=1) ((0<=(0:Int)/\0<(zX:Int))/\(ae BG fun a8=>zT h4 ((a8.add (Int.toNat (0:Int)*6)).add 2) fun s9=>aO (s9=[112]) (Kr true h4) (Kr false h4))) (Kr false h4)) (Kr false h4))) (Kr false h4)) (Kr false h4)) fun y0 h=>K (.bool y0) h
theorem ok (q:asks K h):zC 11 [] h K:=
 cl Tryz.func11 q (fun p q=>sq p q fun p q=>sq p q fun p q=>sq p q fun p q=>sq p q fun p q=>lf p q) fun p q=>rt p q
end Xa3
namespace Xdn
abbrev L0:=[Zb 4]
variable (x0 x1:Tk)
variable (K:KV) (h:H)
abbrev asks:Prop:=cF L0 (fun Kr=>aw h ⟨aT x0⟩ 45 fun a1 h2=>aw h2 ⟨aT x1⟩ 45 fun a3 h4=>zI .u8 h4 (a1.add 0) fun i5=>zI .u8 h4 (a3.add 0) fun i6=>aO (i5=i6) (zT h4 (a1.add 1) fun s7=>zT h4 (a3.add 1) fun s8=>aO (s7=s8) (zB h4 (a1.add 3) fun b9=>cond b9 (zB h4 (a3.add 3) fun J7=>cond J7 (zT h4 (a1.add 4) fun vl=>zT h4 (a3.add 4) fun j9=>aO (vl=j9) (zS h4 (a1.add 2) fun jT jD lD=>zS h4 (a3.add 2) fun xV xW xX=>zC 32 [.slice jT jD lD,.slice xV xW xX] h4 fun tN gX=>au tN fun S7=>cond S7 (Kr true gX) (Kr false gX)) (Kr false h4)) (Kr false h4)) (zB h4 (a3.add 3) fun b18=>cond b18 (Kr false h4) (zT h4 (a1.add 4) fun QI=>zT h4 (a3.add 4) fun s20=>aO (QI=s20) (zS h4 (a1.add 2) fun xE vD xF=>zS h4 (a3.add 2) fun me iI mf=>zC 32 [.slice xE vD xF,.slice me iI mf] h4 fun v23 lX=>au v23 fun b25=>cond b25 (Kr true lX) (Kr false lX)) (Kr false h4)))) (Kr false h4)) (Kr false h4)) fun y4 h=>K (.bool y4) h
theorem ok (q:asks x0 x1 K h):zC 18 [.agg ⟨aT x0⟩,.agg ⟨aT x1⟩] h K:=
 cl Tryz.func18 q (fun p q=>lf p q) fun p q=>rt p q
end Xdn
namespace Xdj
abbrev L0:=[Zl 2]
variable (ao:OA) (aj aq:Nat)
variable (K:KV) (h:H)
abbrev asks:Prop:=cF L0 (fun Kr=>bf Tryz.prog (Builtin.append_ #[43,43] 43 ⟨[.slice none 0 0,.slice ao aj aq]⟩) h fun v1 h2=>aA v1 fun wg r8 u6=>Kr wg r8 u6 h2) fun gq gr gu h=>K (.slice gq gr gu) h
theorem ok (q:asks ao aj aq K h):zC 29 [.slice ao aj aq] h K:=
 cl Tryz.func29 q (fun p q=>lf p q) fun p q=>rt p q
end Xdj
namespace Xa4
abbrev L0:=[Za 2]
variable (x0:List UInt8)
variable (K:KV) (h:H)
abbrev asks:Prop:=cF L0 (fun Kr=>aw h ⟨[.int .u8 0,S [],.slice none 0 0,.bool false,S []]⟩ 45 fun a1 h2=>aZ a1 [.int .u8 2,S x0,.slice none 0 0,.bool false,S []] 0 h2 fun h3=>Kr a1 h3) fun y2 h=>bL h y2 fun t4=>K (.agg ⟨aT t4⟩) h
theorem ok (q:asks x0 K h):zC 30 [S x0] h K:=
 cl Tryz.func30 q (fun p q=>lf p q) fun p q=>rt p q
end Xa4
namespace Xa5
abbrev L0:=[Za 2]
variable (x0:List UInt8)
variable (K:KV) (h:H)
abbrev asks:Prop:=cF L0 (fun Kr=>aw h ⟨[.int .u8 0,S [],.slice none 0 0,.bool false,S []]⟩ 45 fun a1 h2=>aZ a1 [.int .u8 1,S [],.slice none 0 0,.bool false,S x0] 0 h2 fun h3=>Kr a1 h3) fun y2 h=>bL h y2 fun t4=>K (.agg ⟨aT t4⟩) h
theorem ok (q:asks x0 K h):zC 31 [S x0] h K:=
 cl Tryz.func31 q (fun p q=>lf p q) fun p q=>rt p q
end Xa5
end Go.Proofs
