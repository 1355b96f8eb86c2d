/- Own text. No condition. -/
import Derived.Test.YtijoifkjeamonaaGreatHc
import Derived.Test.YtijoifkjeamonaaGreatShR
import Derived.Test.YtijoifkjeamonaaGreatProg
namespace Go.Proofs
open Go Go.Sh
set_option linter.unusedVariables false
set_option maxRecDepth 100000
namespace Jw
abbrev L0:=[Zl 2]
abbrev L3:=[Zp 3]
abbrev L4:=[Zl 0,Zp 3,Z6 4]
abbrev L5:=[Zl 0,Zp 3,Z6 4,Za 5,Zb 6]
abbrev L2:=[Zl 0,Zp 3]
abbrev L1:=[Zl 0]
abbrev T0:=TK L0
abbrev T3:=TK L3
abbrev T4:=TK L4
variable (ao:OA) (aj aq:Nat) (x3:OA)
abbrev n4 (Kn Kr:T0) (h:H):Prop:=
 zC 26 [.pointer x3] h fun v1 h2=>aA v1 fun wg r8 u6=>Kr wg r8 u6 h2
abbrev fg (Kn Ke0:T3) (Kr:T0):T4->T4:=fun K2 ao aj aq x3 x4 h=>aB L4 (fun K5=>aO (x4<(aj:Int)) (K5 ao aj aq x3 x4 h) (Ke0 x3 h)) fun ao aj aq x3 x4 h=>aB L4 (fun K3=>aB L5 (fun K4=>(0<=x4/\x4<(aj:Int))/\(ae ao fun a12=>bL h (a12.add (Int.toNat x4*5)) fun t13=>zC 17 [.pointer x3,.agg ⟨aT t13⟩] h fun oU fZ=>oI oU fun l16=>aH l16 fun e17 Qe=>dT e17 fun t19=>aH Qe fun e20 l21=>au e20 fun b22=>dc l21 (cond b22 (aw fZ ⟨[.int .u8 0,S [],.slice none 0 0,.bool false,S []]⟩ 45 fun a23 lX=>aZ a23 [.int .u8 t19.k,S t19.n,.slice t19.b t19.l t19.c,.bool t19.z,S t19.t] 0 lX fun iG=>K4 ao aj aq x3 x4 a23 true iG) (aw fZ ⟨[.int .u8 0,S [],.slice none 0 0,.bool false,S []]⟩ 45 fun a26 AK=>aZ a26 [.int .u8 t19.k,S t19.n,.slice t19.b t19.l t19.c,.bool t19.z,S t19.t] 0 AK fun lK=>K4 ao aj aq x3 x4 a26 false lK)))) fun ao aj aq x3 x4 x5 x6 h=>cond x6 (ae x3 fun a4=>zI .u8 h (a4.add 1) fun i5=>aO (i5=(1:Int)) (bL h x5 fun t6=>zC 20 [.pointer x3,.agg ⟨aT t6⟩] h fun v7 h8=>K3 ao aj aq x3 x4 h8) (bL h x5 fun t9=>zC 22 [.pointer x3,.agg ⟨aT t9⟩] h fun v10 eF=>K3 ao aj aq x3 x4 eF)) (K3 ao aj aq x3 x4 h)) fun ao aj aq x3 x4 h=>bc .i64 (x4+(1:Int))/\(K2 ao aj aq x3 (x4+(1:Int)) h)
abbrev fu (Kn Ke0:T3) (Kr:T0):Nat->T4:=LP L4 (fg Kn Ke0 Kr)
variable (K:KV) (h:H)
abbrev asks (ao:OA) (aj aq:Nat) (K:KV) (h:H):Prop:=cF L0 (fun Kr=>aB L1 (fun K8=>K8 ao aj aq h) fun ao aj aq h=>aB L2 (fun K7=>zC 15 [] h fun Jv tO=>lr Jv fun Qc=>K7 ao aj aq Qc tO) fun ao aj aq x3 h=>aB L3 (fun K1=>aB L4 (fun K6=>K6 ao aj aq x3 0 h) fun ao aj aq x3 x4 h=>il L4 (fg K1 K1 Kr) fun K2=>K2 ao aj aq x3 x4 h) fun x3 h=>n4 x3 Kr Kr h) fun gq gr gu h=>K (.slice gq gr gu) h
theorem ok (q:asks ao aj aq K h):zC 13 [.slice ao aj aq] h K:=
 cl Tryz.func13 q (fun p q=>sq (l:=L1) p q fun p q=>sq (l:=L2) p q fun p q=>sc (l:=L3) q (fun q=>sq (l:=L4) p q fun p q=>bl (b:=0) (lp p q fun p q=>sq (l:=L4) p q fun p q=>sc (l:=L4) q (fun q=>bl (b:=1) (sq (l:=L5) p q fun p q=>lf p q)) fun p q=>lf p q)) fun p q=>lf p q) fun p q=>rt p q
end Jw
namespace Xfs
abbrev L0:=[Zp 0]
variable (K:KV) (h:H)
abbrev asks:Prop:=cF L0 (fun Kr=>zC 34 [] h fun v1 h2=>lr v1 fun p3=>aw h2 ⟨[.pointer p3,.int .u8 0,.int .u8 0,.int .i64 (-1),.bool false,.int .u8 0,S [],S []]⟩ 52 fun a4 h5=>Kr (some a4) h5) fun y0 h=>K (.pointer y0) h
theorem ok (q:asks K h):zC 15 [] h K:=
 cl Tryz.func15 q (fun p q=>lf p q) fun p q=>rt p q
end Xfs
namespace XK
abbrev L0:=[Za 4,Zb 5]
abbrev L5:=[Za 3,Za 4]
abbrev L6:=[Za 3,Za 4,Zb 30]
abbrev L4:=[Za 3,Za 4,Zb 6]
abbrev L3:=[Zp 0,Za 3,Za 4,Zb 6]
abbrev L2:=[Zp 0,Za 3,Za 4]
abbrev T0:=TK L0
variable (x0:OA) (x1:Tk) (x3 x4:Addr) (x6:Bool)
abbrev n5 (Kn Kr:T0) (h:H):Prop:=
 bL h x3 fun t1=>aZ x4 [.int .u8 t1.k,S t1.n,.slice t1.b t1.l t1.c,.bool t1.z,S t1.t] 0 h fun h2=>Kr x4 true h2
abbrev n4 (x3 x4:Addr) (x6:Bool) (Kn Kr:T0) (h:H):Prop:=
 aB L5 (fun K1=>aB L6 (fun K2=>cond x6 (zI .u8 h (x3.add 0) fun i15=>aO (i15=(1:Int)) (zT h (x3.add 4) fun Mv=>aO (Mv=[]) (K2 x3 x4 false h) (zT h (x3.add 4) fun Oj=>(0<=(0:Int)/\0<(Oj.length:Int))/\(aO (((List.getD Oj (Int.toNat 0) 0).toNat:Int)=10) (K2 x3 x4 true h) (K2 x3 x4 false h)))) (K2 x3 x4 false h)) (K2 x3 x4 false h)) fun x3 x4 JI h=>cond JI (zT h (x3.add 4) fun s3=>(0<=(1:Int)/\1<=(s3.length:Int)/\(s3.length:Int)<=(s3.length:Int))/\(aZ (x3.add 4) [(S (sub s3 1 (s3.length:Int)))] 0 h fun h4=>(bL h4 x3 fun t5=>aZ x4 [.int .u8 t5.k,S t5.n,.slice t5.b t5.l t5.c,.bool t5.z,S t5.t] 0 h4 fun h6=>zT h6 (x3.add 4) fun s7=>aO (s7=[]) (Kr x4 false h6) (Kr x4 true h6))/\((bL h4 x3 fun t8=>zT h4 (x3.add 4) fun s9=>aZ x4 [.int .u8 t8.k,S t8.n,.slice t8.b t8.l t8.c,.bool t8.z,S t8.t] 0 h4 fun cS=>aO (s9=[]) (Kr x4 false cS) (Kr x4 true cS))/\(bL h4 x3 fun t11=>zT h4 (x3.add 4) fun j9=>aO (j9=[]) (aZ x4 [.int .u8 t11.k,S t11.n,.slice t11.b t11.l t11.c,.bool t11.z,S t11.t] 0 h4 fun fi=>Kr x4 false fi) (aZ x4 [.int .u8 t11.k,S t11.n,.slice t11.b t11.l t11.c,.bool t11.z,S t11.t] 0 h4 fun dA=>Kr x4 true dA))))) (K1 x3 x4 h)) fun x3 x4 h=>n5 x3 x4 Kn Kr h
variable (K:KV) (h:H)
abbrev asks (x0:OA) (x1:Tk) (K:KV) (h:H):Prop:=cF L0 (fun Kr=>aB L2 (fun K5=>aw h ⟨aT x1⟩ 45 fun a22 qD=>aw qD ⟨[.int .u8 0,S [],.slice none 0 0,.bool false,S []]⟩ 45 fun a24 iG=>K5 x0 a22 a24 iG) fun x0 x3 x4 h=>aB L3 (fun K4=>ae x0 fun a20=>zB h (a20.add 4) fun ZG=>cond ZG (K4 x0 x3 x4 true h) (K4 x0 x3 x4 false h)) fun x0 x3 x4 x6 h=>aB L4 (fun K3=>ae x0 fun sS=>aZ (sS.add 4) [.bool false] 0 h fun pB=>K3 x3 x4 x6 pB) fun x3 x4 x6 h=>n4 x3 x4 x6 Kr Kr h) fun y4 y5 h=>bL h y4 fun t26=>K (.tuple ⟨[.agg ⟨aT t26⟩,.bool y5]⟩) h
theorem ok (q:asks x0 x1 K h):zC 17 [.pointer x0,.agg ⟨aT x1⟩] h K:=
 cl Tryz.func17 q (fun p q=>sq (l:=L2) p q fun p q=>sq (l:=L3) p q fun p q=>sq (l:=L4) p q fun p q=>sc (l:=L5) q (fun q=>sq (l:=L6) p q fun p q=>lf p q) fun p q=>lf p q) fun p q=>rt p q
end XK
namespace Xfc
abbrev L0:List Sl:=[]
variable (x0:OA) (x1:Tk)
variable (K:KV) (h:H)
abbrev asks:Prop:=cF L0 (fun Kr=>aw h ⟨aT x1⟩ 45 fun a1 h2=>zI .u8 h2 (a1.add 0) fun i3=>aO (i3=(1:Int)) (ae x0 fun a4=>zP h2 (a4.add 0) fun p5=>zT h2 (a1.add 4) fun s6=>zC 38 [.pointer p5,S s6] h2 fun v7 h8=>Kr h8) (zC 39 [.pointer x0] h2 fun v9 cS=>ae x0 fun lk=>zI .u8 cS (lk.add 2) fun i12=>ae x0 fun pU=>aZ (pU.add 1) [.int .u8 i12] 0 cS fun dA=>ae x0 fun pV=>aZ (pV.add 5) [.int .u8 0] 0 dA fun gX=>ae x0 fun oO=>aZ (oO.add 6) [S []] 0 gX fun gO=>Kr gO)) fun h=>K (.tuple ⟨[]⟩) h
theorem ok (q:asks x0 x1 K h):zC 20 [.pointer x0,.agg ⟨aT x1⟩] h K:=
 cl Tryz.func20 q (fun p q=>lf p q) fun p q=>rt p q
end Xfc
namespace Xe4
abbrev L5:=[Zp 0,Za 3,Z8 5,Zb 20]
abbrev L4:=[Zp 0,Za 3,Z8 5,Zb 6]
abbrev L3:=[Zp 0,Za 3,Z8 5]
abbrev L2:=[Zp 0,Za 3]
abbrev L0:List Sl:=[]
variable (x0:OA) (x1:Tk)
variable (K:KV) (h:H)
abbrev asks (x0:OA) (x1:Tk) (K:KV) (h:H):Prop:=cF L0 (fun Kr=>aB L2 (fun K4=>aw h ⟨aT x1⟩ 45 fun a22 qD=>K4 x0 a22 qD) fun x0 x3 h=>aB L3 (fun K3=>zI .u8 h (x3.add 0) fun i21=>K3 x0 x3 i21 h) fun x0 x3 x5 h=>aB L4 (fun K2=>aO (x5=(1:Int)) (K2 x0 x3 x5 true h) (K2 x0 x3 x5 false h)) fun x0 x3 x5 x6 h=>cond x6 (ae x0 fun a1=>zP h (a1.add 0) fun p2=>zC 44 [.pointer p2] h fun v3 h4=>ae x0 fun a5=>zP h4 (a5.add 0) fun p6=>zT h4 (x3.add 4) fun s7=>zC 38 [.pointer p6,S s7] h4 fun v8 h9=>Kr h9) (aB L5 (fun K1=>aO (x5=(4:Int)) (K1 x0 x3 x5 true h) (K1 x0 x3 x5 false h)) fun x0 x3 x5 yt h=>cond yt (ae x0 fun jJ=>zP h (jJ.add 0) fun Fs=>zT h (x3.add 4) fun j9=>zC 45 [.pointer Fs,S j9] h fun np dA=>Kr dA) (aO (x5=(2:Int)) (bL h x3 fun t15=>zC 46 [.pointer x0,.agg ⟨aT t15⟩] h fun oT fF=>Kr fF) (aO (x5=(3:Int)) (bL h x3 fun t18=>zC 47 [.pointer x0,.agg ⟨aT t18⟩] h fun xA gx=>Kr gx) (Kr h))))) fun h=>K (.tuple ⟨[]⟩) h
theorem ok (q:asks x0 x1 K h):zC 22 [.pointer x0,.agg ⟨aT x1⟩] h K:=
 cl Tryz.func22 q (fun p q=>sq p q fun p q=>sq p q fun p q=>bl (b:=0) (sq p q fun p q=>cn (i:=6) p q (fun p q=>lf p q) fun p q=>sq p q fun p q=>lf p q)) fun p q=>rt p q
end Xe4
namespace Xfd
abbrev L0:=[Zl 2]
variable (x0:OA)
variable (K:KV) (h:H)
abbrev asks:Prop:=cF L0 (fun Kr=>ae x0 fun a1=>zP h (a1.add 0) fun p2=>ae p2 fun a3=>zP h (a3.add 0) fun p4=>zC 50 [.pointer p4,.int .i64 0] h fun v5 h6=>aA v5 fun yT zY yu=>Kr yT zY yu h6) fun gq gr gu h=>K (.slice gq gr gu) h
theorem ok (q:asks x0 K h):zC 26 [.pointer x0] h K:=
 cl Tryz.func26 q (fun p q=>lf p q) fun p q=>rt p q
end Xfd
namespace Xfa
abbrev L0:List Sl:=[]
variable (x0:OA)
variable (K:KV) (h:H)
abbrev asks:Prop:=cF L0 (fun Kr=>ae x0 fun a1=>zP h (a1.add 0) fun p2=>ae x0 fun a3=>zP h (a3.add 0) fun p4=>ae p4 fun a5=>zS h (a5.add 1) fun jH gn lj=>bc .i64 ((gn:Int) - 1)/\(zC 61 [.pointer p2,.int .i64 ((gn:Int) - 1)] h fun v7 h8=>Kr h8)) fun h=>K (.tuple ⟨[]⟩) h
theorem ok (q:asks x0 K h):zC 39 [.pointer x0] h K:=
 cl Tryz.func39 q (fun p q=>lf p q) fun p q=>rt p q
end Xfa
namespace Xfq
abbrev SM:=[Zp 0,Za 3,Zb 6]
abbrev HW:=[Zp 0,Za 3,Zs 4,Zb 126]
abbrev HX:=[Zp 0,Za 3,Zs 4,Zb 115]
abbrev JH:=[Zp 0,Za 3,Zs 4,Zb 104]
abbrev Ak:=[Zp 0,Za 3,Zs 4,Zb 97]
abbrev Ci:=[Zp 0,Za 3,Zs 4,Zb 81]
abbrev En:=[Zp 0,Za 3,Zs 4,Zb 66]
abbrev yv:=[Zp 0,Za 3,Zs 4,Zb 51]
abbrev L9:=[Zp 0,Za 3,Zs 4,Zb 42]
abbrev L8:=[Zp 0,Za 3,Zs 4,Zb 36]
abbrev L7:=[Zp 0,Za 3,Zs 4,Zb 29]
abbrev L6:=[Zp 0,Za 3,Zs 4,Zb 23]
abbrev L5:=[Zp 0,Za 3,Zs 4,Zb 16]
abbrev L4:=[Zp 0,Za 3,Zs 4,Zb 12]
abbrev L3:=[Zp 0,Za 3,Zs 4]
abbrev L2:=[Zp 0,Za 3]
abbrev L0:List Sl:=[]
variable (x0:OA) (x1:Tk)
variable (K:KV) (h:H)
abbrev asks (x0:OA) (x1:Tk) (K:KV) (h:H):Prop:=cF L0 (fun Kr=>aB L2 (fun Ol=>aw h ⟨aT x1⟩ 45 fun We N1=>Ol x0 We N1) fun x0 x3 h=>aB L3 (fun EE=>zT h (x3.add 1) fun ajd=>EE x0 x3 ajd h) fun x0 x3 x4 h=>aB L4 (fun Ah=>aw h (sW [[104,116,109,108],[98,111,100,121],[104,101,97,100],[102,114,97,109,101],[102,114,97,109,101,115,101,116],[99,97,112,116,105,111,110],[99,111,108],[99,111,108,103,114,111,117,112],[116,98,111,100,121],[116,100],[116,102,111,111,116],[116,104],[116,104,101,97,100],[116,114]]) 9 fun a127 SO=>zC 106 [.slice (some a127) 14 14,S x4] SO fun SP JK=>au SP fun SQ=>cond SQ (Ah x0 x3 x4 true JK) (Ah x0 x3 x4 false JK)) fun x0 x3 x4 ia h=>cond ia (Kr h) (aB L5 (fun za=>aw h (sW [[98,97,115,101],[98,97,115,101,102,111,110,116],[98,103,115,111,117,110,100],[108,105,110,107],[109,101,116,97],[112,97,114,97,109],[115,111,117,114,99,101],[116,114,97,99,107]]) 9 fun aje WG=>zC 106 [.slice (some aje) 8 8,S x4] WG fun v124 abh=>au v124 fun ajf=>cond ajf (za x0 x3 x4 true abh) (za x0 x3 x4 false abh)) fun x0 x3 x4 Q7 h=>cond Q7 (bL h x3 fun t1=>zC 107 [.pointer x0,.agg ⟨aT t1⟩] h fun v2 h3=>Kr h3) (aB L6 (fun BU=>aO (x4=[116,105,116,108,101]) (BU x0 x3 x4 true h) (BU x0 x3 x4 false h)) fun x0 x3 x4 x23 h=>cond x23 (bL h x3 fun t4=>zC 108 [.pointer x0,.agg ⟨aT t4⟩,.int .u8 1] h fun v5 h6=>Kr h6) (aB L7 (fun rZ=>aw h (sW [[110,111,102,114,97,109,101,115],[115,116,121,108,101],[105,102,114,97,109,101],[110,111,101,109,98,101,100]]) 9 fun a117 WH=>zC 106 [.slice (some a117) 4 4,S x4] WH fun WI Em=>au WI fun ajg=>cond ajg (rZ x0 x3 x4 true Em) (rZ x0 x3 x4 false Em)) fun x0 x3 x4 zW h=>cond zW (bL h x3 fun t7=>zC 108 [.pointer x0,.agg ⟨aT t7⟩,.int .u8 2] h fun v8 h9=>Kr h9) (aB L8 (fun ng=>aO (x4=[115,99,114,105,112,116]) (ng x0 x3 x4 true h) (ng x0 x3 x4 false h)) fun x0 x3 x4 x36 h=>cond x36 (bL h x3 fun t10=>zC 108 [.pointer x0,.agg ⟨aT t10⟩,.int .u8 3] h fun v11 eM=>Kr eM) (aB L9 (fun K9=>aw h (sW [[97,100,100,114,101,115,115],[97,114,116,105,99,108,101],[97,115,105,100,101],[98,108,111,99,107,113,117,111,116,101],[99,101,110,116,101,114],[100,101,116,97,105,108,115],[100,105,97,108,111,103],[100,105,114],[100,105,118],[100,108],[102,105,101,108,100,115,101,116],[102,105,103,99,97,112,116,105,111,110],[102,105,103,117,114,101],[102,111,111,116,101,114],[104,101,97,100,101,114],[104,103,114,111,117,112],[109,97,105,110],[109,101,110,117],[110,97,118],[111,108],[112],[115,101,97,114,99,104],[115,101,99,116,105,111,110],[115,117,109,109,97,114,121],[117,108]]) 9 fun WJ ajh=>zC 106 [.slice (some WJ) 25 25,S x4] ajh fun aji abi=>au aji fun ajj=>cond ajj (K9 x0 x3 x4 true abi) (K9 x0 x3 x4 false abi)) fun x0 x3 x4 EB h=>cond EB (zC 109 [.pointer x0] h fun np dA=>bL dA x3 fun t15=>zC 110 [.pointer x0,.agg ⟨aT t15⟩] dA fun oT fF=>aL .i64 oT fun i18=>Kr fF) (aB yv (fun K8=>zC 111 [] h fun H2 Cl=>aA H2 fun wk wm wo=>zC 106 [.slice wk wm wo,S x4] Cl fun v109 vd=>au v109 fun JL=>cond JL (K8 x0 x3 x4 true vd) (K8 x0 x3 x4 false vd)) fun x0 x3 x4 x51 h=>cond x51 (zC 109 [.pointer x0] h fun xA gx=>zC 111 [] gx fun v21 lN=>aA v21 fun vB te vC=>zC 112 [.pointer x0,.slice vB te vC] lN fun v24 iG=>au v24 fun UP=>cond UP (zC 39 [.pointer x0] iG fun zV lK=>bL lK x3 fun t29=>zC 110 [.pointer x0,.agg ⟨aT t29⟩] lK fun v30 yj=>aL .i64 v30 fun i32=>Kr yj) (bL iG x3 fun t33=>zC 110 [.pointer x0,.agg ⟨aT t33⟩] iG fun zt qz=>aL .i64 zt fun i36=>Kr qz)) (aB En (fun K7=>aO (x4=[112,114,101]) (K7 x0 x3 x4 true h) (aO (x4=[108,105,115,116,105,110,103]) (K7 x0 x3 x4 true h) (K7 x0 x3 x4 false h))) fun x0 x3 x4 x66 h=>cond x66 (zC 109 [.pointer x0] h fun v37 Cf=>bL Cf x3 fun t39=>zC 110 [.pointer x0,.agg ⟨aT t39⟩] Cf fun v40 yG=>aL .i64 v40 fun i42=>ae x0 fun JO=>aZ (JO.add 4) [.bool true] 0 yG fun yh=>Kr yh) (aB Ci (fun K6=>aO (x4=[102,111,114,109]) (K6 x0 x3 x4 true h) (K6 x0 x3 x4 false h)) fun x0 x3 x4 x81 h=>cond x81 (ae x0 fun a45=>zI .i64 h (a45.add 3) fun i46=>aO (i46<(0:Int)) (zC 109 [.pointer x0] h fun UN DS=>bL DS x3 fun t49=>zC 110 [.pointer x0,.agg ⟨aT t49⟩] DS fun QF BT=>aL .i64 QF fun i52=>ae x0 fun a53=>aZ (a53.add 3) [.int .i64 i52] 0 BT fun JP=>Kr JP) (Kr h)) (aB Ak (fun K5=>aO (x4=[108,105]) (K5 x0 x3 x4 true h) (K5 x0 x3 x4 false h)) fun x0 x3 x4 x97 h=>cond x97 (bL h x3 fun t55=>aw h #[S [108,105]] 9 fun a56 h57=>zC 113 [.pointer x0,.agg ⟨aT t55⟩,.slice (some a56) 1 1] h57 fun v58 h59=>Kr h59) (aB JH (fun K4=>aO (x4=[100,100]) (K4 x0 x3 x4 true h) (aO (x4=[100,116]) (K4 x0 x3 x4 true h) (K4 x0 x3 x4 false h))) fun x0 x3 x4 ajk h=>cond ajk (bL h x3 fun t60=>aw h (sW [[100,100],[100,116]]) 9 fun Qb U2=>zC 113 [.pointer x0,.agg ⟨aT t60⟩,.slice (some Qb) 2 2] U2 fun v63 h64=>Kr h64) (aB HX (fun K3=>aO (x4=[112,108,97,105,110,116,101,120,116]) (K3 x0 x3 x4 true h) (K3 x0 x3 x4 false h)) fun x0 x3 x4 Wt h=>cond Wt (zC 109 [.pointer x0] h fun W0 h66=>bL h66 x3 fun t67=>zC 110 [.pointer x0,.agg ⟨aT t67⟩] h66 fun v68 V6=>aL .i64 v68 fun i70=>ae x0 fun a71=>aZ (a71.add 5) [.int .u8 4] 0 V6 fun h72=>Kr h72) (aB HW (fun K2=>aO (x4=[98,117,116,116,111,110]) (K2 x0 x3 x4 true h) (K2 x0 x3 x4 false h)) fun x0 x3 x4 N0 h=>cond N0 (aB SM (fun K1=>aw h #[S [98,117,116,116,111,110]] 9 fun ZM h96=>zC 114 [.pointer x0,.int .u8 0,.slice (some ZM) 1 1] h96 fun v97 h98=>au v97 fun b99=>cond b99 (K1 x0 x3 true h98) (K1 x0 x3 false h98)) fun x0 x3 x6 h=>cond x6 (zC 115 [.pointer x0,S []] h fun WX SF=>aw SF #[S [98,117,116,116,111,110]] 9 fun a75 h76=>zC 116 [.pointer x0,.slice (some a75) 1 1] h76 fun XZ Jz=>ae x0 fun XG=>zP Jz (XG.add 0) fun p80=>zC 44 [.pointer p80] Jz fun v81 SX=>bL SX x3 fun t83=>zC 110 [.pointer x0,.agg ⟨aT t83⟩] SX fun v84 SY=>aL .i64 v84 fun i86=>Kr SY) (ae x0 fun a87=>zP h (a87.add 0) fun p88=>zC 44 [.pointer p88] h fun v89 OO=>bL OO x3 fun t91=>zC 110 [.pointer x0,.agg ⟨aT t91⟩] OO fun X2 Ih=>aL .i64 X2 fun i94=>Kr Ih)) (aO (x4=[97]) (bL h x3 fun t100=>zC 117 [.pointer x0,.agg ⟨aT t100⟩] h fun v101 ajm=>Kr ajm) (bL h x3 fun t103=>zC 118 [.pointer x0,.agg ⟨aT t103⟩] h fun abj Ra=>Kr Ra))))))))))))))) fun h=>K (.tuple ⟨[]⟩) h
theorem ok (q:asks x0 x1 K h):zC 46 [.pointer x0,.agg ⟨aT x1⟩] h K:=
 cl Tryz.func46 q (fun p q=>sq p q fun p q=>sq p q fun p q=>bl (b:=0) (sq p q fun p q=>cn (i:=12) p q (fun p q=>lf p q) fun p q=>sq p q fun p q=>cn (i:=16) p q (fun p q=>lf p q) fun p q=>sq p q fun p q=>cn (i:=23) p q (fun p q=>lf p q) fun p q=>sq p q fun p q=>cn (i:=29) p q (fun p q=>lf p q) fun p q=>sq p q fun p q=>cn (i:=36) p q (fun p q=>lf p q) fun p q=>sq p q fun p q=>cn (i:=42) p q (fun p q=>lf p q) fun p q=>sq p q fun p q=>cn (i:=51) p q (fun p q=>lf p q) fun p q=>sq p q fun p q=>cn (i:=66) p q (fun p q=>lf p q) fun p q=>sq p q fun p q=>cn (i:=81) p q (fun p q=>lf p q) fun p q=>sq p q fun p q=>cn (i:=97) p q (fun p q=>lf p q) fun p q=>sq p q fun p q=>cn (i:=104) p q (fun p q=>lf p q) fun p q=>sq p q fun p q=>cn (i:=115) p q (fun p q=>lf p q) fun p q=>sq p q fun p q=>cn (i:=126) p q (fun p q=>sq p q fun p q=>lf p q) fun p q=>lf p q)) fun p q=>rt p q
end Xfq
namespace Xfh
abbrev L9:=[Zp 0,Z6 6,Zb 7]
abbrev L8:=[Zp 0,Z6 6]
abbrev HW:=[Zp 0,Zs 4,Zb 12]
abbrev HX:=[Zp 0,Zs 4,Zb 132]
abbrev JH:=[Zp 0,Zs 4,Zb 126]
abbrev Ak:=[Zp 0,Zs 4,Zb 113]
abbrev Ci:=[Zp 0,Zs 4,Zb 94]
abbrev En:=[Zp 0,Zs 4,Zb 82]
abbrev yv:=[Zp 0,Zs 4,Zb 69]
abbrev L6:=[Zp 0,Zs 4,Zb 43]
abbrev L5:=[Zp 0,Zs 4,Zb 28]
abbrev L4:=[Zp 0,Zs 4,Zb 21]
abbrev L3:=[Zp 0,Zs 4]
abbrev L2:=[Zp 0,Za 3]
abbrev L0:List Sl:=[]
variable (x0:OA) (x1:Tk)
variable (K:KV) (h:H)
abbrev asks (x0:OA) (x1:Tk) (K:KV) (h:H):Prop:=cF L0 (fun Kr=>aB L2 (fun EE=>aw h ⟨aT x1⟩ 45 fun a117 WH=>EE x0 a117 WH) fun x0 x3 h=>aB L3 (fun Ah=>zT h (x3.add 1) fun ajn=>Ah x0 ajn h) fun x0 x4 h=>aB L4 (fun za=>aO (x4=[98,111,100,121]) (za x0 x4 true h) (aO (x4=[104,116,109,108]) (za x0 x4 true h) (za x0 x4 false h))) fun x0 x4 x21 h=>cond x21 (Kr h) (aB L5 (fun BU=>aw h (sW [[97,100,100,114,101,115,115],[97,114,116,105,99,108,101],[97,115,105,100,101],[98,108,111,99,107,113,117,111,116,101],[98,117,116,116,111,110],[99,101,110,116,101,114],[100,101,116,97,105,108,115],[100,105,97,108,111,103],[100,105,114],[100,105,118],[100,108],[102,105,101,108,100,115,101,116],[102,105,103,99,97,112,116,105,111,110],[102,105,103,117,114,101],[102,111,111,116,101,114],[104,101,97,100,101,114],[104,103,114,111,117,112],[108,105,115,116,105,110,103],[109,97,105,110],[109,101,110,117],[110,97,118],[111,108],[112,114,101],[115,101,97,114,99,104],[115,101,99,116,105,111,110],[115,117,109,109,97,114,121],[117,108]]) 9 fun ajo Wd=>zC 106 [.slice (some ajo) 27 27,S x4] Wd fun WK Rb=>au WK fun ajp=>cond ajp (BU x0 x4 true Rb) (BU x0 x4 false Rb)) fun x0 x4 HR h=>cond HR (aw h #[S x4] 9 fun a1 h2=>zC 114 [.pointer x0,.int .u8 0,.slice (some a1) 1 1] h2 fun v3 h4=>au v3 fun b5=>cond b5 (zC 115 [.pointer x0,S []] h4 fun v6 h7=>aw h7 #[S x4] 9 fun a8 h9=>zC 116 [.pointer x0,.slice (some a8) 1 1] h9 fun v10 eF=>Kr eF) (Kr h4)) (aB L6 (fun rZ=>aO (x4=[102,111,114,109]) (rZ x0 x4 true h) (rZ x0 x4 false h)) fun x0 x4 x43 h=>cond x43 (aB L8 (fun K3=>ae x0 fun a23=>zI .i64 h (a23.add 3) fun i24=>K3 x0 i24 h) fun x0 x6 h=>aB L8 (fun K2=>ae x0 fun a21=>aZ (a21.add 3) [.int .i64 (-1)] 0 h fun lN=>K2 x0 x6 lN) fun x0 x6 h=>aB L9 (fun K1=>aO (x6 ≥ 0) (zC 119 [.pointer x0,.int .i64 x6] h fun Ey pB=>au Ey fun V4=>cond V4 (K1 x0 x6 true pB) (K1 x0 x6 false pB)) (K1 x0 x6 false h)) fun x0 x6 x7 h=>cond x7 (zC 115 [.pointer x0,S []] h fun v12 fi=>ae x0 fun lS=>zP fi (lS.add 0) fun p15=>zC 120 [.pointer p15,.int .i64 x6] fi fun oT fF=>Kr fF) (Kr h)) (aB yv (fun ng=>aO (x4=[112]) (ng x0 x4 true h) (ng x0 x4 false h)) fun x0 x4 x69 h=>cond x69 (aw h #[S [112]] 9 fun a25 oC=>zC 114 [.pointer x0,.int .u8 2,.slice (some a25) 1 1] oC fun zV lK=>au zV fun I9=>cond I9 (zC 109 [.pointer x0] lK fun v30 yj=>Kr yj) (zC 110 [.pointer x0,(.agg ⟨[.int .u8 0,S [112],.slice none 0 0,.bool false,S []]⟩)] lK fun B5 mq=>aL .i64 B5 fun i34=>zC 109 [.pointer x0] mq fun Kb uC=>Kr uC)) (aB En (fun K9=>aO (x4=[108,105]) (K9 x0 x4 true h) (K9 x0 x4 false h)) fun x0 x4 x82 h=>cond x82 (aw h #[S [108,105]] 9 fun a37 Cf=>zC 114 [.pointer x0,.int .u8 1,.slice (some a37) 1 1] Cf fun P9 DV=>au P9 fun ZA=>cond ZA (zC 115 [.pointer x0,S [108,105]] DV fun Sb Mt=>aw Mt #[S [108,105]] 9 fun a44 Ex=>zC 116 [.pointer x0,.slice (some a44) 1 1] Ex fun v46 Fb=>Kr Fb) (Kr DV)) (aB Ci (fun K8=>aO (x4=[100,100]) (K8 x0 x4 true h) (aO (x4=[100,116]) (K8 x0 x4 true h) (K8 x0 x4 false h))) fun x0 x4 x94 h=>cond x94 (aw h #[S x4] 9 fun Nf QE=>zC 114 [.pointer x0,.int .u8 0,.slice (some Nf) 1 1] QE fun QF BT=>au QF fun b52=>cond b52 (zC 115 [.pointer x0,S x4] BT fun v53 JP=>aw JP #[S x4] 9 fun Sw h56=>zC 116 [.pointer x0,.slice (some Sw) 1 1] h56 fun v57 h58=>Kr h58) (Kr BT)) (aB Ak (fun K7=>zC 111 [] h fun v105 ajs=>aA v105 fun abk abl abm=>zC 106 [.slice abk abl abm,S x4] ajs fun ajt yX=>au ajt fun aju=>cond aju (K7 x0 x4 true yX) (K7 x0 x4 false yX)) fun x0 x4 ajv h=>cond ajv (zC 111 [] h fun v59 H5=>aA v59 fun VC VD VE=>zC 114 [.pointer x0,.int .u8 0,.slice VC VD VE] H5 fun v62 ll=>au v62 fun b64=>cond b64 (zC 115 [.pointer x0,S []] ll fun W0 h66=>zC 111 [] h66 fun v67 h68=>aA v67 fun ajw ajx ajy=>zC 116 [.pointer x0,.slice ajw ajx ajy] h68 fun v70 Xs=>Kr Xs) (Kr ll)) (aB JH (fun K6=>zC 121 [S x4] h fun Ng vF=>au Ng fun ajz=>cond ajz (K6 x0 x4 true vF) (K6 x0 x4 false vF)) fun x0 x4 N0 h=>cond N0 (zC 122 [.pointer x0,S x4] h fun v72 TX=>Kr TX) (aB HX (fun K5=>aO (x4=[97,112,112,108,101,116]) (K5 x0 x4 true h) (aO (x4=[109,97,114,113,117,101,101]) (K5 x0 x4 true h) (aO (x4=[111,98,106,101,99,116]) (K5 x0 x4 true h) (K5 x0 x4 false h)))) fun x0 x4 ajA h=>cond ajA (aB HW (fun K4=>aw h #[S x4] 9 fun a91 h92=>zC 114 [.pointer x0,.int .u8 0,.slice (some a91) 1 1] h92 fun v93 h94=>au v93 fun b95=>cond b95 (K4 x0 x4 true h94) (K4 x0 x4 false h94)) fun x0 x4 ia h=>cond ia (zC 115 [.pointer x0,S []] h fun Ti h75=>aw h75 #[S x4] 9 fun a76 h77=>zC 116 [.pointer x0,.slice (some a76) 1 1] h77 fun v78 h79=>ae x0 fun a80=>zP h79 (a80.add 0) fun p81=>ae x0 fun a82=>zP h79 (a82.add 0) fun p83=>ae p83 fun a84=>zS h79 (a84.add 2) fun ajD ajE ajF=>zC 123 [.slice ajD ajE ajF] h79 fun v86 QH=>aA v86 fun Vd Ve Vf=>bH h79 QH/\(ae p81 fun a89=>aZ (a89.add 2) [.slice Vd Ve Vf] 0 QH fun OO=>Kr OO)) (Kr h)) (aO (x4=[98,114]) (zC 46 [.pointer x0,(.agg ⟨[.int .u8 0,S [98,114],.slice none 0 0,.bool false,S []]⟩)] h fun v96 Xu=>Kr Xu) (ae x0 fun a98=>zP h (a98.add 0) fun p99=>zC 124 [.pointer p99,S x4] h fun v100 Ja=>Kr Ja))))))))))) fun h=>K (.tuple ⟨[]⟩) h
theorem ok (q:asks x0 x1 K h):zC 47 [.pointer x0,.agg ⟨aT x1⟩] h K:=
 cl Tryz.func47 q (fun p q=>sq p q fun p q=>sq p q fun p q=>bl (b:=0) (sq p q fun p q=>cn (i:=21) p q (fun p q=>lf p q) fun p q=>sq p q fun p q=>cn (i:=28) p q (fun p q=>lf p q) fun p q=>sq p q fun p q=>cn (i:=43) p q (fun p q=>sq p q fun p q=>sq p q fun p q=>sq p q fun p q=>lf p q) fun p q=>sq p q fun p q=>cn (i:=69) p q (fun p q=>lf p q) fun p q=>sq p q fun p q=>cn (i:=82) p q (fun p q=>lf p q) fun p q=>sq p q fun p q=>cn (i:=94) p q (fun p q=>lf p q) fun p q=>sq p q fun p q=>cn (i:=113) p q (fun p q=>lf p q) fun p q=>sq p q fun p q=>cn (i:=126) p q (fun p q=>lf p q) fun p q=>sq p q fun p q=>cn (i:=132) p q (fun p q=>sq p q fun p q=>lf p q) fun p q=>lf p q)) fun p q=>rt p q
end Xfh
namespace Tp
abbrev L2:List Sl:=[]
abbrev L3:=[Zl 0,Zs 1,Z6 5]
abbrev L0:=[Zb 4]
abbrev L1:=[Zl 0,Zs 1]
abbrev T2:=TK L2
abbrev T0:=TK L0
abbrev T3:=TK L3
variable (ao:OA) (aj aq:Nat) (x1:List UInt8)
abbrev bS (Kn Ke0:T2) (Kr:T0):T3->T3:=fun K2 ao aj aq x1 x5 h=>aO (x5<(aj:Int)) ((0<=x5/\x5<(aj:Int))/\(ae ao fun a1=>zT h (a1.add (Int.toNat x5*1)) fun s2=>aO (s2=x1) (Kr true h) (bc .i64 (x5+(1:Int))/\(K2 ao aj aq x1 (x5+(1:Int)) h)))) (Ke0 h)
abbrev cR (Kn Ke0:T2) (Kr:T0):Nat->T3:=LP L3 (bS Kn Ke0 Kr)
variable (K:KV) (h:H)
abbrev asks (ao:OA) (aj aq:Nat) (x1:List UInt8) (K:KV) (h:H):Prop:=cF L0 (fun Kr=>aB L1 (fun K4=>K4 ao aj aq x1 h) fun ao aj aq x1 h=>aB L2 (fun K1=>aB L3 (fun K3=>K3 ao aj aq x1 0 h) fun ao aj aq x1 x5 h=>il L3 (bS K1 K1 Kr) fun K2=>K2 ao aj aq x1 x5 h) fun h=>Kr false h) fun y4 h=>K (.bool y4) h
theorem ok (q:asks ao aj aq x1 K h):zC 106 [.slice ao aj aq,S x1] h K:=
 cl Tryz.func106 q (fun p q=>sq (l:=L1) p q fun p q=>sc (l:=L2) q (fun q=>sq (l:=L3) p q fun p q=>bl (b:=0) (lp p q fun p q=>lf p q)) fun p q=>lf p q) fun p q=>rt p q
end Tp
namespace Xfg
abbrev L0:List Sl:=[]
variable (x0:OA) (x1:Tk)
variable (K:KV) (h:H)
abbrev asks:Prop:=cF L0 (fun Kr=>aw h ⟨aT x1⟩ 45 fun a1 h2=>bL h2 a1 fun t3=>zC 110 [.pointer x0,.agg ⟨aT t3⟩] h2 fun v4 h5=>aL .i64 v4 fun i6=>zC 39 [.pointer x0] h5 fun v7 h8=>Kr h8) fun h=>K (.tuple ⟨[]⟩) h
theorem ok (q:asks x0 x1 K h):zC 107 [.pointer x0,.agg ⟨aT x1⟩] h K:=
 cl Tryz.func107 q (fun p q=>lf p q) fun p q=>rt p q
end Xfg
namespace Xfo
abbrev L0:List Sl:=[]
variable (x0:OA) (x1:Tk) (x2:Int)
variable (K:KV) (h:H)
abbrev asks:Prop:=cF L0 (fun Kr=>aw h ⟨aT x1⟩ 45 fun a1 h2=>bL h2 a1 fun t3=>zC 110 [.pointer x0,.agg ⟨aT t3⟩] h2 fun v4 h5=>aL .i64 v4 fun i6=>bL h5 a1 fun t7=>zC 166 [.pointer x0,.agg ⟨aT t7⟩,.int .u8 x2] h5 fun v8 h9=>Kr h9) fun h=>K (.tuple ⟨[]⟩) h
theorem ok (q:asks x0 x1 x2 K h):zC 108 [.pointer x0,.agg ⟨aT x1⟩,.int .u8 x2] h K:=
 cl Tryz.func108 q (fun p q=>lf p q) fun p q=>rt p q
end Xfo
namespace Xff
abbrev L0:List Sl:=[]
variable (x0:OA)
variable (K:KV) (h:H)
abbrev asks:Prop:=cF L0 (fun Kr=>aw h #[S [112]] 9 fun a1 h2=>zC 114 [.pointer x0,.int .u8 2,.slice (some a1) 1 1] h2 fun v3 h4=>au v3 fun b5=>cond b5 (zC 115 [.pointer x0,S [112]] h4 fun v6 h7=>aw h7 #[S [112]] 9 fun a8 h9=>zC 116 [.pointer x0,.slice (some a8) 1 1] h9 fun v10 eF=>Kr eF) (Kr h4)) fun h=>K (.tuple ⟨[]⟩) h
theorem ok (q:asks x0 K h):zC 109 [.pointer x0] h K:=
 cl Tryz.func109 q (fun p q=>lf p q) fun p q=>rt p q
end Xff
namespace Xe7
abbrev L0:=[Z6 4]
variable (x0:OA) (x1:Tk)
variable (K:KV) (h:H)
abbrev asks:Prop:=cF L0 (fun Kr=>aw h ⟨aT x1⟩ 45 fun a1 h2=>ae x0 fun a3=>zP h2 (a3.add 0) fun p4=>bL h2 a1 fun t5=>zC 103 [.pointer p4,.int .u8 0,.agg ⟨aT t5⟩] h2 fun v6 h7=>aL .i64 v6 fun i8=>Kr i8 h7) fun y4 h=>K (.int .i64 y4) h
theorem ok (q:asks x0 x1 K h):zC 110 [.pointer x0,.agg ⟨aT x1⟩] h K:=
 cl Tryz.func110 q (fun p q=>lf p q) fun p q=>rt p q
end Xe7
namespace Xfu
abbrev L0:=[Zl 0]
variable (K:KV) (h:H)
abbrev asks:Prop:=cF L0 (fun Kr=>aw h (sW [[104,49],[104,50],[104,51],[104,52],[104,53],[104,54]]) 9 fun a1 h2=>Kr (some a1) 6 6 h2) fun y0b y0n y0c h=>K (.slice y0b y0n y0c) h
theorem ok (q:asks K h):zC 111 [] h K:=
 cl Tryz.func111 q (fun p q=>lf p q) fun p q=>rt p q
end Xfu
namespace Xe5
abbrev L0:=[Zb 4]
variable (x0 cf:OA) (bU cu:Nat)
variable (K:KV) (h:H)
abbrev asks:Prop:=cF L0 (fun Kr=>ae x0 fun a1=>zP h (a1.add 0) fun p2=>zC 59 [.pointer p2] h fun v3 h4=>dO v3 fun Ww Wx Wy Wz=>aw h4 ⟨[.int .i64 0,.int .u8 0,S [],.int .u8 0]⟩ 77 fun a6 h7=>aZ a6 [.int .i64 Ww,.int .u8 Wx,S Wy,.int .u8 Wz] 0 h7 fun h8=>zI .u8 h8 (a6.add 1) fun i9=>aO (i9=(0:Int)) (zT h8 (a6.add 2) fun pv=>zC 106 [.slice cf bU cu,S pv] h8 fun v11 eM=>au v11 fun F8=>cond F8 (Kr true eM) (Kr false eM)) (Kr false h8)) fun y4 h=>K (.bool y4) h
theorem ok (q:asks x0 cf bU cu K h):zC 112 [.pointer x0,.slice cf bU cu] h K:=
 cl Tryz.func112 q (fun p q=>lf p q) fun p q=>rt p q
end Xe5
namespace Xfk
abbrev L4:=[Zp 0,Za 4]
abbrev L5:=[Zp 0,Za 4,Z6 6,Zb 18]
abbrev L3:=[Zp 0,Za 4,Z6 6]
abbrev L2:=[Zp 0,Zl 2,Za 4]
abbrev L0:List Sl:=[]
variable (x0:OA) (x1:Tk) (dx:OA) (dq dz:Nat)
variable (K:KV) (h:H)
abbrev asks (x0:OA) (x1:Tk) (dx:OA) (dq dz:Nat) (K:KV) (h:H):Prop:=cF L0 (fun Kr=>aB L2 (fun K4=>aw h ⟨aT x1⟩ 45 fun a26 AK=>K4 x0 dx dq dz a26 AK) fun x0 dx dq dz x4 h=>aB L3 (fun K3=>ae x0 fun jK=>zP h (jK.add 0) fun p20=>ae p20 fun a21=>zS h (a21.add 1) fun me iI mf=>zC 167 [.slice me iI mf,.slice dx dq dz] h fun v23 lX=>aL .i64 v23 fun i25=>K3 x0 x4 i25 lX) fun x0 x4 x6 h=>aB L4 (fun K1=>aB L5 (fun K2=>aO (x6 ≥ 0) (K2 x0 x4 x6 true h) (K2 x0 x4 x6 false h)) fun x0 x4 x6 qK h=>cond qK (ae x0 fun a7=>zP h (a7.add 0) fun p8=>ae p8 fun a9=>zS h (a9.add 1) fun jS jl mW=>(0<=x6/\x6<(jl:Int))/\(ae jS fun lk=>zT h ((lk.add (Int.toNat x6*4)).add 2) fun j9=>zC 115 [.pointer x0,S j9] h fun np dA=>aw dA #[S j9] 9 fun pV gX=>zC 116 [.pointer x0,.slice (some pV) 1 1] gX fun EG gO=>K1 x0 x4 gO)) (K1 x0 x4 h)) fun x0 x4 h=>zC 109 [.pointer x0] h fun v1 h2=>bL h2 x4 fun t3=>zC 110 [.pointer x0,.agg ⟨aT t3⟩] h2 fun v4 h5=>aL .i64 v4 fun i6=>Kr h5) fun h=>K (.tuple ⟨[]⟩) h
theorem ok (q:asks x0 x1 dx dq dz K h):zC 113 [.pointer x0,.agg ⟨aT x1⟩,.slice dx dq dz] h K:=
 cl Tryz.func113 q (fun p q=>sq p q fun p q=>sq p q fun p q=>sc q (fun q=>sq p q fun p q=>lf p q) fun p q=>lf p q) fun p q=>rt p q
end Xfk
namespace Xfb
abbrev L0:=[Zb 6]
variable (x0:OA) (x1:Int) (dx:OA) (dq dz:Nat)
variable (K:KV) (h:H)
abbrev asks:Prop:=cF L0 (fun Kr=>ae x0 fun a1=>zP h (a1.add 0) fun p2=>ae p2 fun a3=>zS h (a3.add 1) fun mB mC sB=>zC 168 [.slice mB mC sB,.int .u8 x1,.slice dx dq dz] h fun v5 h6=>au v5 fun b7=>cond b7 (Kr true h6) (Kr false h6)) fun y6 h=>K (.bool y6) h
theorem ok (q:asks x0 x1 dx dq dz K h):zC 114 [.pointer x0,.int .u8 x1,.slice dx dq dz] h K:=
 cl Tryz.func114 q (fun p q=>lf p q) fun p q=>rt p q
end Xfb
namespace Xe6
abbrev L0:List Sl:=[]
variable (x0:OA) (x1:List UInt8)
variable (K:KV) (h:H)
abbrev asks:Prop:=cF L0 (fun Kr=>ae x0 fun a1=>zP h (a1.add 0) fun p2=>ae x0 fun a3=>zP h (a3.add 0) fun p4=>ae p4 fun a5=>zS h (a5.add 1) fun jH gn lj=>zC 169 [.slice jH gn lj,S x1] h fun v7 h8=>aL .i64 v7 fun i9=>bH h h8/\(zC 61 [.pointer p2,.int .i64 i9] h8 fun v10 eF=>Kr eF)) fun h=>K (.tuple ⟨[]⟩) h
theorem ok (q:asks x0 x1 K h):zC 115 [.pointer x0,S x1] h K:=
 cl Tryz.func115 q (fun p q=>lf p q) fun p q=>rt p q
end Xe6
namespace Xfe
abbrev L0:List Sl:=[]
variable (x0 cf:OA) (bU cu:Nat)
variable (K:KV) (h:H)
abbrev asks:Prop:=cF L0 (fun Kr=>ae x0 fun a1=>zP h (a1.add 0) fun p2=>ae x0 fun a3=>zP h (a3.add 0) fun p4=>ae p4 fun a5=>zS h (a5.add 1) fun jH gn lj=>zC 132 [.slice jH gn lj,.slice cf bU cu] h fun v7 h8=>aL .i64 v7 fun i9=>bH h h8/\(zC 61 [.pointer p2,.int .i64 i9] h8 fun v10 eF=>Kr eF)) fun h=>K (.tuple ⟨[]⟩) h
theorem ok (q:asks x0 cf bU cu K h):zC 116 [.pointer x0,.slice cf bU cu] h K:=
 cl Tryz.func116 q (fun p q=>lf p q) fun p q=>rt p q
end Xfe
namespace Xfl
abbrev L2:=[Zp 0,Za 3]
abbrev L5:=[Zp 0,Za 3,Z6 5]
abbrev L7:=[Zp 0,Za 3,Z6 4,Z6 5,Zb 40]
abbrev L6:=[Zp 0,Za 3,Z6 4,Z6 5]
abbrev L4:=[Zp 0,Za 3,Z6 4,Zb 16]
abbrev L3:=[Zp 0,Za 3,Z6 4]
abbrev L0:List Sl:=[]
variable (x0:OA) (x1:Tk)
variable (K:KV) (h:H)
abbrev asks (x0:OA) (x1:Tk) (K:KV) (h:H):Prop:=cF L0 (fun Kr=>aB L2 (fun K9=>aw h ⟨aT x1⟩ 45 fun Nf QE=>K9 x0 Nf QE) fun x0 x3 h=>aB L3 (fun K8=>ae x0 fun Vr=>zP h (Vr.add 0) fun p42=>ae p42 fun JO=>zS h (JO.add 2) fun NG Jk Jl=>zC 170 [.slice NG Jk Jl,S [97]] h fun v45 QO=>aL .i64 v45 fun i47=>K8 x0 x3 i47 QO) fun x0 x3 x4 h=>aB L2 (fun K1=>aB L4 (fun K7=>aO (x4 ≥ 0) (K7 x0 x3 x4 true h) (K7 x0 x3 x4 false h)) fun x0 x3 x4 Q7 h=>cond Q7 (aB L5 (fun K6=>ae x0 fun Nx=>zP h (Nx.add 0) fun p36=>ae p36 fun a37=>zS h (a37.add 2) fun I8 BF Mu=>(0<=x4/\x4<(BF:Int))/\(ae I8 fun Vq=>zI .i64 h ((Vq.add (Int.toNat x4*3)).add 0) fun i40=>K6 x0 x3 i40 h)) fun x0 x3 x5 h=>aB L5 (fun K5=>zC 122 [.pointer x0,S [97]] h fun Sd zZ=>K5 x0 x3 x5 zZ) fun x0 x3 x5 h=>aB L6 (fun K4=>ae x0 fun a26=>zP h (a26.add 0) fun QJ=>ae QJ fun a28=>zS h (a28.add 2) fun DT BD DU=>zC 171 [.slice DT BD DU,.int .i64 x5] h fun v30 yj=>aL .i64 v30 fun i32=>K4 x0 x3 i32 x5 yj) fun x0 x3 x4 x5 h=>aB L5 (fun K2=>aB L7 (fun K3=>aO (x4 ≥ 0) (K3 x0 x3 x4 x5 true h) (K3 x0 x3 x4 x5 false h)) fun x0 x3 x4 x5 x40 h=>cond x40 (ae x0 fun a8=>zP h (a8.add 0) fun p9=>ae p9 fun jJ=>zS h (jJ.add 2) fun mX lz mg=>(0<=(0:Int)/\0<=x4/\x4<=(mg:Int))/\(bf Tryz.prog (Builtin.append_ #[40,40] 40 ⟨[.slice none 0 0,(.slice (if mg=Int.toNat 0 then mX else Option.map (fun q=>q.add (Int.toNat (0:Int)*3)) mX) (Int.toNat x4 - Int.toNat 0) (mg - Int.toNat 0))]⟩) h fun v12 fi=>aA v12 fun xV xW xX=>ae x0 fun pV=>zP fi (pV.add 0) fun p16=>ae p16 fun oO=>zS fi (oO.add 2) fun gL fA fW=>bc .i64 (x4+(1:Int))/\((0<=(x4+(1:Int))/\(x4+(1:Int))<=(fA:Int)/\(fA:Int)<=(fW:Int))/\(bf Tryz.prog (Builtin.append_ #[40,40] 40 ⟨[.slice xV xW xX,(.slice (if fW=Int.toNat (x4+(1:Int)) then gL else Option.map (fun q=>q.add (Int.toNat (x4+(1:Int))*3)) gL) (Int.toNat (fA:Int) - Int.toNat (x4+(1:Int))) (fW - Int.toNat (x4+(1:Int))))]⟩) fi fun xA gx=>aA xA fun xE vD xF=>ae x0 fun a22=>zP gx (a22.add 0) fun p23=>ae p23 fun a24=>aZ (a24.add 2) [.slice xE vD xF] 0 gx fun iG=>K2 x0 x3 x5 iG)))) (K2 x0 x3 x5 h)) fun x0 x3 x5 h=>ae x0 fun a4=>zP h (a4.add 0) fun p5=>zC 120 [.pointer p5,.int .i64 x5] h fun v6 h7=>K1 x0 x3 h7) (K1 x0 x3 h)) fun x0 x3 h=>bL h x3 fun t1=>zC 172 [.pointer x0,.agg ⟨aT t1⟩] h fun v2 h3=>Kr h3) fun h=>K (.tuple ⟨[]⟩) h
theorem ok (q:asks x0 x1 K h):zC 117 [.pointer x0,.agg ⟨aT x1⟩] h K:=
 cl Tryz.func117 q (fun p q=>sq p q fun p q=>sq p q fun p q=>sc q (fun q=>sq p q fun p q=>cn (i:=16) p q (fun p q=>sq p q fun p q=>sq p q fun p q=>sq p q fun p q=>sc q (fun q=>sq p q fun p q=>lf p q) fun p q=>lf p q) fun p q=>lf p q) fun p q=>lf p q) fun p q=>rt p q
end Xfl
namespace Xfn
abbrev JH:=[Zp 0,Za 3,Zb 6]
abbrev HW:=[Zp 0,Za 3,Zs 4,Zb 7]
abbrev L19:=[Zp 0,Za 3,Z8 9]
abbrev Xt:=[Zp 0,Za 3,Zs 4,Z8 9]
abbrev SM:=[Zp 0,Za 3,Zs 4,Zb 179]
abbrev HX:=[Zp 0,Za 3,Zs 4,Zb 148]
abbrev Ak:=[Zp 0,Za 3,Zs 4,Zb 127]
abbrev Ci:=[Zp 0,Za 3,Zs 4,Zb 114]
abbrev En:=[Zp 0,Za 3,Zs 4,Zb 102]
abbrev yv:=[Zp 0,Za 3,Zs 4,Zb 94]
abbrev L9:=[Zp 0,Za 3,Zs 4,Zb 87]
abbrev L8:=[Zp 0,Za 3,Zs 4,Zb 75]
abbrev L7:=[Zp 0,Za 3,Zs 4,Zb 64]
abbrev L6:=[Zp 0,Za 3,Zs 4,Zb 43]
abbrev L5:=[Zp 0,Za 3,Zs 4,Zb 37]
abbrev L4:=[Zp 0,Za 3,Zs 4,Zb 20]
abbrev L3:=[Zp 0,Za 3,Zs 4]
abbrev L2:=[Zp 0,Za 3]
abbrev L0:List Sl:=[]
variable (x0:OA) (x1:Tk)
variable (K:KV) (h:H)
abbrev asks (x0:OA) (x1:Tk) (K:KV) (h:H):Prop:=cF L0 (fun Kr=>aB L2 (fun Om=>aw h ⟨aT x1⟩ 45 fun WL NQ=>Om x0 WL NQ) fun x0 x3 h=>aB L3 (fun Wl=>zT h (x3.add 1) fun ajG=>Wl x0 x3 ajG h) fun x0 x3 x4 h=>aB L4 (fun Ol=>aO (x4=[110,111,98,114]) (Ol x0 x3 x4 true h) (Ol x0 x3 x4 false h)) fun x0 x3 x4 yt h=>cond yt (ae x0 fun a1=>zP h (a1.add 0) fun p2=>zC 44 [.pointer p2] h fun v3 h4=>aw h4 #[S [110,111,98,114]] 9 fun a5 h6=>zC 114 [.pointer x0,.int .u8 0,.slice (some a5) 1 1] h6 fun v7 h8=>au v7 fun b9=>cond b9 (zC 122 [.pointer x0,S [110,111,98,114]] h8 fun v10 eF=>bL eF x3 fun t12=>zC 172 [.pointer x0,.agg ⟨aT t12⟩] eF fun np dA=>Kr dA) (bL h8 x3 fun t15=>zC 172 [.pointer x0,.agg ⟨aT t15⟩] h8 fun oT fF=>Kr fF)) (aB L5 (fun EE=>zC 121 [S x4] h fun v157 Rc=>au v157 fun ajH=>cond ajH (EE x0 x3 x4 true Rc) (EE x0 x3 x4 false Rc)) fun x0 x3 x4 x37 h=>cond x37 (bL h x3 fun t18=>zC 172 [.pointer x0,.agg ⟨aT t18⟩] h fun xA gx=>Kr gx) (aB L6 (fun Ah=>aO (x4=[97,112,112,108,101,116]) (Ah x0 x3 x4 true h) (aO (x4=[109,97,114,113,117,101,101]) (Ah x0 x3 x4 true h) (aO (x4=[111,98,106,101,99,116]) (Ah x0 x3 x4 true h) (Ah x0 x3 x4 false h)))) fun x0 x3 x4 x43 h=>cond x43 (ae x0 fun a21=>zP h (a21.add 0) fun p22=>zC 44 [.pointer p22] h fun v23 lX=>bL lX x3 fun t25=>zC 110 [.pointer x0,.agg ⟨aT t25⟩] lX fun v26 AK=>aL .i64 v26 fun i28=>zC 173 [.pointer x0] AK fun Jv tO=>Kr tO) (aB L7 (fun za=>aO (x4=[116,97,98,108,101]) (za x0 x3 x4 true h) (za x0 x3 x4 false h)) fun x0 x3 x4 x64 h=>cond x64 (zC 109 [.pointer x0] h fun v31 Ez=>bL Ez x3 fun t33=>zC 110 [.pointer x0,.agg ⟨aT t33⟩] Ez fun zt qz=>aL .i64 zt fun i36=>ae x0 fun a37=>aZ (a37.add 1) [.int .u8 2] 0 qz fun Cf=>Kr Cf) (aB L8 (fun BU=>aw h (sW [[97,114,101,97],[98,114],[101,109,98,101,100],[105,109,103],[107,101,121,103,101,110],[119,98,114],[105,110,112,117,116]]) 9 fun a152 Vp=>zC 106 [.slice (some a152) 7 7,S x4] Vp fun v154 abp=>au v154 fun ajI=>cond ajI (BU x0 x3 x4 true abp) (BU x0 x3 x4 false abp)) fun x0 x3 x4 x75 h=>cond x75 (ae x0 fun Vq=>zP h (Vq.add 0) fun p40=>zC 44 [.pointer p40] h fun Zy I7=>bL I7 x3 fun t43=>zC 107 [.pointer x0,.agg ⟨aT t43⟩] I7 fun Mr Ex=>Kr Ex) (aB L9 (fun rZ=>aO (x4=[105,109,97,103,101]) (rZ x0 x3 x4 true h) (rZ x0 x3 x4 false h)) fun x0 x3 x4 x87 h=>cond x87 (aZ (x3.add 1) [S [105,109,103]] 0 h fun QO=>bL QO x3 fun t47=>zC 46 [.pointer x0,.agg ⟨aT t47⟩] QO fun v48 QE=>Kr QE) (aB yv (fun ng=>aO (x4=[104,114]) (ng x0 x3 x4 true h) (ng x0 x3 x4 false h)) fun x0 x3 x4 x94 h=>cond x94 (zC 109 [.pointer x0] h fun QF BT=>bL BT x3 fun t52=>zC 107 [.pointer x0,.agg ⟨aT t52⟩] BT fun v53 JP=>Kr JP) (aB En (fun K9=>aO (x4=[116,101,120,116,97,114,101,97]) (K9 x0 x3 x4 true h) (K9 x0 x3 x4 false h)) fun x0 x3 x4 ajJ h=>cond ajJ (bL h x3 fun t55=>zC 110 [.pointer x0,.agg ⟨aT t55⟩] h fun v56 h57=>aL .i64 v56 fun i58=>ae x0 fun a59=>aZ (a59.add 4) [.bool true] 0 h57 fun H5=>bL H5 x3 fun t61=>zC 166 [.pointer x0,.agg ⟨aT t61⟩,.int .u8 1] H5 fun v62 ll=>Kr ll) (aB Ci (fun K8=>aO (x4=[120,109,112]) (K8 x0 x3 x4 true h) (K8 x0 x3 x4 false h)) fun x0 x3 x4 ajK h=>cond ajK (zC 109 [.pointer x0] h fun XX QG=>ae x0 fun a66=>zP QG (a66.add 0) fun p67=>zC 44 [.pointer p67] QG fun v68 V6=>bL V6 x3 fun t70=>zC 108 [.pointer x0,.agg ⟨aT t70⟩,.int .u8 2] V6 fun v71 h72=>Kr h72) (aB Ak (fun K7=>aO (x4=[111,112,116,103,114,111,117,112]) (K7 x0 x3 x4 true h) (aO (x4=[111,112,116,105,111,110]) (K7 x0 x3 x4 true h) (K7 x0 x3 x4 false h))) fun x0 x3 x4 ajL h=>cond ajL (aB JH (fun K1=>aw h #[S [111,112,116,105,111,110]] 9 fun a91 h92=>zC 112 [.pointer x0,.slice (some a91) 1 1] h92 fun v93 h94=>au v93 fun b95=>cond b95 (K1 x0 x3 true h94) (K1 x0 x3 false h94)) fun x0 x3 x6 h=>cond x6 (zC 39 [.pointer x0] h fun WX SF=>ae x0 fun a75=>zP SF (a75.add 0) fun p76=>zC 44 [.pointer p76] SF fun XZ Jz=>bL Jz x3 fun t79=>zC 110 [.pointer x0,.agg ⟨aT t79⟩] Jz fun v80 h81=>aL .i64 v80 fun i82=>Kr h81) (ae x0 fun a83=>zP h (a83.add 0) fun p84=>zC 44 [.pointer p84] h fun v85 h86=>bL h86 x3 fun t87=>zC 110 [.pointer x0,.agg ⟨aT t87⟩] h86 fun v88 SH=>aL .i64 v88 fun i90=>Kr SH)) (aB HX (fun K6=>aO (x4=[114,98]) (K6 x0 x3 x4 true h) (aO (x4=[114,116,99]) (K6 x0 x3 x4 true h) (aO (x4=[114,112]) (K6 x0 x3 x4 true h) (aO (x4=[114,116]) (K6 x0 x3 x4 true h) (K6 x0 x3 x4 false h))))) fun x0 x3 x4 Wu h=>cond Wu (aB HW (fun K2=>aw h #[S [114,117,98,121]] 9 fun ajM ajN=>zC 114 [.pointer x0,.int .u8 0,.slice (some ajM) 1 1] ajN fun ajO Iv=>au ajO fun ajP=>cond ajP (K2 x0 x3 x4 true Iv) (K2 x0 x3 x4 false Iv)) fun x0 x3 x4 x7 h=>aO (x4=[114,112]) (cond x7 (zC 115 [.pointer x0,S [114,116,99]] h fun v96 Xu=>bL Xu x3 fun t98=>zC 110 [.pointer x0,.agg ⟨aT t98⟩] Xu fun v99 ajQ=>aL .i64 v99 fun i101=>Kr ajQ) (bL h x3 fun t102=>zC 110 [.pointer x0,.agg ⟨aT t102⟩] h fun ajR ajS=>aL .i64 ajR fun i105=>Kr ajS)) (aO (x4=[114,116]) (cond x7 (zC 115 [.pointer x0,S [114,116,99]] h fun H2 Cl=>bL Cl x3 fun t108=>zC 110 [.pointer x0,.agg ⟨aT t108⟩] Cl fun v109 vd=>aL .i64 v109 fun i111=>Kr vd) (bL h x3 fun t112=>zC 110 [.pointer x0,.agg ⟨aT t112⟩] h fun WK Rb=>aL .i64 WK fun i115=>Kr Rb)) (cond x7 (zC 115 [.pointer x0,S []] h fun v116 Qp=>bL Qp x3 fun t118=>zC 110 [.pointer x0,.agg ⟨aT t118⟩] Qp fun WI Em=>aL .i64 WI fun i121=>Kr Em) (bL h x3 fun t122=>zC 110 [.pointer x0,.agg ⟨aT t122⟩] h fun ajT ajU=>aL .i64 ajT fun i125=>Kr ajU)))) (aB SM (fun K5=>aO (x4=[109,97,116,104]) (K5 x0 x3 x4 true h) (aO (x4=[115,118,103]) (K5 x0 x3 x4 true h) (K5 x0 x3 x4 false h))) fun x0 x3 x4 Wv h=>cond Wv (aB Xt (fun K4=>K4 x0 x3 x4 2 h) fun x0 x3 x4 x9 h=>aB L19 (fun K3=>aO (x4=[115,118,103]) (K3 x0 x3 1 h) (K3 x0 x3 x9 h)) fun x0 x3 x9 h=>ae x0 fun a131=>zP h (a131.add 0) fun NP=>zC 44 [.pointer NP] h fun v133 N1=>ae x0 fun Wf=>zP N1 (Wf.add 0) fun ajV=>bL N1 x3 fun t137=>zC 103 [.pointer ajV,.int .u8 x9,.agg ⟨aT t137⟩] N1 fun v138 WN=>aL .i64 v138 fun i140=>zB WN (x3.add 3) fun ajW=>cond ajW (zC 39 [.pointer x0] WN fun OX Ir=>Kr Ir) (Kr WN)) (ae x0 fun ajX=>zP h (ajX.add 0) fun Wg=>zC 44 [.pointer Wg] h fun v146 Ec=>bL Ec x3 fun t148=>zC 110 [.pointer x0,.agg ⟨aT t148⟩] Ec fun ajY ajZ=>aL .i64 ajY fun i151=>Kr ajZ))))))))))))) fun h=>K (.tuple ⟨[]⟩) h
theorem ok (q:asks x0 x1 K h):zC 118 [.pointer x0,.agg ⟨aT x1⟩] h K:=
 cl Tryz.func118 q (fun p q=>sq p q fun p q=>sq p q fun p q=>bl (b:=0) (sq p q fun p q=>cn (i:=20) p q (fun p q=>lf p q) fun p q=>sq p q fun p q=>cn (i:=37) p q (fun p q=>lf p q) fun p q=>sq p q fun p q=>cn (i:=43) p q (fun p q=>lf p q) fun p q=>sq p q fun p q=>cn (i:=64) p q (fun p q=>lf p q) fun p q=>sq p q fun p q=>cn (i:=75) p q (fun p q=>lf p q) fun p q=>sq p q fun p q=>cn (i:=87) p q (fun p q=>lf p q) fun p q=>sq p q fun p q=>cn (i:=94) p q (fun p q=>lf p q) fun p q=>sq p q fun p q=>cn (i:=102) p q (fun p q=>lf p q) fun p q=>sq p q fun p q=>cn (i:=114) p q (fun p q=>lf p q) fun p q=>sq p q fun p q=>cn (i:=127) p q (fun p q=>sq p q fun p q=>lf p q) fun p q=>sq p q fun p q=>cn (i:=148) p q (fun p q=>sq p q fun p q=>lf p q) fun p q=>sq p q fun p q=>cn (i:=179) p q (fun p q=>sq p q fun p q=>sq p q fun p q=>lf p q) fun p q=>lf p q)) fun p q=>rt p q
end Xfn
namespace SV
abbrev L2:List Sl:=[]
abbrev L3:=[Zp 0,Z6 1,Z6 5]
abbrev L0:=[Zb 4]
abbrev L1:=[Zp 0,Z6 1]
abbrev T2:=TK L2
abbrev T0:=TK L0
abbrev T3:=TK L3
variable (x0:OA) (x1:Int)
abbrev bS (Kn Ke0:T2) (Kr:T0):T3->T3:=fun K2 x0 x1 x5 h=>aO (x5 ≥ 0) (ae x0 fun a1=>zP h (a1.add 0) fun p2=>ae p2 fun a3=>zS h (a3.add 1) fun mB mC sB=>(0<=x5/\x5<(mC:Int))/\(ae mB fun a5=>ldO h (a5.add (Int.toNat x5*4)) fun WB WC WD WE=>aw h ⟨[.int .i64 0,.int .u8 0,S [],.int .u8 0]⟩ 77 fun a7 h8=>aZ a7 [.int .i64 WB,.int .u8 WC,S WD,.int .u8 WE] 0 h8 fun h9=>zI .i64 h9 (a7.add 0) fun i10=>aO (i10=x1) (Kr true h9) (ldO h9 a7 fun abr abt abu abv=>aw h9 #[.int .i64 0,.int .u8 0,S [98],.int .u8 0,.int .i64 abr,.int .u8 abt,S abu,.int .u8 abv] 77 fun a12 fi=>aw fi #[S [98]] 9 fun lS fZ=>zC 168 [.slice (some a12) 2 2,.int .u8 0,.slice (some lS) 1 1] fZ fun oT fF=>au oT fun b18=>cond b18 (bc .i64 (x5 - (1:Int))/\(K2 x0 x1 (x5 - (1:Int)) fF)) (Kr false fF)))) (Ke0 h)
abbrev cR (Kn Ke0:T2) (Kr:T0):Nat->T3:=LP L3 (bS Kn Ke0 Kr)
variable (K:KV) (h:H)
abbrev asks (x0:OA) (x1:Int) (K:KV) (h:H):Prop:=cF L0 (fun Kr=>aB L1 (fun K4=>K4 x0 x1 h) fun x0 x1 h=>aB L2 (fun K1=>aB L3 (fun K3=>ae x0 fun jK=>zP h (jK.add 0) fun p20=>ae p20 fun a21=>zS h (a21.add 1) fun me iI mf=>bc .i64 ((iI:Int) - 1)/\(K3 x0 x1 ((iI:Int) - 1) h)) fun x0 x1 x5 h=>il L3 (bS K1 K1 Kr) fun K2=>K2 x0 x1 x5 h) fun h=>Kr false h) fun y4 h=>K (.bool y4) h
theorem ok (q:asks x0 x1 K h):zC 119 [.pointer x0,.int .i64 x1] h K:=
 cl Tryz.func119 q (fun p q=>sq (l:=L1) p q fun p q=>sc (l:=L2) q (fun q=>sq (l:=L3) p q fun p q=>bl (b:=0) (lp p q fun p q=>lf p q)) fun p q=>lf p q) fun p q=>rt p q
end SV
namespace Xd6
abbrev L0:=[Zb 2]
variable (x0:List UInt8)
variable (K:KV) (h:H)
abbrev asks:Prop:=cF L0 (fun Kr=>aw h #[S [97],S [98],S [98,105,103],S [99,111,100,101],S [101,109],S [102,111,110,116],S [105],S [110,111,98,114],S [115],S [115,109,97,108,108],S [115,116,114,105,107,101],S [115,116,114,111,110,103],S [116,116],S [117]] 9 fun a1 h2=>zC 174 [.slice (some a1) 14 14,S x0] h2 fun v3 h4=>au v3 fun b5=>cond b5 (Kr true h4) (Kr false h4)) fun y2 h=>K (.bool y2) h
theorem ok (q:asks x0 K h):zC 121 [S x0] h K:=
 cl Tryz.func121 q (fun p q=>lf p q) fun p q=>rt p q
end Xd6
namespace Xfi
abbrev L0:List Sl:=[]
variable (x0:OA) (x1:List UInt8)
variable (K:KV) (h:H)
abbrev asks:Prop:=cF L0 (fun Kr=>ae x0 fun a1=>zP h (a1.add 0) fun p2=>zC 175 [.pointer p2,S x1] h fun v3 h4=>au v3 fun b5=>cond b5 (Kr h4) (ae x0 fun a6=>zP h4 (a6.add 0) fun p7=>zC 124 [.pointer p7,S x1] h4 fun v8 h9=>Kr h9)) fun h=>K (.tuple ⟨[]⟩) h
theorem ok (q:asks x0 x1 K h):zC 122 [.pointer x0,S x1] h K:=
 cl Tryz.func122 q (fun p q=>lf p q) fun p q=>rt p q
end Xfi
namespace Xef
abbrev L0:=[Zl 2]
variable (ao:OA) (aj aq:Nat)
variable (K:KV) (h:H)
abbrev asks:Prop:=cF L0 (fun Kr=>zC 176 [.slice ao aj aq] h fun v1 h2=>aL .i64 v1 fun i3=>aO (i3=(0:Int)) (Kr none 0 0 h2) (bc .i64 (i3 - (1:Int))/\((0<=(0:Int)/\0<=(i3 - (1:Int))/\(i3 - (1:Int))<=(aq:Int))/\(bf Tryz.prog (Builtin.append_ #[40,40] 40 ⟨[.slice none 0 0,(.slice (if aq=Int.toNat 0 then ao else Option.map (fun q=>q.add (Int.toNat (0:Int)*3)) ao) (Int.toNat (i3 - (1:Int)) - Int.toNat 0) (aq - Int.toNat 0))]⟩) h2 fun v4 h5=>aA v4 fun jH gn lj=>Kr jH gn lj h5)))) fun gq gr gu h=>K (.slice gq gr gu) h
theorem ok (q:asks ao aj aq K h):zC 123 [.slice ao aj aq] h K:=
 cl Tryz.func123 q (fun p q=>lf p q) fun p q=>rt p q
end Xef
namespace Xfr
abbrev L0:List Sl:=[]
variable (x0:OA) (x1:Tk) (x2:Int)
variable (K:KV) (h:H)
abbrev asks:Prop:=cF L0 (fun Kr=>aw h ⟨aT x1⟩ 45 fun a1 h2=>ae x0 fun a3=>zI .u8 h2 (a3.add 1) fun i4=>ae x0 fun a5=>aZ (a5.add 2) [.int .u8 i4] 0 h2 fun h6=>ae x0 fun a7=>aZ (a7.add 1) [.int .u8 1] 0 h6 fun h8=>ae x0 fun a9=>aZ (a9.add 5) [.int .u8 x2] 0 h8 fun cS=>zT cS (a1.add 1) fun vl=>ae x0 fun a12=>aZ (a12.add 6) [S vl] 0 cS fun fi=>Kr fi) fun h=>K (.tuple ⟨[]⟩) h
theorem ok (q:asks x0 x1 x2 K h):zC 166 [.pointer x0,.agg ⟨aT x1⟩,.int .u8 x2] h K:=
 cl Tryz.func166 q (fun p q=>lf p q) fun p q=>rt p q
end Xfr
namespace SJ
abbrev L2:List Sl:=[]
abbrev L3:=[Zl 0,Zl 1,Z6 5]
abbrev L0:=[Z6 4]
abbrev L1:=[Zl 0,Zl 1]
abbrev T2:=TK L2
abbrev T0:=TK L0
abbrev T3:=TK L3
variable (ao:OA) (aj aq:Nat) (cf:OA) (bU cu:Nat)
abbrev bS (Kn Ke0:T2) (Kr:T0):T3->T3:=fun K2 ao aj aq cf bU cu x5 h=>aO (x5 ≥ 0) ((0<=x5/\x5<(aj:Int))/\(ae ao fun a1=>zI .i64 h (((a1.add (Int.toNat x5*4))).add 0) fun i2=>zI .u8 h (((a1.add (Int.toNat x5*4))).add 1) fun i3=>zT h (((a1.add (Int.toNat x5*4))).add 2) fun s4=>zI .u8 h (((a1.add (Int.toNat x5*4))).add 3) fun i5=>zC 181 [(.agg ⟨[.int .i64 i2,.int .u8 i3,S s4,.int .u8 i5]⟩),.slice cf bU cu] h fun v6 h7=>au v6 fun b8=>cond b8 (Kr x5 h7) ((0<=x5/\x5<(aj:Int))/\(ae ao fun a9=>zI .u8 h7 ((a9.add (Int.toNat x5*4)).add 1) fun i10=>(0<=x5/\x5<(aj:Int))/\(ae ao fun lk=>zT h7 ((lk.add (Int.toNat x5*4)).add 2) fun j9=>zC 177 [.int .u8 i10,S j9] h7 fun np dA=>au np fun ND=>cond ND ((0<=x5/\x5<(aj:Int))/\(ae ao fun pM=>zI .i64 dA (((pM.add (Int.toNat x5*4))).add 0) fun i17=>zI .u8 dA (((pM.add (Int.toNat x5*4))).add 1) fun i18=>zT dA (((pM.add (Int.toNat x5*4))).add 2) fun QI=>zI .u8 dA (((pM.add (Int.toNat x5*4))).add 3) fun i20=>aw dA #[S [97,100,100,114,101,115,115],S [100,105,118],S [112]] 9 fun a21 lN=>bH dA lN/\(zC 181 [(.agg ⟨[.int .i64 i17,.int .u8 i18,S QI,.int .u8 i20]⟩),.slice (some a21) 3 3] lN fun v23 lX=>au v23 fun b25=>cond b25 (bc .i64 (x5 - (1:Int))/\(K2 ao aj aq cf bU cu (x5 - (1:Int)) lX)) (Kr (-1) lX)))) (bc .i64 (x5 - (1:Int))/\(K2 ao aj aq cf bU cu (x5 - (1:Int)) dA))))))) (Ke0 h)
abbrev cR (Kn Ke0:T2) (Kr:T0):Nat->T3:=LP L3 (bS Kn Ke0 Kr)
variable (K:KV) (h:H)
abbrev asks (ao:OA) (aj aq:Nat) (cf:OA) (bU cu:Nat) (K:KV) (h:H):Prop:=cF L0 (fun Kr=>aB L1 (fun K4=>K4 ao aj aq cf bU cu h) fun ao aj aq cf bU cu h=>aB L2 (fun K1=>aB L3 (fun K3=>bc .i64 ((aj:Int) - 1)/\(K3 ao aj aq cf bU cu ((aj:Int) - 1) h)) fun ao aj aq cf bU cu x5 h=>il L3 (bS K1 K1 Kr) fun K2=>K2 ao aj aq cf bU cu x5 h) fun h=>Kr (-1) h) fun y4 h=>K (.int .i64 y4) h
theorem ok (q:asks ao aj aq cf bU cu K h):zC 167 [.slice ao aj aq,.slice cf bU cu] h K:=
 cl Tryz.func167 q (fun p q=>sq (l:=L1) p q fun p q=>sc (l:=L2) q (fun q=>sq (l:=L3) p q fun p q=>bl (b:=0) (lp p q fun p q=>lf p q)) fun p q=>lf p q) fun p q=>rt p q
end SJ
namespace Xfj
abbrev L0:List Sl:=[]
variable (x0:OA) (x1:Tk)
variable (K:KV) (h:H)
abbrev asks:Prop:=cF L0 (fun Kr=>aw h ⟨aT x1⟩ 45 fun a1 h2=>ae x0 fun a3=>zP h2 (a3.add 0) fun p4=>zC 44 [.pointer p4] h2 fun v5 h6=>bL h6 a1 fun t7=>zC 110 [.pointer x0,.agg ⟨aT t7⟩] h6 fun v8 h9=>aL .i64 v8 fun i10=>bL h9 a1 fun t11=>zC 206 [.pointer x0,.int .i64 i10,.agg ⟨aT t11⟩] h9 fun v12 fi=>Kr fi) fun h=>K (.tuple ⟨[]⟩) h
theorem ok (q:asks x0 x1 K h):zC 172 [.pointer x0,.agg ⟨aT x1⟩] h K:=
 cl Tryz.func172 q (fun p q=>lf p q) fun p q=>rt p q
end Xfj
namespace Xe8
abbrev L0:List Sl:=[]
variable (x0:OA)
variable (K:KV) (h:H)
abbrev asks:Prop:=cF L0 (fun Kr=>ae x0 fun a1=>zP h (a1.add 0) fun p2=>ae x0 fun a3=>zP h (a3.add 0) fun p4=>ae p4 fun a5=>zS h (a5.add 2) fun jH gn lj=>zC 207 [.slice jH gn lj,(.agg ⟨[.int .i64 (-1),S [],.slice none 0 0]⟩)] h fun v7 h8=>aA v7 fun wa uX yV=>bH h h8/\(ae p2 fun jJ=>aZ (jJ.add 2) [.slice wa uX yV] 0 h8 fun eF=>Kr eF)) fun h=>K (.tuple ⟨[]⟩) h
theorem ok (q:asks x0 K h):zC 173 [.pointer x0] h K:=
 cl Tryz.func173 q (fun p q=>lf p q) fun p q=>rt p q
end Xe8
namespace Xfm
abbrev L0:List Sl:=[]
variable (x0:OA) (x1:Int) (x2:Tk)
variable (K:KV) (h:H)
abbrev asks:Prop:=cF L0 (fun Kr=>aw h ⟨aT x2⟩ 45 fun a1 h2=>ae x0 fun a3=>zP h2 (a3.add 0) fun p4=>ae x0 fun a5=>zP h2 (a5.add 0) fun p6=>ae p6 fun a7=>zS h2 (a7.add 2) fun ri qF ui=>zT h2 (a1.add 1) fun s9=>zS h2 (a1.add 2) fun jS jl mW=>zC 207 [.slice ri qF ui,(.agg ⟨[.int .i64 x1,S s9,.slice jS jl mW]⟩)] h2 fun v11 eM=>aA v11 fun jT jD lD=>bH h2 eM/\(ae p4 fun lS=>aZ (lS.add 2) [.slice jT jD lD] 0 eM fun fZ=>Kr fZ)) fun h=>K (.tuple ⟨[]⟩) h
theorem ok (q:asks x0 x1 x2 K h):zC 206 [.pointer x0,.int .i64 x1,.agg ⟨aT x2⟩] h K:=
 cl Tryz.func206 q (fun p q=>lf p q) fun p q=>rt p q
end Xfm
end Go.Proofs
