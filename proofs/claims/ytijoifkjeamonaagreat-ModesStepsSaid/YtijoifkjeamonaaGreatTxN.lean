/- Own text. No condition. -/
import Derived.Test.YtijoifkjeamonaaGreatHc
import Derived.Test.YtijoifkjeamonaaGreatShR
import Derived.Test.YtijoifkjeamonaaGreatProg
namespace Go.Proofs
open Go Go.Sh
set_option linter.unusedVariables false
set_option maxRecDepth 100000
namespace Xfq
abbrev L0:=[Zp 0]
variable (K:KV) (h:H)
abbrev asks:Prop:=cF L0 (fun Kr=>zC 34 [] h fun v1 h2=>kt v1 fun p3=>aw h2 ⟨[.pointer p3,.int .u8 0,.int .u8 0,.int .i64 (-1),.bool false,.int .u8 0,S [],S []]⟩ 52 fun a4 h5=>Kr (some a4) h5) fun y0 h=>K (.pointer y0) h
theorem ok (q:asks K h):zC 15 [] h K:=
 cl Tryz.func15 q (fun p q=>lf p q) fun p q=>rt p q
end Xfq
namespace X4
abbrev L0:=[Za 4,Zb 5]
abbrev L5:=[Za 3,Za 4]
abbrev L6:=[Za 3,Za 4,Zb 30]
abbrev L4:=[Za 3,Za 4,Zb 6]
abbrev L3:=[Zp 0,Za 3,Za 4,Zb 6]
abbrev L2:=[Zp 0,Za 3,Za 4]
abbrev T0:=TK L0
variable (x0:OA) (x1:Tk) (x3 x4:Addr) (x6:Bool)
abbrev n5 (Kn Kr:T0) (h:H):Prop:=
 bJ h x3 fun t1=>bc x4 [.int .u8 t1.k,S t1.n,.slice t1.b t1.l t1.c,.bool t1.z,S t1.t] 0 h fun h2=>Kr x4 true h2
abbrev n4 (x3 x4:Addr) (x6:Bool) (Kn Kr:T0) (h:H):Prop:=
 aA L5 (fun K1=>aA L6 (fun K2=>cond x6 (zI .u8 h (x3.add 0) fun i15=>aM (i15=(1:Int)) (zT h (x3.add 4) fun MC=>aM (MC=[]) (K2 x3 x4 false h) (zT h (x3.add 4) fun OB=>(0<=(0:Int)/\0<(OB.length:Int))/\(aM (((List.getD OB (Int.toNat 0) 0).toNat:Int)=10) (K2 x3 x4 true h) (K2 x3 x4 false h)))) (K2 x3 x4 false h)) (K2 x3 x4 false h)) fun x3 x4 JR h=>cond JR (zT h (x3.add 4) fun s3=>(0<=(1:Int)/\1<=(s3.length:Int)/\(s3.length:Int)<=(s3.length:Int))/\(bc (x3.add 4) [(S (sub s3 1 (s3.length:Int)))] 0 h fun h4=>(bJ h4 x3 fun t5=>bc x4 [.int .u8 t5.k,S t5.n,.slice t5.b t5.l t5.c,.bool t5.z,S t5.t] 0 h4 fun h6=>zT h6 (x3.add 4) fun s7=>aM (s7=[]) (Kr x4 false h6) (Kr x4 true h6))/\((bJ h4 x3 fun t8=>zT h4 (x3.add 4) fun s9=>bc x4 [.int .u8 t8.k,S t8.n,.slice t8.b t8.l t8.c,.bool t8.z,S t8.t] 0 h4 fun df=>aM (s9=[]) (Kr x4 false df) (Kr x4 true df))/\(bJ h4 x3 fun t11=>zT h4 (x3.add 4) fun jU=>aM (jU=[]) (bc x4 [.int .u8 t11.k,S t11.n,.slice t11.b t11.l t11.c,.bool t11.z,S t11.t] 0 h4 fun fI=>Kr x4 false fI) (bc x4 [.int .u8 t11.k,S t11.n,.slice t11.b t11.l t11.c,.bool t11.z,S t11.t] 0 h4 fun dx=>Kr x4 true dx))))) (K1 x3 x4 h)) fun x3 x4 h=>n5 x3 x4 Kn Kr h
variable (K:KV) (h:H)
abbrev asks (x0:OA) (x1:Tk) (K:KV) (h:H):Prop:=cF L0 (fun Kr=>aA L2 (fun K5=>aw h ⟨aT x1⟩ 45 fun a22 qu=>aw qu ⟨[.int .u8 0,S [],.slice none 0 0,.bool false,S []]⟩ 45 fun a24 iF=>K5 x0 a22 a24 iF) fun x0 x3 x4 h=>aA L3 (fun K4=>ae x0 fun a20=>zB h (a20.add 4) fun b21=>cond b21 (K4 x0 x3 x4 true h) (K4 x0 x3 x4 false h)) fun x0 x3 x4 x6 h=>aA L4 (fun K3=>ae x0 fun sJ=>bc (sJ.add 4) [.bool false] 0 h fun qs=>K3 x3 x4 x6 qs) fun x3 x4 x6 h=>n4 x3 x4 x6 Kr Kr h) fun y4 y5 h=>bJ h y4 fun t26=>K (.tuple ⟨[.agg ⟨aT t26⟩,.bool y5]⟩) h
theorem ok (q:asks x0 x1 K h):zC 17 [.pointer x0,.agg ⟨aT x1⟩] h K:=
 cl Tryz.func17 q (fun p q=>sq (l:=L2) p q fun p q=>sq (l:=L3) p q fun p q=>sq (l:=L4) p q fun p q=>sc (l:=L5) q (fun q=>sq (l:=L6) p q fun p q=>lf p q) fun p q=>lf p q) fun p q=>rt p q
end X4
namespace Xfa
abbrev L0:List Sl:=[]
variable (x0:OA) (x1:Tk)
variable (K:KV) (h:H)
abbrev asks:Prop:=cF L0 (fun Kr=>aw h ⟨aT x1⟩ 45 fun a1 h2=>zI .u8 h2 (a1.add 0) fun i3=>aM (i3=(1:Int)) (ae x0 fun a4=>zP h2 (a4.add 0) fun p5=>zT h2 (a1.add 4) fun s6=>zC 38 [.pointer p5,S s6] h2 fun v7 h8=>Kr h8) (zC 39 [.pointer x0] h2 fun v9 df=>ae x0 fun jC=>zI .u8 df (jC.add 2) fun i12=>ae x0 fun oE=>bc (oE.add 1) [.int .u8 i12] 0 df fun dx=>ae x0 fun oF=>bc (oF.add 5) [.int .u8 0] 0 dx fun gZ=>ae x0 fun nE=>bc (nE.add 6) [S []] 0 gZ fun gI=>Kr gI)) fun h=>K (.tuple ⟨[]⟩) h
theorem ok (q:asks x0 x1 K h):zC 20 [.pointer x0,.agg ⟨aT x1⟩] h K:=
 cl Tryz.func20 q (fun p q=>lf p q) fun p q=>rt p q
end Xfa
namespace Xe2
abbrev L5:=[Zp 0,Za 3,Z8 5,Zb 20]
abbrev L4:=[Zp 0,Za 3,Z8 5,Zb 6]
abbrev L3:=[Zp 0,Za 3,Z8 5]
abbrev L2:=[Zp 0,Za 3]
abbrev L0:List Sl:=[]
variable (x0:OA) (x1:Tk)
variable (K:KV) (h:H)
abbrev asks (x0:OA) (x1:Tk) (K:KV) (h:H):Prop:=cF L0 (fun Kr=>aA L2 (fun K4=>aw h ⟨aT x1⟩ 45 fun a22 qu=>K4 x0 a22 qu) fun x0 x3 h=>aA L3 (fun K3=>zI .u8 h (x3.add 0) fun i21=>K3 x0 x3 i21 h) fun x0 x3 x5 h=>aA L4 (fun K2=>aM (x5=(1:Int)) (K2 x0 x3 x5 true h) (K2 x0 x3 x5 false h)) fun x0 x3 x5 x6 h=>cond x6 (ae x0 fun a1=>zP h (a1.add 0) fun p2=>zC 44 [.pointer p2] h fun v3 h4=>ae x0 fun a5=>zP h4 (a5.add 0) fun p6=>zT h4 (x3.add 4) fun s7=>zC 38 [.pointer p6,S s7] h4 fun v8 h9=>Kr h9) (aA L5 (fun K1=>aM (x5=(4:Int)) (K1 x0 x3 x5 true h) (K1 x0 x3 x5 false h)) fun x0 x3 x5 yr h=>cond yr (ae x0 fun jB=>zP h (jB.add 0) fun Fq=>zT h (x3.add 4) fun jU=>zC 45 [.pointer Fq,S jU] h fun mu dx=>Kr dx) (aM (x5=(2:Int)) (bJ h x3 fun t15=>zC 46 [.pointer x0,.agg ⟨aT t15⟩] h fun oD fh=>Kr fh) (aM (x5=(3:Int)) (bJ h x3 fun t18=>zC 47 [.pointer x0,.agg ⟨aT t18⟩] h fun xv gm=>Kr gm) (Kr h))))) fun h=>K (.tuple ⟨[]⟩) h
theorem ok (q:asks x0 x1 K h):zC 22 [.pointer x0,.agg ⟨aT x1⟩] h K:=
 cl Tryz.func22 q (fun p q=>sq p q fun p q=>sq p q fun p q=>bl (b:=0) (sq p q fun p q=>cn (i:=6) p q (fun p q=>lf p q) fun p q=>sq p q fun p q=>lf p q)) fun p q=>rt p q
end Xe2
namespace Xfb
abbrev L0:=[Zl 2]
variable (x0:OA)
variable (K:KV) (h:H)
abbrev asks:Prop:=cF L0 (fun Kr=>ae x0 fun a1=>zP h (a1.add 0) fun p2=>ae p2 fun a3=>zP h (a3.add 0) fun p4=>zC 50 [.pointer p4,.int .i64 0] h fun v5 h6=>aB v5 fun yU Ab yt=>Kr yU Ab yt h6) fun qj qk ql h=>K (.slice qj qk ql) h
theorem ok (q:asks x0 K h):zC 26 [.pointer x0] h K:=
 cl Tryz.func26 q (fun p q=>lf p q) fun p q=>rt p q
end Xfb
namespace Xe8
abbrev L0:List Sl:=[]
variable (x0:OA)
variable (K:KV) (h:H)
abbrev asks:Prop:=cF L0 (fun Kr=>ae x0 fun a1=>zP h (a1.add 0) fun p2=>ae x0 fun a3=>zP h (a3.add 0) fun p4=>ae p4 fun a5=>zS h (a5.add 1) fun lO gV mM=>bd .i64 ((gV:Int) - 1)/\(zC 61 [.pointer p2,.int .i64 ((gV:Int) - 1)] h fun v7 h8=>Kr h8)) fun h=>K (.tuple ⟨[]⟩) h
theorem ok (q:asks x0 K h):zC 39 [.pointer x0] h K:=
 cl Tryz.func39 q (fun p q=>lf p q) fun p q=>rt p q
end Xe8
namespace Xfo
abbrev SY:=[Zp 0,Za 3,Zb 6]
abbrev H5:=[Zp 0,Za 3,Zs 4,Zb 126]
abbrev H6:=[Zp 0,Za 3,Zs 4,Zb 115]
abbrev JQ:=[Zp 0,Za 3,Zs 4,Zb 104]
abbrev Ao:=[Zp 0,Za 3,Zs 4,Zb 97]
abbrev Ch:=[Zp 0,Za 3,Zs 4,Zb 81]
abbrev Er:=[Zp 0,Za 3,Zs 4,Zb 66]
abbrev yx:=[Zp 0,Za 3,Zs 4,Zb 51]
abbrev L9:=[Zp 0,Za 3,Zs 4,Zb 42]
abbrev L8:=[Zp 0,Za 3,Zs 4,Zb 36]
abbrev L7:=[Zp 0,Za 3,Zs 4,Zb 29]
abbrev L6:=[Zp 0,Za 3,Zs 4,Zb 23]
abbrev L5:=[Zp 0,Za 3,Zs 4,Zb 16]
abbrev L4:=[Zp 0,Za 3,Zs 4,Zb 12]
abbrev L3:=[Zp 0,Za 3,Zs 4]
abbrev L2:=[Zp 0,Za 3]
abbrev L0:List Sl:=[]
variable (x0:OA) (x1:Tk)
variable (K:KV) (h:H)
abbrev asks (x0:OA) (x1:Tk) (K:KV) (h:H):Prop:=cF L0 (fun Kr=>aA L2 (fun OD=>aw h ⟨aT x1⟩ 45 fun NY Ob=>OD x0 NY Ob) fun x0 x3 h=>aA L3 (fun Cf=>zT h (x3.add 1) fun ajy=>Cf x0 x3 ajy h) fun x0 x3 x4 h=>aA L4 (fun yw=>aw h (sW [[104,116,109,108],[98,111,100,121],[104,101,97,100],[102,114,97,109,101],[102,114,97,109,101,115,101,116],[99,97,112,116,105,111,110],[99,111,108],[99,111,108,103,114,111,117,112],[116,98,111,100,121],[116,100],[116,102,111,111,116],[116,104],[116,104,101,97,100],[116,114]]) 9 fun a127 Tn=>zC 106 [.slice (some a127) 14 14,S x4] Tn fun To Kw=>au To fun Tp=>cond Tp (yw x0 x3 x4 true Kw) (yw x0 x3 x4 false Kw)) fun x0 x3 x4 gX h=>cond gX (Kr h) (aA L5 (fun xS=>aw h (sW [[98,97,115,101],[98,97,115,101,102,111,110,116],[98,103,115,111,117,110,100],[108,105,110,107],[109,101,116,97],[112,97,114,97,109],[115,111,117,114,99,101],[116,114,97,99,107]]) 9 fun ajz JA=>zC 106 [.slice (some ajz) 8 8,S x4] JA fun v124 abN=>au v124 fun ajA=>cond ajA (xS x0 x3 x4 true abN) (xS x0 x3 x4 false abN)) fun x0 x3 x4 Rk h=>cond Rk (bJ h x3 fun t1=>zC 107 [.pointer x0,.agg ⟨aT t1⟩] h fun v2 h3=>Kr h3) (aA L6 (fun zb=>aM (x4=[116,105,116,108,101]) (zb x0 x3 x4 true h) (zb x0 x3 x4 false h)) fun x0 x3 x4 x23 h=>cond x23 (bJ h x3 fun t4=>zC 108 [.pointer x0,.agg ⟨aT t4⟩,.int .u8 1] h fun v5 h6=>Kr h6) (aA L7 (fun re=>aw h (sW [[110,111,102,114,97,109,101,115],[115,116,121,108,101],[105,102,114,97,109,101],[110,111,101,109,98,101,100]]) 9 fun a117 WV=>zC 106 [.slice (some a117) 4 4,S x4] WV fun WW Ep=>au WW fun ajB=>cond ajB (re x0 x3 x4 true Ep) (re x0 x3 x4 false Ep)) fun x0 x3 x4 zZ h=>cond zZ (bJ h x3 fun t7=>zC 108 [.pointer x0,.agg ⟨aT t7⟩,.int .u8 2] h fun v8 h9=>Kr h9) (aA L8 (fun lV=>aM (x4=[115,99,114,105,112,116]) (lV x0 x3 x4 true h) (lV x0 x3 x4 false h)) fun x0 x3 x4 x36 h=>cond x36 (bJ h x3 fun t10=>zC 108 [.pointer x0,.agg ⟨aT t10⟩,.int .u8 3] h fun v11 eL=>Kr eL) (aA L9 (fun K9=>aw h (sW [[97,100,100,114,101,115,115],[97,114,116,105,99,108,101],[97,115,105,100,101],[98,108,111,99,107,113,117,111,116,101],[99,101,110,116,101,114],[100,101,116,97,105,108,115],[100,105,97,108,111,103],[100,105,114],[100,105,118],[100,108],[102,105,101,108,100,115,101,116],[102,105,103,99,97,112,116,105,111,110],[102,105,103,117,114,101],[102,111,111,116,101,114],[104,101,97,100,101,114],[104,103,114,111,117,112],[109,97,105,110],[109,101,110,117],[110,97,118],[111,108],[112],[115,101,97,114,99,104],[115,101,99,116,105,111,110],[115,117,109,109,97,114,121],[117,108]]) 9 fun WX WY=>zC 106 [.slice (some WX) 25 25,S x4] WY fun ajC abO=>au ajC fun ajD=>cond ajD (K9 x0 x3 x4 true abO) (K9 x0 x3 x4 false abO)) fun x0 x3 x4 EE h=>cond EE (zC 109 [.pointer x0] h fun mu dx=>bJ dx x3 fun t15=>zC 110 [.pointer x0,.agg ⟨aT t15⟩] dx fun oD fh=>aL .i64 oD fun i18=>Kr fh) (aA yx (fun K8=>zC 111 [] h fun Il Cw=>aB Il fun wA wB wC=>zC 106 [.slice wA wB wC,S x4] Cw fun v109 u9=>au v109 fun Kx=>cond Kx (K8 x0 x3 x4 true u9) (K8 x0 x3 x4 false u9)) fun x0 x3 x4 x51 h=>cond x51 (zC 109 [.pointer x0] h fun xv gm=>zC 111 [] gm fun v21 mB=>aB v21 fun vu sR vz=>zC 112 [.pointer x0,.slice vu sR vz] mB fun v24 iF=>au v24 fun UT=>cond UT (zC 39 [.pointer x0] iF fun zY lY=>bJ lY x3 fun t29=>zC 110 [.pointer x0,.agg ⟨aT t29⟩] lY fun v30 yh=>aL .i64 v30 fun i32=>Kr yh) (bJ iF x3 fun t33=>zC 110 [.pointer x0,.agg ⟨aT t33⟩] iF fun zw qi=>aL .i64 zw fun i36=>Kr qi)) (aA Er (fun K7=>aM (x4=[112,114,101]) (K7 x0 x3 x4 true h) (aM (x4=[108,105,115,116,105,110,103]) (K7 x0 x3 x4 true h) (K7 x0 x3 x4 false h))) fun x0 x3 x4 x66 h=>cond x66 (zC 109 [.pointer x0] h fun v37 Cd=>bJ Cd x3 fun t39=>zC 110 [.pointer x0,.agg ⟨aT t39⟩] Cd fun v40 yH=>aL .i64 v40 fun i42=>ae x0 fun JT=>bc (JT.add 4) [.bool true] 0 yH fun yf=>Kr yf) (aA Ch (fun K6=>aM (x4=[102,111,114,109]) (K6 x0 x3 x4 true h) (K6 x0 x3 x4 false h)) fun x0 x3 x4 x81 h=>cond x81 (ae x0 fun a45=>zI .i64 h (a45.add 3) fun i46=>aM (i46<(0:Int)) (zC 109 [.pointer x0] h fun UR DT=>bJ DT x3 fun t49=>zC 110 [.pointer x0,.agg ⟨aT t49⟩] DT fun QP BV=>aL .i64 QP fun i52=>ae x0 fun a53=>bc (a53.add 3) [.int .i64 i52] 0 BV fun JU=>Kr JU) (Kr h)) (aA Ao (fun K5=>aM (x4=[108,105]) (K5 x0 x3 x4 true h) (K5 x0 x3 x4 false h)) fun x0 x3 x4 x97 h=>cond x97 (bJ h x3 fun t55=>aw h #[S [108,105]] 9 fun a56 h57=>zC 113 [.pointer x0,.agg ⟨aT t55⟩,.slice (some a56) 1 1] h57 fun v58 h59=>Kr h59) (aA JQ (fun K4=>aM (x4=[100,100]) (K4 x0 x3 x4 true h) (aM (x4=[100,116]) (K4 x0 x3 x4 true h) (K4 x0 x3 x4 false h))) fun x0 x3 x4 ajE h=>cond ajE (bJ h x3 fun t60=>aw h (sW [[100,100],[100,116]]) 9 fun Ql U6=>zC 113 [.pointer x0,.agg ⟨aT t60⟩,.slice (some Ql) 2 2] U6 fun v63 h64=>Kr h64) (aA H6 (fun K3=>aM (x4=[112,108,97,105,110,116,101,120,116]) (K3 x0 x3 x4 true h) (K3 x0 x3 x4 false h)) fun x0 x3 x4 WH h=>cond WH (zC 109 [.pointer x0] h fun RP WZ=>bJ WZ x3 fun t67=>zC 110 [.pointer x0,.agg ⟨aT t67⟩] WZ fun v68 Wi=>aL .i64 v68 fun i70=>ae x0 fun a71=>bc (a71.add 5) [.int .u8 4] 0 Wi fun h72=>Kr h72) (aA H5 (fun K2=>aM (x4=[98,117,116,116,111,110]) (K2 x0 x3 x4 true h) (K2 x0 x3 x4 false h)) fun x0 x3 x4 Oa h=>cond Oa (aA SY (fun K1=>aw h #[S [98,117,116,116,111,110]] 9 fun Vo h96=>zC 114 [.pointer x0,.int .u8 0,.slice (some Vo) 1 1] h96 fun v97 HS=>au v97 fun b99=>cond b99 (K1 x0 x3 true HS) (K1 x0 x3 false HS)) fun x0 x3 x6 h=>cond x6 (zC 115 [.pointer x0,S []] h fun Xr SR=>aw SR #[S [98,117,116,116,111,110]] 9 fun a75 h76=>zC 116 [.pointer x0,.slice (some a75) 1 1] h76 fun Yl JH=>ae x0 fun X0=>zP JH (X0.add 0) fun p80=>zC 44 [.pointer p80] JH fun v81 SZ=>bJ SZ x3 fun t83=>zC 110 [.pointer x0,.agg ⟨aT t83⟩] SZ fun v84 S0=>aL .i64 v84 fun i86=>Kr S0) (ae x0 fun a87=>zP h (a87.add 0) fun p88=>zC 44 [.pointer p88] h fun v89 OV=>bJ OV x3 fun t91=>zC 110 [.pointer x0,.agg ⟨aT t91⟩] OV fun Yq Ik=>aL .i64 Yq fun i94=>Kr Ik)) (aM (x4=[97]) (bJ h x3 fun t100=>zC 117 [.pointer x0,.agg ⟨aT t100⟩] h fun v101 ajH=>Kr ajH) (bJ h x3 fun t103=>zC 118 [.pointer x0,.agg ⟨aT t103⟩] h fun abP Rn=>Kr Rn))))))))))))))) fun h=>K (.tuple ⟨[]⟩) h
theorem ok (q:asks x0 x1 K h):zC 46 [.pointer x0,.agg ⟨aT x1⟩] h K:=
 cl Tryz.func46 q (fun p q=>sq p q fun p q=>sq p q fun p q=>bl (b:=0) (sq p q fun p q=>cn (i:=12) p q (fun p q=>lf p q) fun p q=>sq p q fun p q=>cn (i:=16) p q (fun p q=>lf p q) fun p q=>sq p q fun p q=>cn (i:=23) p q (fun p q=>lf p q) fun p q=>sq p q fun p q=>cn (i:=29) p q (fun p q=>lf p q) fun p q=>sq p q fun p q=>cn (i:=36) p q (fun p q=>lf p q) fun p q=>sq p q fun p q=>cn (i:=42) p q (fun p q=>lf p q) fun p q=>sq p q fun p q=>cn (i:=51) p q (fun p q=>lf p q) fun p q=>sq p q fun p q=>cn (i:=66) p q (fun p q=>lf p q) fun p q=>sq p q fun p q=>cn (i:=81) p q (fun p q=>lf p q) fun p q=>sq p q fun p q=>cn (i:=97) p q (fun p q=>lf p q) fun p q=>sq p q fun p q=>cn (i:=104) p q (fun p q=>lf p q) fun p q=>sq p q fun p q=>cn (i:=115) p q (fun p q=>lf p q) fun p q=>sq p q fun p q=>cn (i:=126) p q (fun p q=>sq p q fun p q=>lf p q) fun p q=>lf p q)) fun p q=>rt p q
end Xfo
namespace Xff
abbrev L9:=[Zp 0,Z6 6,Zb 7]
abbrev L8:=[Zp 0,Z6 6]
abbrev H5:=[Zp 0,Zs 4,Zb 12]
abbrev H6:=[Zp 0,Zs 4,Zb 132]
abbrev JQ:=[Zp 0,Zs 4,Zb 126]
abbrev Ao:=[Zp 0,Zs 4,Zb 113]
abbrev Ch:=[Zp 0,Zs 4,Zb 94]
abbrev Er:=[Zp 0,Zs 4,Zb 82]
abbrev yx:=[Zp 0,Zs 4,Zb 69]
abbrev L6:=[Zp 0,Zs 4,Zb 43]
abbrev L5:=[Zp 0,Zs 4,Zb 28]
abbrev L4:=[Zp 0,Zs 4,Zb 21]
abbrev L3:=[Zp 0,Zs 4]
abbrev L2:=[Zp 0,Za 3]
abbrev L0:List Sl:=[]
variable (x0:OA) (x1:Tk)
variable (K:KV) (h:H)
abbrev asks (x0:OA) (x1:Tk) (K:KV) (h:H):Prop:=cF L0 (fun Kr=>aA L2 (fun Cf=>aw h ⟨aT x1⟩ 45 fun a117 WV=>Cf x0 a117 WV) fun x0 x3 h=>aA L3 (fun yw=>zT h (x3.add 1) fun ajI=>yw x0 ajI h) fun x0 x4 h=>aA L4 (fun xS=>aM (x4=[98,111,100,121]) (xS x0 x4 true h) (aM (x4=[104,116,109,108]) (xS x0 x4 true h) (xS x0 x4 false h))) fun x0 x4 x21 h=>cond x21 (Kr h) (aA L5 (fun zb=>aw h (sW [[97,100,100,114,101,115,115],[97,114,116,105,99,108,101],[97,115,105,100,101],[98,108,111,99,107,113,117,111,116,101],[98,117,116,116,111,110],[99,101,110,116,101,114],[100,101,116,97,105,108,115],[100,105,97,108,111,103],[100,105,114],[100,105,118],[100,108],[102,105,101,108,100,115,101,116],[102,105,103,99,97,112,116,105,111,110],[102,105,103,117,114,101],[102,111,111,116,101,114],[104,101,97,100,101,114],[104,103,114,111,117,112],[108,105,115,116,105,110,103],[109,97,105,110],[109,101,110,117],[110,97,118],[111,108],[112,114,101],[115,101,97,114,99,104],[115,101,99,116,105,111,110],[115,117,109,109,97,114,121],[117,108]]) 9 fun ajJ Wq=>zC 106 [.slice (some ajJ) 27 27,S x4] Wq fun W0 Ro=>au W0 fun ajK=>cond ajK (zb x0 x4 true Ro) (zb x0 x4 false Ro)) fun x0 x4 HZ h=>cond HZ (aw h #[S x4] 9 fun a1 h2=>zC 114 [.pointer x0,.int .u8 0,.slice (some a1) 1 1] h2 fun v3 h4=>au v3 fun b5=>cond b5 (zC 115 [.pointer x0,S []] h4 fun v6 h7=>aw h7 #[S x4] 9 fun a8 h9=>zC 116 [.pointer x0,.slice (some a8) 1 1] h9 fun v10 eG=>Kr eG) (Kr h4)) (aA L6 (fun re=>aM (x4=[102,111,114,109]) (re x0 x4 true h) (re x0 x4 false h)) fun x0 x4 x43 h=>cond x43 (aA L8 (fun K3=>ae x0 fun a23=>zI .i64 h (a23.add 3) fun i24=>K3 x0 i24 h) fun x0 x6 h=>aA L8 (fun K2=>ae x0 fun a21=>bc (a21.add 3) [.int .i64 (-1)] 0 h fun mB=>K2 x0 x6 mB) fun x0 x6 h=>aA L9 (fun K1=>aM (x6 ≥ 0) (zC 119 [.pointer x0,.int .i64 x6] h fun HP qs=>au HP fun Wg=>cond Wg (K1 x0 x6 true qs) (K1 x0 x6 false qs)) (K1 x0 x6 false h)) fun x0 x6 x7 h=>cond x7 (zC 115 [.pointer x0,S []] h fun v12 fI=>ae x0 fun lE=>zP fI (lE.add 0) fun p15=>zC 120 [.pointer p15,.int .i64 x6] fI fun oD fh=>Kr fh) (Kr h)) (aA yx (fun lV=>aM (x4=[112]) (lV x0 x4 true h) (lV x0 x4 false h)) fun x0 x4 x69 h=>cond x69 (aw h #[S [112]] 9 fun a25 od=>zC 114 [.pointer x0,.int .u8 2,.slice (some a25) 1 1] od fun zY lY=>au zY fun Jc=>cond Jc (zC 109 [.pointer x0] lY fun v30 yh=>Kr yh) (zC 110 [.pointer x0,(.agg ⟨[.int .u8 0,S [112],.slice none 0 0,.bool false,S []]⟩)] lY fun B0 lW=>aL .i64 B0 fun i34=>zC 109 [.pointer x0] lW fun Kj uq=>Kr uq)) (aA Er (fun K9=>aM (x4=[108,105]) (K9 x0 x4 true h) (K9 x0 x4 false h)) fun x0 x4 x82 h=>cond x82 (aw h #[S [108,105]] 9 fun a37 Cd=>zC 114 [.pointer x0,.int .u8 1,.slice (some a37) 1 1] Cd fun Qk DW=>au Qk fun Z2=>cond Z2 (zC 115 [.pointer x0,S [108,105]] DW fun Su MA=>aw MA #[S [108,105]] 9 fun a44 uO=>zC 116 [.pointer x0,.slice (some a44) 1 1] uO fun v46 EW=>Kr EW) (Kr DW)) (aA Ch (fun K8=>aM (x4=[100,100]) (K8 x0 x4 true h) (aM (x4=[100,116]) (K8 x0 x4 true h) (K8 x0 x4 false h))) fun x0 x4 x94 h=>cond x94 (aw h #[S x4] 9 fun Nr QO=>zC 114 [.pointer x0,.int .u8 0,.slice (some Nr) 1 1] QO fun QP BV=>au QP fun b52=>cond b52 (zC 115 [.pointer x0,S x4] BV fun v53 JU=>aw JU #[S x4] 9 fun Ox h56=>zC 116 [.pointer x0,.slice (some Ox) 1 1] h56 fun v57 h58=>Kr h58) (Kr BV)) (aA Ao (fun K7=>zC 111 [] h fun v105 ajN=>aB v105 fun abQ abR abS=>zC 106 [.slice abQ abR abS,S x4] ajN fun ajO yX=>au ajO fun ajP=>cond ajP (K7 x0 x4 true yX) (K7 x0 x4 false yX)) fun x0 x4 ajQ h=>cond ajQ (zC 111 [] h fun v59 Eu=>aB v59 fun Ns Nt Nu=>zC 114 [.pointer x0,.int .u8 0,.slice Ns Nt Nu] Eu fun Xn jZ=>au Xn fun b64=>cond b64 (zC 115 [.pointer x0,S []] jZ fun RP WZ=>zC 111 [] WZ fun v67 h68=>aB v67 fun ajR ajS ajT=>zC 116 [.pointer x0,.slice ajR ajS ajT] h68 fun v70 XS=>Kr XS) (Kr jZ)) (aA JQ (fun K6=>zC 121 [S x4] h fun Nv vC=>au Nv fun ajU=>cond ajU (K6 x0 x4 true vC) (K6 x0 x4 false vC)) fun x0 x4 Oa h=>cond Oa (zC 122 [.pointer x0,S x4] h fun v72 Ub=>Kr Ub) (aA H6 (fun K5=>aM (x4=[97,112,112,108,101,116]) (K5 x0 x4 true h) (aM (x4=[109,97,114,113,117,101,101]) (K5 x0 x4 true h) (aM (x4=[111,98,106,101,99,116]) (K5 x0 x4 true h) (K5 x0 x4 false h)))) fun x0 x4 ajV h=>cond ajV (aA H5 (fun K4=>aw h #[S x4] 9 fun a91 h92=>zC 114 [.pointer x0,.int .u8 0,.slice (some a91) 1 1] h92 fun v93 h94=>au v93 fun b95=>cond b95 (K4 x0 x4 true h94) (K4 x0 x4 false h94)) fun x0 x4 gX h=>cond gX (zC 115 [.pointer x0,S []] h fun Tf h75=>aw h75 #[S x4] 9 fun a76 h77=>zC 116 [.pointer x0,.slice (some a76) 1 1] h77 fun v78 h79=>ae x0 fun a80=>zP h79 (a80.add 0) fun p81=>ae x0 fun a82=>zP h79 (a82.add 0) fun p83=>ae p83 fun a84=>zS h79 (a84.add 2) fun Xa Xb Xc=>zC 123 [.slice Xa Xb Xc] h79 fun v86 EG=>aB v86 fun Vk Vl Vm=>bG h79 EG/\(ae p81 fun a89=>bc (a89.add 2) [.slice Vk Vl Vm] 0 EG fun OV=>Kr OV)) (Kr h)) (aM (x4=[98,114]) (zC 46 [.pointer x0,(.agg ⟨[.int .u8 0,S [98,114],.slice none 0 0,.bool false,S []]⟩)] h fun v96 XU=>Kr XU) (ae x0 fun a98=>zP h (a98.add 0) fun p99=>zC 124 [.pointer p99,S x4] h fun v100 Jd=>Kr Jd))))))))))) fun h=>K (.tuple ⟨[]⟩) h
theorem ok (q:asks x0 x1 K h):zC 47 [.pointer x0,.agg ⟨aT x1⟩] h K:=
 cl Tryz.func47 q (fun p q=>sq p q fun p q=>sq p q fun p q=>bl (b:=0) (sq p q fun p q=>cn (i:=21) p q (fun p q=>lf p q) fun p q=>sq p q fun p q=>cn (i:=28) p q (fun p q=>lf p q) fun p q=>sq p q fun p q=>cn (i:=43) p q (fun p q=>sq p q fun p q=>sq p q fun p q=>sq p q fun p q=>lf p q) fun p q=>sq p q fun p q=>cn (i:=69) p q (fun p q=>lf p q) fun p q=>sq p q fun p q=>cn (i:=82) p q (fun p q=>lf p q) fun p q=>sq p q fun p q=>cn (i:=94) p q (fun p q=>lf p q) fun p q=>sq p q fun p q=>cn (i:=113) p q (fun p q=>lf p q) fun p q=>sq p q fun p q=>cn (i:=126) p q (fun p q=>lf p q) fun p q=>sq p q fun p q=>cn (i:=132) p q (fun p q=>sq p q fun p q=>lf p q) fun p q=>lf p q)) fun p q=>rt p q
end Xff
namespace Tm
abbrev L2:List Sl:=[]
abbrev L3:=[Zl 0,Zs 1,Z6 5]
abbrev L0:=[Zb 4]
abbrev L1:=[Zl 0,Zs 1]
abbrev T2:=TK L2
abbrev T0:=TK L0
abbrev T3:=TK L3
variable (ao:OA) (aj aq:Nat) (x1:List UInt8)
abbrev bU (Kn Ke0:T2) (Kr:T0):T3->T3:=fun K2 ao aj aq x1 x5 h=>aM (x5<(aj:Int)) ((0<=x5/\x5<(aj:Int))/\(ae ao fun a1=>zT h (a1.add (Int.toNat x5*1)) fun s2=>aM (s2=x1) (Kr true h) (bd .i64 (x5+(1:Int))/\(K2 ao aj aq x1 (x5+(1:Int)) h)))) (Ke0 h)
abbrev cQ (Kn Ke0:T2) (Kr:T0):Nat->T3:=LP L3 (bU Kn Ke0 Kr)
variable (K:KV) (h:H)
abbrev asks (ao:OA) (aj aq:Nat) (x1:List UInt8) (K:KV) (h:H):Prop:=cF L0 (fun Kr=>aA L1 (fun K4=>K4 ao aj aq x1 h) fun ao aj aq x1 h=>aA L2 (fun K1=>aA L3 (fun K3=>K3 ao aj aq x1 0 h) fun ao aj aq x1 x5 h=>iy L3 (bU K1 K1 Kr) fun K2=>K2 ao aj aq x1 x5 h) fun h=>Kr false h) fun y4 h=>K (.bool y4) h
theorem ok (q:asks ao aj aq x1 K h):zC 106 [.slice ao aj aq,S x1] h K:=
 cl Tryz.func106 q (fun p q=>sq (l:=L1) p q fun p q=>sc (l:=L2) q (fun q=>sq (l:=L3) p q fun p q=>bl (b:=0) (lp p q fun p q=>lf p q)) fun p q=>lf p q) fun p q=>rt p q
end Tm
namespace Xfe
abbrev L0:List Sl:=[]
variable (x0:OA) (x1:Tk)
variable (K:KV) (h:H)
abbrev asks:Prop:=cF L0 (fun Kr=>aw h ⟨aT x1⟩ 45 fun a1 h2=>bJ h2 a1 fun t3=>zC 110 [.pointer x0,.agg ⟨aT t3⟩] h2 fun v4 h5=>aL .i64 v4 fun i6=>zC 39 [.pointer x0] h5 fun v7 h8=>Kr h8) fun h=>K (.tuple ⟨[]⟩) h
theorem ok (q:asks x0 x1 K h):zC 107 [.pointer x0,.agg ⟨aT x1⟩] h K:=
 cl Tryz.func107 q (fun p q=>lf p q) fun p q=>rt p q
end Xfe
namespace Xfm
abbrev L0:List Sl:=[]
variable (x0:OA) (x1:Tk) (x2:Int)
variable (K:KV) (h:H)
abbrev asks:Prop:=cF L0 (fun Kr=>aw h ⟨aT x1⟩ 45 fun a1 h2=>bJ h2 a1 fun t3=>zC 110 [.pointer x0,.agg ⟨aT t3⟩] h2 fun v4 h5=>aL .i64 v4 fun i6=>bJ h5 a1 fun t7=>zC 166 [.pointer x0,.agg ⟨aT t7⟩,.int .u8 x2] h5 fun v8 h9=>Kr h9) fun h=>K (.tuple ⟨[]⟩) h
theorem ok (q:asks x0 x1 x2 K h):zC 108 [.pointer x0,.agg ⟨aT x1⟩,.int .u8 x2] h K:=
 cl Tryz.func108 q (fun p q=>lf p q) fun p q=>rt p q
end Xfm
namespace Xfd
abbrev L0:List Sl:=[]
variable (x0:OA)
variable (K:KV) (h:H)
abbrev asks:Prop:=cF L0 (fun Kr=>aw h #[S [112]] 9 fun a1 h2=>zC 114 [.pointer x0,.int .u8 2,.slice (some a1) 1 1] h2 fun v3 h4=>au v3 fun b5=>cond b5 (zC 115 [.pointer x0,S [112]] h4 fun v6 h7=>aw h7 #[S [112]] 9 fun a8 h9=>zC 116 [.pointer x0,.slice (some a8) 1 1] h9 fun v10 eG=>Kr eG) (Kr h4)) fun h=>K (.tuple ⟨[]⟩) h
theorem ok (q:asks x0 K h):zC 109 [.pointer x0] h K:=
 cl Tryz.func109 q (fun p q=>lf p q) fun p q=>rt p q
end Xfd
namespace Xe5
abbrev L0:=[Z6 4]
variable (x0:OA) (x1:Tk)
variable (K:KV) (h:H)
abbrev asks:Prop:=cF L0 (fun Kr=>aw h ⟨aT x1⟩ 45 fun a1 h2=>ae x0 fun a3=>zP h2 (a3.add 0) fun p4=>bJ h2 a1 fun t5=>zC 103 [.pointer p4,.int .u8 0,.agg ⟨aT t5⟩] h2 fun v6 h7=>aL .i64 v6 fun i8=>Kr i8 h7) fun y4 h=>K (.int .i64 y4) h
theorem ok (q:asks x0 x1 K h):zC 110 [.pointer x0,.agg ⟨aT x1⟩] h K:=
 cl Tryz.func110 q (fun p q=>lf p q) fun p q=>rt p q
end Xe5
namespace Xfr
abbrev L0:=[Zl 0]
variable (K:KV) (h:H)
abbrev asks:Prop:=cF L0 (fun Kr=>aw h (sW [[104,49],[104,50],[104,51],[104,52],[104,53],[104,54]]) 9 fun a1 h2=>Kr (some a1) 6 6 h2) fun y0b y0n y0c h=>K (.slice y0b y0n y0c) h
theorem ok (q:asks K h):zC 111 [] h K:=
 cl Tryz.func111 q (fun p q=>lf p q) fun p q=>rt p q
end Xfr
namespace Xe3
abbrev L0:=[Zb 4]
variable (x0 bM:OA) (bI bV:Nat)
variable (K:KV) (h:H)
abbrev asks:Prop:=cF L0 (fun Kr=>ae x0 fun a1=>zP h (a1.add 0) fun p2=>zC 59 [.pointer p2] h fun v3 h4=>dO v3 fun WK WL WN WO=>aw h4 ⟨[.int .i64 0,.int .u8 0,S [],.int .u8 0]⟩ 77 fun a6 h7=>bc a6 [.int .i64 WK,.int .u8 WL,S WN,.int .u8 WO] 0 h7 fun h8=>zI .u8 h8 (a6.add 1) fun i9=>aM (i9=(0:Int)) (zT h8 (a6.add 2) fun oY=>zC 106 [.slice bM bI bV,S oY] h8 fun v11 eL=>au v11 fun F8=>cond F8 (Kr true eL) (Kr false eL)) (Kr false h8)) fun y4 h=>K (.bool y4) h
theorem ok (q:asks x0 bM bI bV K h):zC 112 [.pointer x0,.slice bM bI bV] h K:=
 cl Tryz.func112 q (fun p q=>lf p q) fun p q=>rt p q
end Xe3
namespace Xfi
abbrev L4:=[Zp 0,Za 4]
abbrev L5:=[Zp 0,Za 4,Z6 6,Zb 18]
abbrev L3:=[Zp 0,Za 4,Z6 6]
abbrev L2:=[Zp 0,Zl 2,Za 4]
abbrev L0:List Sl:=[]
variable (x0:OA) (x1:Tk) (dz:OA) (dq dC:Nat)
variable (K:KV) (h:H)
abbrev asks (x0:OA) (x1:Tk) (dz:OA) (dq dC:Nat) (K:KV) (h:H):Prop:=cF L0 (fun Kr=>aA L2 (fun K4=>aw h ⟨aT x1⟩ 45 fun a26 CH=>K4 x0 dz dq dC a26 CH) fun x0 dz dq dC x4 h=>aA L3 (fun K3=>ae x0 fun jh=>zP h (jh.add 0) fun p20=>ae p20 fun a21=>zS h (a21.add 1) fun lP iE lQ=>zC 167 [.slice lP iE lQ,.slice dz dq dC] h fun v23 mC=>aL .i64 v23 fun i25=>K3 x0 x4 i25 mC) fun x0 x4 x6 h=>aA L4 (fun K1=>aA L5 (fun K2=>aM (x6 ≥ 0) (K2 x0 x4 x6 true h) (K2 x0 x4 x6 false h)) fun x0 x4 x6 qC h=>cond qC (ae x0 fun a7=>zP h (a7.add 0) fun p8=>ae p8 fun a9=>zS h (a9.add 1) fun jf iD kY=>(0<=x6/\x6<(iD:Int))/\(ae jf fun jC=>zT h ((jC.add (Int.toNat x6*4)).add 2) fun jU=>zC 115 [.pointer x0,S jU] h fun mu dx=>aw dx #[S jU] 9 fun oF gZ=>zC 116 [.pointer x0,.slice (some oF) 1 1] gZ fun EI gI=>K1 x0 x4 gI)) (K1 x0 x4 h)) fun x0 x4 h=>zC 109 [.pointer x0] h fun v1 h2=>bJ h2 x4 fun t3=>zC 110 [.pointer x0,.agg ⟨aT t3⟩] h2 fun v4 h5=>aL .i64 v4 fun i6=>Kr h5) fun h=>K (.tuple ⟨[]⟩) h
theorem ok (q:asks x0 x1 dz dq dC K h):zC 113 [.pointer x0,.agg ⟨aT x1⟩,.slice dz dq dC] h K:=
 cl Tryz.func113 q (fun p q=>sq p q fun p q=>sq p q fun p q=>sc q (fun q=>sq p q fun p q=>lf p q) fun p q=>lf p q) fun p q=>rt p q
end Xfi
namespace Xe9
abbrev L0:=[Zb 6]
variable (x0:OA) (x1:Int) (dz:OA) (dq dC:Nat)
variable (K:KV) (h:H)
abbrev asks:Prop:=cF L0 (fun Kr=>ae x0 fun a1=>zP h (a1.add 0) fun p2=>ae p2 fun a3=>zS h (a3.add 1) fun oe oI uP=>zC 168 [.slice oe oI uP,.int .u8 x1,.slice dz dq dC] h fun v5 h6=>au v5 fun b7=>cond b7 (Kr true h6) (Kr false h6)) fun y6 h=>K (.bool y6) h
theorem ok (q:asks x0 x1 dz dq dC K h):zC 114 [.pointer x0,.int .u8 x1,.slice dz dq dC] h K:=
 cl Tryz.func114 q (fun p q=>lf p q) fun p q=>rt p q
end Xe9
namespace Xe4
abbrev L0:List Sl:=[]
variable (x0:OA) (x1:List UInt8)
variable (K:KV) (h:H)
abbrev asks:Prop:=cF L0 (fun Kr=>ae x0 fun a1=>zP h (a1.add 0) fun p2=>ae x0 fun a3=>zP h (a3.add 0) fun p4=>ae p4 fun a5=>zS h (a5.add 1) fun lO gV mM=>zC 169 [.slice lO gV mM,S x1] h fun v7 h8=>aL .i64 v7 fun i9=>bG h h8/\(zC 61 [.pointer p2,.int .i64 i9] h8 fun v10 eG=>Kr eG)) fun h=>K (.tuple ⟨[]⟩) h
theorem ok (q:asks x0 x1 K h):zC 115 [.pointer x0,S x1] h K:=
 cl Tryz.func115 q (fun p q=>lf p q) fun p q=>rt p q
end Xe4
namespace Xfc
abbrev L0:List Sl:=[]
variable (x0 bM:OA) (bI bV:Nat)
variable (K:KV) (h:H)
abbrev asks:Prop:=cF L0 (fun Kr=>ae x0 fun a1=>zP h (a1.add 0) fun p2=>ae x0 fun a3=>zP h (a3.add 0) fun p4=>ae p4 fun a5=>zS h (a5.add 1) fun lO gV mM=>zC 132 [.slice lO gV mM,.slice bM bI bV] h fun v7 h8=>aL .i64 v7 fun i9=>bG h h8/\(zC 61 [.pointer p2,.int .i64 i9] h8 fun v10 eG=>Kr eG)) fun h=>K (.tuple ⟨[]⟩) h
theorem ok (q:asks x0 bM bI bV K h):zC 116 [.pointer x0,.slice bM bI bV] h K:=
 cl Tryz.func116 q (fun p q=>lf p q) fun p q=>rt p q
end Xfc
namespace Xfj
abbrev L2:=[Zp 0,Za 3]
abbrev L5:=[Zp 0,Za 3,Z6 5]
abbrev L7:=[Zp 0,Za 3,Z6 4,Z6 5,Zb 40]
abbrev L6:=[Zp 0,Za 3,Z6 4,Z6 5]
abbrev L4:=[Zp 0,Za 3,Z6 4,Zb 16]
abbrev L3:=[Zp 0,Za 3,Z6 4]
abbrev L0:List Sl:=[]
variable (x0:OA) (x1:Tk)
variable (K:KV) (h:H)
abbrev asks (x0:OA) (x1:Tk) (K:KV) (h:H):Prop:=cF L0 (fun Kr=>aA L2 (fun K9=>aw h ⟨aT x1⟩ 45 fun Nr QO=>K9 x0 Nr QO) fun x0 x3 h=>aA L3 (fun K8=>ae x0 fun VE=>zP h (VE.add 0) fun p42=>ae p42 fun JT=>zS h (JT.add 2) fun NO Jq Jr=>zC 170 [.slice NO Jq Jr,S [97]] h fun v45 QZ=>aL .i64 v45 fun i47=>K8 x0 x3 i47 QZ) fun x0 x3 x4 h=>aA L2 (fun K1=>aA L4 (fun K7=>aM (x4 ≥ 0) (K7 x0 x3 x4 true h) (K7 x0 x3 x4 false h)) fun x0 x3 x4 Rk h=>cond Rk (aA L5 (fun K6=>ae x0 fun NI=>zP h (NI.add 0) fun p36=>ae p36 fun a37=>zS h (a37.add 2) fun Ja BK MB=>(0<=x4/\x4<(BK:Int))/\(ae Ja fun VD=>zI .i64 h ((VD.add (Int.toNat x4*3)).add 0) fun i40=>K6 x0 x3 i40 h)) fun x0 x3 x5 h=>aA L5 (fun K5=>zC 122 [.pointer x0,S [97]] h fun Ot tY=>K5 x0 x3 x5 tY) fun x0 x3 x5 h=>aA L6 (fun K4=>ae x0 fun a26=>zP h (a26.add 0) fun QT=>ae QT fun a28=>zS h (a28.add 2) fun DU BH DV=>zC 171 [.slice DU BH DV,.int .i64 x5] h fun v30 yh=>aL .i64 v30 fun i32=>K4 x0 x3 i32 x5 yh) fun x0 x3 x4 x5 h=>aA L5 (fun K2=>aA L7 (fun K3=>aM (x4 ≥ 0) (K3 x0 x3 x4 x5 true h) (K3 x0 x3 x4 x5 false h)) fun x0 x3 x4 x5 x40 h=>cond x40 (ae x0 fun a8=>zP h (a8.add 0) fun p9=>ae p9 fun jB=>zS h (jB.add 2) fun mN kZ lR=>(0<=(0:Int)/\0<=x4/\x4<=(lR:Int))/\(aZ Tryz.prog (Builtin.append_ #[40,40] 40 ⟨[.slice none 0 0,(.slice (if lR=Int.toNat 0 then mN else Option.map (fun q=>q.add (Int.toNat (0:Int)*3)) mN) (Int.toNat x4 - Int.toNat 0) (lR - Int.toNat 0))]⟩) h fun v12 fI=>aB v12 fun xT xU xV=>ae x0 fun oF=>zP fI (oF.add 0) fun p16=>ae p16 fun nE=>zS fI (nE.add 2) fun gC fw fT=>bd .i64 (x4+(1:Int))/\((0<=(x4+(1:Int))/\(x4+(1:Int))<=(fw:Int)/\(fw:Int)<=(fT:Int))/\(aZ Tryz.prog (Builtin.append_ #[40,40] 40 ⟨[.slice xT xU xV,(.slice (if fT=Int.toNat (x4+(1:Int)) then gC else Option.map (fun q=>q.add (Int.toNat (x4+(1:Int))*3)) gC) (Int.toNat (fw:Int) - Int.toNat (x4+(1:Int))) (fT - Int.toNat (x4+(1:Int))))]⟩) fI fun xv gm=>aB xv fun xz vA xA=>ae x0 fun a22=>zP gm (a22.add 0) fun p23=>ae p23 fun a24=>bc (a24.add 2) [.slice xz vA xA] 0 gm fun iF=>K2 x0 x3 x5 iF)))) (K2 x0 x3 x5 h)) fun x0 x3 x5 h=>ae x0 fun a4=>zP h (a4.add 0) fun p5=>zC 120 [.pointer p5,.int .i64 x5] h fun v6 h7=>K1 x0 x3 h7) (K1 x0 x3 h)) fun x0 x3 h=>bJ h x3 fun t1=>zC 172 [.pointer x0,.agg ⟨aT t1⟩] h fun v2 h3=>Kr h3) fun h=>K (.tuple ⟨[]⟩) h
theorem ok (q:asks x0 x1 K h):zC 117 [.pointer x0,.agg ⟨aT x1⟩] h K:=
 cl Tryz.func117 q (fun p q=>sq p q fun p q=>sq p q fun p q=>sc q (fun q=>sq p q fun p q=>cn (i:=16) p q (fun p q=>sq p q fun p q=>sq p q fun p q=>sq p q fun p q=>sc q (fun q=>sq p q fun p q=>lf p q) fun p q=>lf p q) fun p q=>lf p q) fun p q=>lf p q) fun p q=>rt p q
end Xfj
namespace Xfl
abbrev JQ:=[Zp 0,Za 3,Zb 6]
abbrev H5:=[Zp 0,Za 3,Zs 4,Zb 7]
abbrev L19:=[Zp 0,Za 3,Z8 9]
abbrev XT:=[Zp 0,Za 3,Zs 4,Z8 9]
abbrev SY:=[Zp 0,Za 3,Zs 4,Zb 179]
abbrev H6:=[Zp 0,Za 3,Zs 4,Zb 148]
abbrev Ao:=[Zp 0,Za 3,Zs 4,Zb 127]
abbrev Ch:=[Zp 0,Za 3,Zs 4,Zb 114]
abbrev Er:=[Zp 0,Za 3,Zs 4,Zb 102]
abbrev yx:=[Zp 0,Za 3,Zs 4,Zb 94]
abbrev L9:=[Zp 0,Za 3,Zs 4,Zb 87]
abbrev L8:=[Zp 0,Za 3,Zs 4,Zb 75]
abbrev L7:=[Zp 0,Za 3,Zs 4,Zb 64]
abbrev L6:=[Zp 0,Za 3,Zs 4,Zb 43]
abbrev L5:=[Zp 0,Za 3,Zs 4,Zb 37]
abbrev L4:=[Zp 0,Za 3,Zs 4,Zb 20]
abbrev L3:=[Zp 0,Za 3,Zs 4]
abbrev L2:=[Zp 0,Za 3]
abbrev L0:List Sl:=[]
variable (x0:OA) (x1:Tk)
variable (K:KV) (h:H)
abbrev asks (x0:OA) (x1:Tk) (K:KV) (h:H):Prop:=cF L0 (fun Kr=>aA L2 (fun OE=>aw h ⟨aT x1⟩ 45 fun Xd NZ=>OE x0 Xd NZ) fun x0 x3 h=>aA L3 (fun Wz=>zT h (x3.add 1) fun ak1=>Wz x0 x3 ak1 h) fun x0 x3 x4 h=>aA L4 (fun OD=>aM (x4=[110,111,98,114]) (OD x0 x3 x4 true h) (OD x0 x3 x4 false h)) fun x0 x3 x4 yr h=>cond yr (ae x0 fun a1=>zP h (a1.add 0) fun p2=>zC 44 [.pointer p2] h fun v3 h4=>aw h4 #[S [110,111,98,114]] 9 fun a5 h6=>zC 114 [.pointer x0,.int .u8 0,.slice (some a5) 1 1] h6 fun v7 h8=>au v7 fun b9=>cond b9 (zC 122 [.pointer x0,S [110,111,98,114]] h8 fun v10 eG=>bJ eG x3 fun t12=>zC 172 [.pointer x0,.agg ⟨aT t12⟩] eG fun mu dx=>Kr dx) (bJ h8 x3 fun t15=>zC 172 [.pointer x0,.agg ⟨aT t15⟩] h8 fun oD fh=>Kr fh)) (aA L5 (fun Cf=>zC 121 [S x4] h fun v157 JB=>au v157 fun ak2=>cond ak2 (Cf x0 x3 x4 true JB) (Cf x0 x3 x4 false JB)) fun x0 x3 x4 x37 h=>cond x37 (bJ h x3 fun t18=>zC 172 [.pointer x0,.agg ⟨aT t18⟩] h fun xv gm=>Kr gm) (aA L6 (fun yw=>aM (x4=[97,112,112,108,101,116]) (yw x0 x3 x4 true h) (aM (x4=[109,97,114,113,117,101,101]) (yw x0 x3 x4 true h) (aM (x4=[111,98,106,101,99,116]) (yw x0 x3 x4 true h) (yw x0 x3 x4 false h)))) fun x0 x3 x4 x43 h=>cond x43 (ae x0 fun a21=>zP h (a21.add 0) fun p22=>zC 44 [.pointer p22] h fun v23 mC=>bJ mC x3 fun t25=>zC 110 [.pointer x0,.agg ⟨aT t25⟩] mC fun v26 CH=>aL .i64 v26 fun i28=>zC 173 [.pointer x0] CH fun Od u3=>Kr u3) (aA L7 (fun xS=>aM (x4=[116,97,98,108,101]) (xS x0 x3 x4 true h) (xS x0 x3 x4 false h)) fun x0 x3 x4 x64 h=>cond x64 (zC 109 [.pointer x0] h fun v31 EC=>bJ EC x3 fun t33=>zC 110 [.pointer x0,.agg ⟨aT t33⟩] EC fun zw qi=>aL .i64 zw fun i36=>ae x0 fun a37=>bc (a37.add 1) [.int .u8 2] 0 qi fun Cd=>Kr Cd) (aA L8 (fun zb=>aw h (sW [[97,114,101,97],[98,114],[101,109,98,101,100],[105,109,103],[107,101,121,103,101,110],[119,98,114],[105,110,112,117,116]]) 9 fun a152 Vz=>zC 106 [.slice (some a152) 7 7,S x4] Vz fun v154 abV=>au v154 fun ak3=>cond ak3 (zb x0 x3 x4 true abV) (zb x0 x3 x4 false abV)) fun x0 x3 x4 x75 h=>cond x75 (ae x0 fun VD=>zP h (VD.add 0) fun p40=>zC 44 [.pointer p40] h fun ZY I9=>bJ I9 x3 fun t43=>zC 107 [.pointer x0,.agg ⟨aT t43⟩] I9 fun I8 uO=>Kr uO) (aA L9 (fun re=>aM (x4=[105,109,97,103,101]) (re x0 x3 x4 true h) (re x0 x3 x4 false h)) fun x0 x3 x4 x87 h=>cond x87 (bc (x3.add 1) [S [105,109,103]] 0 h fun QZ=>bJ QZ x3 fun t47=>zC 46 [.pointer x0,.agg ⟨aT t47⟩] QZ fun v48 QO=>Kr QO) (aA yx (fun lV=>aM (x4=[104,114]) (lV x0 x3 x4 true h) (lV x0 x3 x4 false h)) fun x0 x3 x4 x94 h=>cond x94 (zC 109 [.pointer x0] h fun QP BV=>bJ BV x3 fun t52=>zC 107 [.pointer x0,.agg ⟨aT t52⟩] BV fun v53 JU=>Kr JU) (aA Er (fun K9=>aM (x4=[116,101,120,116,97,114,101,97]) (K9 x0 x3 x4 true h) (K9 x0 x3 x4 false h)) fun x0 x3 x4 ak4 h=>cond ak4 (bJ h x3 fun t55=>zC 110 [.pointer x0,.agg ⟨aT t55⟩] h fun v56 h57=>aL .i64 v56 fun i58=>ae x0 fun a59=>bc (a59.add 4) [.bool true] 0 h57 fun Eu=>bJ Eu x3 fun t61=>zC 166 [.pointer x0,.agg ⟨aT t61⟩,.int .u8 1] Eu fun Xn jZ=>Kr jZ) (aA Ch (fun K8=>aM (x4=[120,109,112]) (K8 x0 x3 x4 true h) (K8 x0 x3 x4 false h)) fun x0 x3 x4 ak5 h=>cond ak5 (zC 109 [.pointer x0] h fun Yj QQ=>ae x0 fun a66=>zP QQ (a66.add 0) fun p67=>zC 44 [.pointer p67] QQ fun v68 Wi=>bJ Wi x3 fun t70=>zC 108 [.pointer x0,.agg ⟨aT t70⟩,.int .u8 2] Wi fun v71 h72=>Kr h72) (aA Ao (fun K7=>aM (x4=[111,112,116,103,114,111,117,112]) (K7 x0 x3 x4 true h) (aM (x4=[111,112,116,105,111,110]) (K7 x0 x3 x4 true h) (K7 x0 x3 x4 false h))) fun x0 x3 x4 ak6 h=>cond ak6 (aA JQ (fun K1=>aw h #[S [111,112,116,105,111,110]] 9 fun a91 h92=>zC 112 [.pointer x0,.slice (some a91) 1 1] h92 fun v93 h94=>au v93 fun b95=>cond b95 (K1 x0 x3 true h94) (K1 x0 x3 false h94)) fun x0 x3 x6 h=>cond x6 (zC 39 [.pointer x0] h fun Xr SR=>ae x0 fun a75=>zP SR (a75.add 0) fun p76=>zC 44 [.pointer p76] SR fun Yl JH=>bJ JH x3 fun t79=>zC 110 [.pointer x0,.agg ⟨aT t79⟩] JH fun v80 h81=>aL .i64 v80 fun i82=>Kr h81) (ae x0 fun a83=>zP h (a83.add 0) fun p84=>zC 44 [.pointer p84] h fun v85 h86=>bJ h86 x3 fun t87=>zC 110 [.pointer x0,.agg ⟨aT t87⟩] h86 fun v88 SU=>aL .i64 v88 fun i90=>Kr SU)) (aA H6 (fun K6=>aM (x4=[114,98]) (K6 x0 x3 x4 true h) (aM (x4=[114,116,99]) (K6 x0 x3 x4 true h) (aM (x4=[114,112]) (K6 x0 x3 x4 true h) (aM (x4=[114,116]) (K6 x0 x3 x4 true h) (K6 x0 x3 x4 false h))))) fun x0 x3 x4 WI h=>cond WI (aA H5 (fun K2=>aw h #[S [114,117,98,121]] 9 fun ak7 ak8=>zC 114 [.pointer x0,.int .u8 0,.slice (some ak7) 1 1] ak8 fun abX A8=>au abX fun ak9=>cond ak9 (K2 x0 x3 x4 true A8) (K2 x0 x3 x4 false A8)) fun x0 x3 x4 x7 h=>aM (x4=[114,112]) (cond x7 (zC 115 [.pointer x0,S [114,116,99]] h fun v96 XU=>bJ XU x3 fun t98=>zC 110 [.pointer x0,.agg ⟨aT t98⟩] XU fun v99 aka=>aL .i64 v99 fun i101=>Kr aka) (bJ h x3 fun t102=>zC 110 [.pointer x0,.agg ⟨aT t102⟩] h fun akb akc=>aL .i64 akb fun i105=>Kr akc)) (aM (x4=[114,116]) (cond x7 (zC 115 [.pointer x0,S [114,116,99]] h fun Il Cw=>bJ Cw x3 fun t108=>zC 110 [.pointer x0,.agg ⟨aT t108⟩] Cw fun v109 u9=>aL .i64 v109 fun i111=>Kr u9) (bJ h x3 fun t112=>zC 110 [.pointer x0,.agg ⟨aT t112⟩] h fun W0 Ro=>aL .i64 W0 fun i115=>Kr Ro)) (cond x7 (zC 115 [.pointer x0,S []] h fun v116 Qy=>bJ Qy x3 fun t118=>zC 110 [.pointer x0,.agg ⟨aT t118⟩] Qy fun WW Ep=>aL .i64 WW fun i121=>Kr Ep) (bJ h x3 fun t122=>zC 110 [.pointer x0,.agg ⟨aT t122⟩] h fun akd ake=>aL .i64 akd fun i125=>Kr ake)))) (aA SY (fun K5=>aM (x4=[109,97,116,104]) (K5 x0 x3 x4 true h) (aM (x4=[115,118,103]) (K5 x0 x3 x4 true h) (K5 x0 x3 x4 false h))) fun x0 x3 x4 WJ h=>cond WJ (aA XT (fun K4=>K4 x0 x3 x4 2 h) fun x0 x3 x4 x9 h=>aA L19 (fun K3=>aM (x4=[115,118,103]) (K3 x0 x3 1 h) (K3 x0 x3 x9 h)) fun x0 x3 x9 h=>ae x0 fun a131=>zP h (a131.add 0) fun NX=>zC 44 [.pointer NX] h fun v133 Ob=>ae x0 fun Wr=>zP Ob (Wr.add 0) fun akf=>bJ Ob x3 fun t137=>zC 103 [.pointer akf,.int .u8 x9,.agg ⟨aT t137⟩] Ob fun v138 Xe=>aL .i64 v138 fun i140=>zB Xe (x3.add 3) fun akg=>cond akg (zC 39 [.pointer x0] Xe fun It AP=>Kr AP) (Kr Xe)) (ae x0 fun akh=>zP h (akh.add 0) fun Ws=>zC 44 [.pointer Ws] h fun v146 Ed=>bJ Ed x3 fun t148=>zC 110 [.pointer x0,.agg ⟨aT t148⟩] Ed fun aki akj=>aL .i64 aki fun i151=>Kr akj))))))))))))) fun h=>K (.tuple ⟨[]⟩) h
theorem ok (q:asks x0 x1 K h):zC 118 [.pointer x0,.agg ⟨aT x1⟩] h K:=
 cl Tryz.func118 q (fun p q=>sq p q fun p q=>sq p q fun p q=>bl (b:=0) (sq p q fun p q=>cn (i:=20) p q (fun p q=>lf p q) fun p q=>sq p q fun p q=>cn (i:=37) p q (fun p q=>lf p q) fun p q=>sq p q fun p q=>cn (i:=43) p q (fun p q=>lf p q) fun p q=>sq p q fun p q=>cn (i:=64) p q (fun p q=>lf p q) fun p q=>sq p q fun p q=>cn (i:=75) p q (fun p q=>lf p q) fun p q=>sq p q fun p q=>cn (i:=87) p q (fun p q=>lf p q) fun p q=>sq p q fun p q=>cn (i:=94) p q (fun p q=>lf p q) fun p q=>sq p q fun p q=>cn (i:=102) p q (fun p q=>lf p q) fun p q=>sq p q fun p q=>cn (i:=114) p q (fun p q=>lf p q) fun p q=>sq p q fun p q=>cn (i:=127) p q (fun p q=>sq p q fun p q=>lf p q) fun p q=>sq p q fun p q=>cn (i:=148) p q (fun p q=>sq p q fun p q=>lf p q) fun p q=>sq p q fun p q=>cn (i:=179) p q (fun p q=>sq p q fun p q=>sq p q fun p q=>lf p q) fun p q=>lf p q)) fun p q=>rt p q
end Xfl
namespace Tt
abbrev L2:List Sl:=[]
abbrev L3:=[Zp 0,Z6 1,Z6 5]
abbrev L0:=[Zb 4]
abbrev L1:=[Zp 0,Z6 1]
abbrev T2:=TK L2
abbrev T0:=TK L0
abbrev T3:=TK L3
variable (x0:OA) (x1:Int)
abbrev bU (Kn Ke0:T2) (Kr:T0):T3->T3:=fun K2 x0 x1 x5 h=>aM (x5 ≥ 0) (ae x0 fun a1=>zP h (a1.add 0) fun p2=>ae p2 fun a3=>zS h (a3.add 1) fun oe oI uP=>(0<=x5/\x5<(oI:Int))/\(ae oe fun a5=>ldO h (a5.add (Int.toNat x5*4)) fun WR WS WT WU=>aw h ⟨[.int .i64 0,.int .u8 0,S [],.int .u8 0]⟩ 77 fun a7 h8=>bc a7 [.int .i64 WR,.int .u8 WS,S WT,.int .u8 WU] 0 h8 fun h9=>zI .i64 h9 (a7.add 0) fun i10=>aM (i10=x1) (Kr true h9) (ldO h9 a7 fun abY abZ ac0 ac1=>aw h9 #[.int .i64 0,.int .u8 0,S [98],.int .u8 0,.int .i64 abY,.int .u8 abZ,S ac0,.int .u8 ac1] 77 fun a12 fI=>aw fI #[S [98]] 9 fun lE gA=>zC 168 [.slice (some a12) 2 2,.int .u8 0,.slice (some lE) 1 1] gA fun oD fh=>au oD fun S9=>cond S9 (bd .i64 (x5 - (1:Int))/\(K2 x0 x1 (x5 - (1:Int)) fh)) (Kr false fh)))) (Ke0 h)
abbrev cQ (Kn Ke0:T2) (Kr:T0):Nat->T3:=LP L3 (bU Kn Ke0 Kr)
variable (K:KV) (h:H)
abbrev asks (x0:OA) (x1:Int) (K:KV) (h:H):Prop:=cF L0 (fun Kr=>aA L1 (fun K4=>K4 x0 x1 h) fun x0 x1 h=>aA L2 (fun K1=>aA L3 (fun K3=>ae x0 fun jh=>zP h (jh.add 0) fun p20=>ae p20 fun a21=>zS h (a21.add 1) fun lP iE lQ=>bd .i64 ((iE:Int) - 1)/\(K3 x0 x1 ((iE:Int) - 1) h)) fun x0 x1 x5 h=>iy L3 (bU K1 K1 Kr) fun K2=>K2 x0 x1 x5 h) fun h=>Kr false h) fun y4 h=>K (.bool y4) h
theorem ok (q:asks x0 x1 K h):zC 119 [.pointer x0,.int .i64 x1] h K:=
 cl Tryz.func119 q (fun p q=>sq (l:=L1) p q fun p q=>sc (l:=L2) q (fun q=>sq (l:=L3) p q fun p q=>bl (b:=0) (lp p q fun p q=>lf p q)) fun p q=>lf p q) fun p q=>rt p q
end Tt
namespace Xd4
abbrev L0:=[Zb 2]
variable (x0:List UInt8)
variable (K:KV) (h:H)
abbrev asks:Prop:=cF L0 (fun Kr=>aw h #[S [97],S [98],S [98,105,103],S [99,111,100,101],S [101,109],S [102,111,110,116],S [105],S [110,111,98,114],S [115],S [115,109,97,108,108],S [115,116,114,105,107,101],S [115,116,114,111,110,103],S [116,116],S [117]] 9 fun a1 h2=>zC 174 [.slice (some a1) 14 14,S x0] h2 fun v3 h4=>au v3 fun b5=>cond b5 (Kr true h4) (Kr false h4)) fun y2 h=>K (.bool y2) h
theorem ok (q:asks x0 K h):zC 121 [S x0] h K:=
 cl Tryz.func121 q (fun p q=>lf p q) fun p q=>rt p q
end Xd4
namespace Xfg
abbrev L0:List Sl:=[]
variable (x0:OA) (x1:List UInt8)
variable (K:KV) (h:H)
abbrev asks:Prop:=cF L0 (fun Kr=>ae x0 fun a1=>zP h (a1.add 0) fun p2=>zC 175 [.pointer p2,S x1] h fun v3 h4=>au v3 fun b5=>cond b5 (Kr h4) (ae x0 fun a6=>zP h4 (a6.add 0) fun p7=>zC 124 [.pointer p7,S x1] h4 fun v8 h9=>Kr h9)) fun h=>K (.tuple ⟨[]⟩) h
theorem ok (q:asks x0 x1 K h):zC 122 [.pointer x0,S x1] h K:=
 cl Tryz.func122 q (fun p q=>lf p q) fun p q=>rt p q
end Xfg
namespace Xed
abbrev L0:=[Zl 2]
variable (ao:OA) (aj aq:Nat)
variable (K:KV) (h:H)
abbrev asks:Prop:=cF L0 (fun Kr=>zC 176 [.slice ao aj aq] h fun v1 h2=>aL .i64 v1 fun i3=>aM (i3=(0:Int)) (Kr none 0 0 h2) (bd .i64 (i3 - (1:Int))/\((0<=(0:Int)/\0<=(i3 - (1:Int))/\(i3 - (1:Int))<=(aq:Int))/\(aZ Tryz.prog (Builtin.append_ #[40,40] 40 ⟨[.slice none 0 0,(.slice (if aq=Int.toNat 0 then ao else Option.map (fun q=>q.add (Int.toNat (0:Int)*3)) ao) (Int.toNat (i3 - (1:Int)) - Int.toNat 0) (aq - Int.toNat 0))]⟩) h2 fun v4 h5=>aB v4 fun lO gV mM=>Kr lO gV mM h5)))) fun qj qk ql h=>K (.slice qj qk ql) h
theorem ok (q:asks ao aj aq K h):zC 123 [.slice ao aj aq] h K:=
 cl Tryz.func123 q (fun p q=>lf p q) fun p q=>rt p q
end Xed
namespace Xfp
abbrev L0:List Sl:=[]
variable (x0:OA) (x1:Tk) (x2:Int)
variable (K:KV) (h:H)
abbrev asks:Prop:=cF L0 (fun Kr=>aw h ⟨aT x1⟩ 45 fun a1 h2=>ae x0 fun a3=>zI .u8 h2 (a3.add 1) fun i4=>ae x0 fun a5=>bc (a5.add 2) [.int .u8 i4] 0 h2 fun h6=>ae x0 fun a7=>bc (a7.add 1) [.int .u8 1] 0 h6 fun h8=>ae x0 fun a9=>bc (a9.add 5) [.int .u8 x2] 0 h8 fun df=>zT df (a1.add 1) fun ve=>ae x0 fun a12=>bc (a12.add 6) [S ve] 0 df fun fI=>Kr fI) fun h=>K (.tuple ⟨[]⟩) h
theorem ok (q:asks x0 x1 x2 K h):zC 166 [.pointer x0,.agg ⟨aT x1⟩,.int .u8 x2] h K:=
 cl Tryz.func166 q (fun p q=>lf p q) fun p q=>rt p q
end Xfp
namespace SW
abbrev L2:List Sl:=[]
abbrev L3:=[Zl 0,Zl 1,Z6 5]
abbrev L0:=[Z6 4]
abbrev L1:=[Zl 0,Zl 1]
abbrev T2:=TK L2
abbrev T0:=TK L0
abbrev T3:=TK L3
variable (ao:OA) (aj aq:Nat) (bM:OA) (bI bV:Nat)
abbrev bU (Kn Ke0:T2) (Kr:T0):T3->T3:=fun K2 ao aj aq bM bI bV x5 h=>aM (x5 ≥ 0) ((0<=x5/\x5<(aj:Int))/\(ae ao fun a1=>zI .i64 h (((a1.add (Int.toNat x5*4))).add 0) fun i2=>zI .u8 h (((a1.add (Int.toNat x5*4))).add 1) fun i3=>zT h (((a1.add (Int.toNat x5*4))).add 2) fun s4=>zI .u8 h (((a1.add (Int.toNat x5*4))).add 3) fun i5=>zC 181 [(.agg ⟨[.int .i64 i2,.int .u8 i3,S s4,.int .u8 i5]⟩),.slice bM bI bV] h fun v6 h7=>au v6 fun b8=>cond b8 (Kr x5 h7) ((0<=x5/\x5<(aj:Int))/\(ae ao fun a9=>zI .u8 h7 ((a9.add (Int.toNat x5*4)).add 1) fun i10=>(0<=x5/\x5<(aj:Int))/\(ae ao fun jC=>zT h7 ((jC.add (Int.toNat x5*4)).add 2) fun jU=>zC 177 [.int .u8 i10,S jU] h7 fun mu dx=>au mu fun Jm=>cond Jm ((0<=x5/\x5<(aj:Int))/\(ae ao fun pv=>zI .i64 dx (((pv.add (Int.toNat x5*4))).add 0) fun i17=>zI .u8 dx (((pv.add (Int.toNat x5*4))).add 1) fun i18=>zT dx (((pv.add (Int.toNat x5*4))).add 2) fun QR=>zI .u8 dx (((pv.add (Int.toNat x5*4))).add 3) fun i20=>aw dx #[S [97,100,100,114,101,115,115],S [100,105,118],S [112]] 9 fun a21 mB=>bG dx mB/\(zC 181 [(.agg ⟨[.int .i64 i17,.int .u8 i18,S QR,.int .u8 i20]⟩),.slice (some a21) 3 3] mB fun v23 mC=>au v23 fun b25=>cond b25 (bd .i64 (x5 - (1:Int))/\(K2 ao aj aq bM bI bV (x5 - (1:Int)) mC)) (Kr (-1) mC)))) (bd .i64 (x5 - (1:Int))/\(K2 ao aj aq bM bI bV (x5 - (1:Int)) dx))))))) (Ke0 h)
abbrev cQ (Kn Ke0:T2) (Kr:T0):Nat->T3:=LP L3 (bU Kn Ke0 Kr)
variable (K:KV) (h:H)
abbrev asks (ao:OA) (aj aq:Nat) (bM:OA) (bI bV:Nat) (K:KV) (h:H):Prop:=cF L0 (fun Kr=>aA L1 (fun K4=>K4 ao aj aq bM bI bV h) fun ao aj aq bM bI bV h=>aA L2 (fun K1=>aA L3 (fun K3=>bd .i64 ((aj:Int) - 1)/\(K3 ao aj aq bM bI bV ((aj:Int) - 1) h)) fun ao aj aq bM bI bV x5 h=>iy L3 (bU K1 K1 Kr) fun K2=>K2 ao aj aq bM bI bV x5 h) fun h=>Kr (-1) h) fun y4 h=>K (.int .i64 y4) h
theorem ok (q:asks ao aj aq bM bI bV K h):zC 167 [.slice ao aj aq,.slice bM bI bV] h K:=
 cl Tryz.func167 q (fun p q=>sq (l:=L1) p q fun p q=>sc (l:=L2) q (fun q=>sq (l:=L3) p q fun p q=>bl (b:=0) (lp p q fun p q=>lf p q)) fun p q=>lf p q) fun p q=>rt p q
end SW
namespace Xfh
abbrev L0:List Sl:=[]
variable (x0:OA) (x1:Tk)
variable (K:KV) (h:H)
abbrev asks:Prop:=cF L0 (fun Kr=>aw h ⟨aT x1⟩ 45 fun a1 h2=>ae x0 fun a3=>zP h2 (a3.add 0) fun p4=>zC 44 [.pointer p4] h2 fun v5 h6=>bJ h6 a1 fun t7=>zC 110 [.pointer x0,.agg ⟨aT t7⟩] h6 fun v8 h9=>aL .i64 v8 fun i10=>bJ h9 a1 fun t11=>zC 206 [.pointer x0,.int .i64 i10,.agg ⟨aT t11⟩] h9 fun v12 fI=>Kr fI) fun h=>K (.tuple ⟨[]⟩) h
theorem ok (q:asks x0 x1 K h):zC 172 [.pointer x0,.agg ⟨aT x1⟩] h K:=
 cl Tryz.func172 q (fun p q=>lf p q) fun p q=>rt p q
end Xfh
namespace Xe6
abbrev L0:List Sl:=[]
variable (x0:OA)
variable (K:KV) (h:H)
abbrev asks:Prop:=cF L0 (fun Kr=>ae x0 fun a1=>zP h (a1.add 0) fun p2=>ae x0 fun a3=>zP h (a3.add 0) fun p4=>ae p4 fun a5=>zS h (a5.add 2) fun lO gV mM=>zC 207 [.slice lO gV mM,(.agg ⟨[.int .i64 (-1),S [],.slice none 0 0]⟩)] h fun v7 h8=>aB v7 fun yu vU BP=>bG h h8/\(ae p2 fun jB=>bc (jB.add 2) [.slice yu vU BP] 0 h8 fun eG=>Kr eG)) fun h=>K (.tuple ⟨[]⟩) h
theorem ok (q:asks x0 K h):zC 173 [.pointer x0] h K:=
 cl Tryz.func173 q (fun p q=>lf p q) fun p q=>rt p q
end Xe6
namespace Xfk
abbrev L0:List Sl:=[]
variable (x0:OA) (x1:Int) (x2:Tk)
variable (K:KV) (h:H)
abbrev asks:Prop:=cF L0 (fun Kr=>aw h ⟨aT x2⟩ 45 fun a1 h2=>ae x0 fun a3=>zP h2 (a3.add 0) fun p4=>ae x0 fun a5=>zP h2 (a5.add 0) fun p6=>ae p6 fun a7=>zS h2 (a7.add 2) fun rT rJ vq=>zT h2 (a1.add 1) fun s9=>zS h2 (a1.add 2) fun jf iD kY=>zC 207 [.slice rT rJ vq,(.agg ⟨[.int .i64 x1,S s9,.slice jf iD kY]⟩)] h2 fun v11 eL=>aB v11 fun jK jv lg=>bG h2 eL/\(ae p4 fun lE=>bc (lE.add 2) [.slice jK jv lg] 0 eL fun gA=>Kr gA)) fun h=>K (.tuple ⟨[]⟩) h
theorem ok (q:asks x0 x1 x2 K h):zC 206 [.pointer x0,.int .i64 x1,.agg ⟨aT x2⟩] h K:=
 cl Tryz.func206 q (fun p q=>lf p q) fun p q=>rt p q
end Xfk
end Go.Proofs
