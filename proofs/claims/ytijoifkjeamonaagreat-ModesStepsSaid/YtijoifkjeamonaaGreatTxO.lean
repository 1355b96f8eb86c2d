/- Own text. No condition. -/
import Derived.Test.YtijoifkjeamonaaGreatHc
import Derived.Test.YtijoifkjeamonaaGreatShR
import Derived.Test.YtijoifkjeamonaaGreatProg
namespace Go.Proofs
open Go Go.Sh
set_option linter.unusedVariables false
set_option maxRecDepth 100000
namespace zm
abbrev L0:=[Zb 2]
abbrev L4:List Sl:=[]
abbrev L5:=[Zl 0,Zp 3,Zp 4,Z6 5]
abbrev L9:=[Zl 0,Zp 3,Zp 4,Z6 5,Za 6,Zb 7,Za 8,Zb 83]
abbrev L8:=[Zl 0,Zp 3,Zp 4,Z6 5,Za 6,Zb 7,Za 8]
abbrev L7:=[Zl 0,Zp 3,Zp 4,Z6 5,Za 6,Zb 7,Za 8,Zb 9]
abbrev L6:=[Zl 0,Zp 3,Zp 4,Z6 5,Za 6,Zb 7]
abbrev L3:=[Zl 0,Zp 3,Zp 4]
abbrev L2:=[Zl 0,Zp 3]
abbrev L1:=[Zl 0]
abbrev T0:=TK L0
abbrev T4:=TK L4
abbrev T5:=TK L5
variable (ao:OA) (aj aq:Nat) (x3 x4:OA) (x5:Int) (x6:Addr) (x7:Bool) (x8:Addr) (x9:Bool)
abbrev n7 (Kn Kr:T0) (h:H):Prop:=
 Kr true h
abbrev n19 (Kn Ke1:T5) (Ke0:T4) (Kr:T0) (h:H):Prop:=
 ae x3 fun a1=>zI .u8 h (a1.add 1) fun i2=>ae x4 fun a3=>zI .u8 h (a3.add 1) fun i4=>aM (i2=i4) (ae x3 fun a5=>zI .u8 h (a5.add 2) fun i6=>ae x4 fun a7=>zI .u8 h (a7.add 2) fun i8=>aM (i6=i8) (ae x3 fun a9=>zI .i64 h (a9.add 3) fun i10=>ae x4 fun jC=>zI .i64 h (jC.add 3) fun i12=>aM (i10=i12) (ae x3 fun oE=>zB h (oE.add 4) fun b14=>cond b14 (ae x4 fun oF=>zB h (oF.add 4) fun Z0=>cond Z0 (ae x3 fun nE=>zI .u8 h (nE.add 5) fun i18=>ae x4 fun jh=>zI .u8 h (jh.add 5) fun i20=>aM (i18=i20) (ae x3 fun a21=>zT h (a21.add 6) fun UQ=>ae x4 fun a23=>zT h (a23.add 6) fun s24=>aM (UQ=s24) (ae x3 fun a25=>zP h (a25.add 0) fun Jb=>ae Jb fun yp=>zS h (yp.add 1) fun Gx xP Jl=>ae x4 fun Ow=>zP h (Ow.add 0) fun p30=>ae p30 fun a31=>zS h (a31.add 1) fun za xQ xR=>zC 23 [.slice Gx xP Jl,.slice za xQ xR] h fun Ot tY=>au Ot fun b35=>cond b35 (ae x3 fun Gy=>zP tY (Gy.add 0) fun p37=>ae p37 fun Jn=>zS tY (Jn.add 2) fun V2 V3 V4=>ae x4 fun a40=>zP tY (a40.add 0) fun p41=>ae p41 fun QU=>zS tY (QU.add 2) fun Jo GC NN=>zC 24 [.slice V2 V3 V4,.slice Jo GC NN] tY fun I8 uO=>au I8 fun b46=>cond b46 (ae x3 fun a47=>zP uO (a47.add 0) fun p48=>ae p48 fun a49=>zI .i64 uO (a49.add 4) fun i50=>ae x4 fun a51=>zP uO (a51.add 0) fun p52=>ae p52 fun a53=>zI .i64 uO (a53.add 4) fun i54=>aM (i50=i54) (ae x3 fun Ox=>zP uO (Ox.add 0) fun p56=>ae p56 fun Oy=>zP uO (Oy.add 0) fun p58=>zC 25 [.pointer p58,.int .i64 0] uO fun v59 Eu=>aB v59 fun Ns Nt Nu=>zC 26 [.pointer x4] Eu fun Xn jZ=>aB Xn fun al5 al6 al7=>zC 12 [.slice Ns Nt Nu,.slice al5 al6 al7] jZ fun RP WZ=>au RP fun b67=>cond b67 (Kn ao aj aq x3 x4 x5 WZ) (Kr false WZ)) (Kr false uO)) (Kr false uO)) (Kr false tY)) (Kr false h)) (Kr false h)) (Kr false h)) (ae x4 fun a68=>zB h (a68.add 4) fun b69=>cond b69 (Kr false h) (ae x3 fun a70=>zI .u8 h (a70.add 5) fun i71=>ae x4 fun a72=>zI .u8 h (a72.add 5) fun i73=>aM (i71=i73) (ae x3 fun a74=>zT h (a74.add 6) fun s75=>ae x4 fun a76=>zT h (a76.add 6) fun s77=>aM (s75=s77) (ae x3 fun a78=>zP h (a78.add 0) fun p79=>ae p79 fun a80=>zS h (a80.add 1) fun al8 al9 ala=>ae x4 fun a82=>zP h (a82.add 0) fun p83=>ae p83 fun a84=>zS h (a84.add 1) fun Xa Xb Xc=>zC 23 [.slice al8 al9 ala,.slice Xa Xb Xc] h fun v86 EG=>au v86 fun b88=>cond b88 (ae x3 fun a89=>zP EG (a89.add 0) fun p90=>ae p90 fun a91=>zS EG (a91.add 2) fun VS VT VU=>ae x4 fun a93=>zP EG (a93.add 0) fun p94=>ae p94 fun Vo=>zS EG (Vo.add 2) fun alb alc ald=>zC 24 [.slice VS VT VU,.slice alb alc ald] EG fun v97 HS=>au v97 fun b99=>cond b99 (ae x3 fun Ge=>zP HS (Ge.add 0) fun ale=>ae ale fun Vp=>zI .i64 HS (Vp.add 4) fun i103=>ae x4 fun Vq=>zP HS (Vq.add 0) fun alf=>ae alf fun alg=>zI .i64 HS (alg.add 4) fun i107=>aM (i103=i107) (ae x3 fun alh=>zP HS (alh.add 0) fun ali=>ae ali fun Q9=>zP HS (Q9.add 0) fun alj=>zC 25 [.pointer alj,.int .i64 0] HS fun alk WY=>aB alk fun acw acx acy=>zC 26 [.pointer x4] WY fun Xf Rt=>aB Xf fun acz acA acB=>zC 12 [.slice acw acx acy,.slice acz acA acB] Rt fun Vr Qz=>au Vr fun alm=>cond alm (Kn ao aj aq x3 x4 x5 Qz) (Kr false Qz)) (Kr false HS)) (Kr false HS)) (Kr false EG)) (Kr false h)) (Kr false h)))) (Kr false h)) (Kr false h)) (Kr false h)
abbrev n18 (ao:OA) (aj aq:Nat) (x3 x4:OA) (x5:Int) (x6:Addr) (x7:Bool) (x8:Addr) (Kn Ke1:T5) (Ke0:T4) (Kr:T0) (h:H):Prop:=
 aA L5 (fun K4=>aA L9 (fun K5=>cond x7 (ae x4 fun NY=>zI .u8 h (NY.add 1) fun i134=>aM (i134=(1:Int)) (K5 ao aj aq x3 x4 x5 x6 x7 x8 true h) (K5 ao aj aq x3 x4 x5 x6 x7 x8 false h)) (K5 ao aj aq x3 x4 x5 x6 x7 x8 false h)) fun ao aj aq x3 x4 x5 x6 x7 x8 x83 h=>cond x83 (bJ h x6 fun t121=>zC 19 [.pointer x3,.agg ⟨aT t121⟩] h fun ac8 JA=>bJ JA x8 fun t124=>zC 20 [.pointer x4,.agg ⟨aT t124⟩] JA fun v125 aln=>K4 ao aj aq x3 x4 x5 aln) (cond x7 (bJ h x6 fun t127=>zC 21 [.pointer x3,.agg ⟨aT t127⟩] h fun abX A8=>bJ A8 x8 fun t130=>zC 22 [.pointer x4,.agg ⟨aT t130⟩] A8 fun v131 alo=>K4 ao aj aq x3 x4 x5 alo) (K4 ao aj aq x3 x4 x5 h))) fun ao aj aq x3 x4 x5 h=>n19 ao aj aq x3 x4 x5 Kn Ke1 Ke0 Kr h
abbrev n17 (ao:OA) (aj aq:Nat) (x3 x4:OA) (x5:Int) (x6:Addr) (x7:Bool) (x8:Addr) (x9:Bool) (Kn Ke1:T5) (Ke0:T4) (Kr:T0) (h:H):Prop:=
 aA L8 (fun K6=>cond x7 (cond x9 (bJ h x6 fun t135=>bJ h x8 fun t136=>zC 18 [.agg ⟨aT t135⟩,.agg ⟨aT t136⟩] h fun alp acC=>au alp fun alq=>cond alq (K6 ao aj aq x3 x4 x5 x6 x7 x8 acC) (Kr false acC)) (Kr false h)) (cond x9 (Kr false h) (bJ h x6 fun t140=>bJ h x8 fun t141=>zC 18 [.agg ⟨aT t140⟩,.agg ⟨aT t141⟩] h fun It AP=>au It fun alr=>cond alr (K6 ao aj aq x3 x4 x5 x6 x7 x8 AP) (Kr false AP)))) fun ao aj aq x3 x4 x5 x6 x7 x8 h=>n18 ao aj aq x3 x4 x5 x6 x7 x8 Kn Ke1 Ke0 Kr h
abbrev n16 (ao:OA) (aj aq:Nat) (x3 x4:OA) (x5:Int) (x6:Addr) (x7:Bool) (Kn Ke1:T5) (Ke0:T4) (Kr:T0) (h:H):Prop:=
 aA L7 (fun K7=>(0<=x5/\x5<(aj:Int))/\(ae ao fun a145=>bJ h (a145.add (Int.toNat x5*5)) fun t146=>zC 17 [.pointer x4,.agg ⟨aT t146⟩] h fun als acD=>ni als fun alu=>aG alu fun alv alw=>dT alv fun t152=>aG alw fun alx aly=>au alx fun alz=>cW aly (cond alz (aw acD ⟨[.int .u8 0,S [],.slice none 0 0,.bool false,S []]⟩ 45 fun a156 alA=>bc a156 [.int .u8 t152.k,S t152.n,.slice t152.b t152.l t152.c,.bool t152.z,S t152.t] 0 alA fun JB=>K7 ao aj aq x3 x4 x5 x6 x7 a156 true JB) (aw acD ⟨[.int .u8 0,S [],.slice none 0 0,.bool false,S []]⟩ 45 fun a159 Ra=>bc a159 [.int .u8 t152.k,S t152.n,.slice t152.b t152.l t152.c,.bool t152.z,S t152.t] 0 Ra fun alB=>K7 ao aj aq x3 x4 x5 x6 x7 a159 false alB)))) fun ao aj aq x3 x4 x5 x6 x7 x8 x9 h=>n17 ao aj aq x3 x4 x5 x6 x7 x8 x9 Kn Ke1 Ke0 Kr h
abbrev n15 (ao:OA) (aj aq:Nat) (x3 x4:OA) (x5:Int) (Kn Ke1:T5) (Ke0:T4) (Kr:T0) (h:H):Prop:=
 aA L6 (fun K8=>(0<=x5/\x5<(aj:Int))/\(ae ao fun a162=>bJ h (a162.add (Int.toNat x5*5)) fun t163=>zC 16 [.pointer x3,.agg ⟨aT t163⟩] h fun v164 Rb=>ni v164 fun alC=>aG alC fun alD alE=>dT alD fun t169=>aG alE fun alF alG=>au alF fun alH=>cW alG (cond alH (aw Rb ⟨[.int .u8 0,S [],.slice none 0 0,.bool false,S []]⟩ 45 fun a173 alI=>bc a173 [.int .u8 t169.k,S t169.n,.slice t169.b t169.l t169.c,.bool t169.z,S t169.t] 0 alI fun Xh=>K8 ao aj aq x3 x4 x5 a173 true Xh) (aw Rb ⟨[.int .u8 0,S [],.slice none 0 0,.bool false,S []]⟩ 45 fun acE alJ=>bc acE [.int .u8 t169.k,S t169.n,.slice t169.b t169.l t169.c,.bool t169.z,S t169.t] 0 alJ fun Jy=>K8 ao aj aq x3 x4 x5 acE false Jy)))) fun ao aj aq x3 x4 x5 x6 x7 h=>n16 ao aj aq x3 x4 x5 x6 x7 Kn Ke1 Ke0 Kr h
abbrev qJ (Kn Ke0:T4) (Kr:T0):T5->T5:=fun K2 ao aj aq x3 x4 x5 h=>aA L5 (fun K9=>aM (x5<(aj:Int)) (K9 ao aj aq x3 x4 x5 h) (Ke0 h)) fun ao aj aq x3 x4 x5 h=>aA L5 (fun K3=>n15 ao aj aq x3 x4 x5 K3 K3 Ke0 Kr h) fun ao aj aq x3 x4 x5 h=>bd .i64 (x5+(1:Int))/\(K2 ao aj aq x3 x4 (x5+(1:Int)) h)
abbrev qI (Kn Ke0:T4) (Kr:T0):Nat->T5:=LP L5 (qJ Kn Ke0 Kr)
variable (K:KV) (h:H)
abbrev asks (ao:OA) (aj aq:Nat) (K:KV) (h:H):Prop:=cF L0 (fun Kr=>aA L1 (fun Cf=>Cf ao aj aq h) fun ao aj aq h=>aA L1 (fun yw=>zC 6 [.slice ao aj aq] h fun alK Xl=>au alK fun alL=>cond alL (zC 11 [] Xl fun v203 acF=>au v203 fun alM=>cond alM (Kr true acF) (Kr false acF)) (aM ((aj:Int)>60) (zC 11 [] Xl fun v206 acG=>au v206 fun alN=>cond alN (Kr true acG) (Kr false acG)) (zC 11 [] Xl fun Xi Rx=>au Xi fun alO=>cond alO (yw ao aj aq Rx) (zC 11 [] Rx fun v212 Rw=>au v212 fun alP=>cond alP (Kr true Rw) (Kr false Rw))))) fun ao aj aq h=>aA L2 (fun xS=>zC 14 [] h fun Xj Xk=>kt Xj fun Ww=>xS ao aj aq Ww Xk) fun ao aj aq x3 h=>aA L3 (fun zb=>zC 15 [] h fun v194 Xg=>kt v194 fun alQ=>zb ao aj aq x3 alQ Xg) fun ao aj aq x3 x4 h=>aA L3 (fun re=>aZ Tryz.prog (dy .eql 31 (.tmp 24) (.const (.pointer none)) (.pointer x3) (.pointer none)) h fun alR Xm=>au alR fun alS=>cond alS (Kr false Xm) (ae x3 fun a182=>zP Xm (a182.add 0) fun alT=>aZ Tryz.prog (dy .eql 35 (.tmp 30) (.const (.pointer none)) (.pointer alT) (.pointer none)) Xm fun alU Ry=>au alU fun alV=>cond alV (Kr false Ry) (ae x3 fun alW=>zP Ry (alW.add 0) fun alX=>ae alX fun Wu=>zP Ry (Wu.add 0) fun Wv=>aZ Tryz.prog (dy .eql 38 (.tmp 40) (.const (.pointer none)) (.pointer Wv) (.pointer none)) Ry fun alY acH=>au alY fun alZ=>cond alZ (Kr false acH) (re ao aj aq x3 x4 acH)))) fun ao aj aq x3 x4 h=>aA L4 (fun K1=>aA L5 (fun lV=>lV ao aj aq x3 x4 0 h) fun ao aj aq x3 x4 x5 h=>iy L5 (qJ K1 K1 Kr) fun K2=>K2 ao aj aq x3 x4 x5 h) fun h=>n7 Kr Kr h) fun y2 h=>K (.bool y2) h
theorem ok (q:asks ao aj aq K h):zC 4 [.slice ao aj aq] h K:=
 cl Tryz.func4 q (fun p q=>sq (l:=L1) p q fun p q=>sq (l:=L1) p q fun p q=>sq (l:=L2) p q fun p q=>sq (l:=L3) p q fun p q=>sq (l:=L3) p q fun p q=>sc (l:=L4) q (fun q=>sq (l:=L5) p q fun p q=>bl (b:=0) (lp p q fun p q=>sq (l:=L5) p q fun p q=>sc (l:=L5) q (fun q=>bl (b:=1) (sq (l:=L6) p q fun p q=>sq (l:=L7) p q fun p q=>sq (l:=L8) p q fun p q=>sc (l:=L5) q (fun q=>sq (l:=L9) p q fun p q=>lf p q) fun p q=>lf p q)) fun p q=>lf p q)) fun p q=>lf p q) fun p q=>rt p q
end zm
namespace Xa2
abbrev L0:=[Zb 2]
variable (ao:OA) (aj aq:Nat)
variable (K:KV) (h:H)
abbrev asks:Prop:=cF L0 (fun Kr=>aM ((aj:Int)>200) (Kr true h) (zC 28 [.slice ao aj aq,.int .i64 400] h fun v1 h2=>aL .i64 v1 fun i3=>aM (i3>(400:Int)) (Kr true h2) (Kr false h2))) fun y2 h=>K (.bool y2) h
theorem ok (q:asks ao aj aq K h):zC 6 [.slice ao aj aq] h K:=
 cl Tryz.func6 q (fun p q=>lf p q) fun p q=>rt p q
end Xa2
namespace Xa3
abbrev L4:=[Zl 2,Zb 3]
abbrev L3:=[Zl 1,Zl 2]
abbrev L2:=[Zl 1]
abbrev L1:List Sl:=[]
abbrev L0:=[Zb 0]
variable (K:KV) (h:H)
abbrev asks:Prop:=cF L0 (fun Kr=>aA L1 (fun K4=>K4 h) fun h=>aA L2 (fun K3=>zC 30 [S [112]] h fun Kj uq=>dT Kj fun t37=>zC 31 [S [49]] uq fun Mz yq=>dT Mz fun t40=>zC 30 [S [98]] yq fun ZY I9=>dT ZY fun t43=>zC 31 [S [50]] I9 fun I8 uO=>dT I8 fun t46=>zC 30 [S [112]] uO fun UR DT=>dT UR fun t49=>zC 31 [S [51]] DT fun QP BV=>dT QP fun t52=>aw BV #[.int .u8 t37.k,S t37.n,.slice t37.b t37.l t37.c,.bool t37.z,S t37.t,.int .u8 t40.k,S t40.n,.slice t40.b t40.l t40.c,.bool t40.z,S t40.t,.int .u8 t43.k,S t43.n,.slice t43.b t43.l t43.c,.bool t43.z,S t43.t,.int .u8 t46.k,S t46.n,.slice t46.b t46.l t46.c,.bool t46.z,S t46.t,.int .u8 t49.k,S t49.n,.slice t49.b t49.l t49.c,.bool t49.z,S t49.t,.int .u8 t52.k,S t52.n,.slice t52.b t52.l t52.c,.bool t52.z,S t52.t] 45 fun a53 JU=>zC 8 [.slice (some a53) 6 6] JU fun v55 h56=>aB v55 fun NU NV NW=>K3 NU NV NW h56) fun bM bI bV h=>aA L3 (fun K2=>zC 30 [S [97]] h fun HP qs=>dT HP fun t20=>zC 31 [S [49]] qs fun v21 mB=>dT v21 fun t23=>zC 30 [S [97]] mB fun v24 iF=>dT v24 fun t26=>zC 31 [S [50]] iF fun zY lY=>dT zY fun t29=>aw lY #[.int .u8 t20.k,S t20.n,.slice t20.b t20.l t20.c,.bool t20.z,S t20.t,.int .u8 t23.k,S t23.n,.slice t23.b t23.l t23.c,.bool t23.z,S t23.t,.int .u8 t26.k,S t26.n,.slice t26.b t26.l t26.c,.bool t26.z,S t26.t,.int .u8 t29.k,S t29.n,.slice t29.b t29.l t29.c,.bool t29.z,S t29.t] 45 fun ES yh=>zC 8 [.slice (some ES) 4 4] yh fun B0 lW=>aB B0 fun xx xy yV=>K2 bM bI bV xx xy yV lW) fun bM bI bV dz dq dC h=>aA L4 (fun K1=>aM ((bI:Int)=2) ((0<=(0:Int)/\0<(bI:Int))/\(ae bM fun jB=>zS h ((jB.add (Int.toNat (0:Int)*6)).add 5) fun mN kZ lR=>aM ((kZ:Int)=2) ((0<=(1:Int)/\1<(bI:Int))/\(ae bM fun a12=>zS h ((a12.add (Int.toNat (1:Int)*6)).add 5) fun jK jv lg=>aM ((jv:Int)=1) ((0<=(1:Int)/\1<(bI:Int))/\(ae bM fun lE=>zS h ((lE.add (Int.toNat (1:Int)*6)).add 5) fun kH kX oz=>(0<=(0:Int)/\0<(kX:Int))/\(ae kH fun pv=>zT h ((pv.add (Int.toNat (0:Int)*6)).add 2) fun OB=>aM (OB=[98]) (K1 dz dq dC true h) (K1 dz dq dC false h)))) (K1 dz dq dC false h))) (K1 dz dq dC false h))) (K1 dz dq dC false h)) fun dz dq dC x3 h=>aw h #[.int .u8 3,S [112],.slice none 0 0,.bool false,S []] 45 fun a1 h2=>zC 8 [.slice (some a1) 1 1] h2 fun v3 h4=>aB v3 fun BL Aa F9=>cond x3 (aM ((dq:Int)=2) ((0<=(1:Int)/\1<(dq:Int))/\(ae dz fun a6=>zT h4 ((a6.add (Int.toNat (1:Int)*6)).add 2) fun s7=>aM (s7=[97]) (aM ((Aa:Int)=1) ((0<=(0:Int)/\0<(Aa:Int))/\(ae BL fun a8=>zT h4 ((a8.add (Int.toNat (0:Int)*6)).add 2) fun s9=>aM (s9=[112]) (Kr true h4) (Kr false h4))) (Kr false h4)) (Kr false h4))) (Kr false h4)) (Kr false h4)) fun y0 h=>K (.bool y0) h
theorem ok (q:asks K h):zC 11 [] h K:=
 cl Tryz.func11 q (fun p q=>sq p q fun p q=>sq p q fun p q=>sq p q fun p q=>sq p q fun p q=>lf p q) fun p q=>rt p q
end Xa3
namespace Xdn
abbrev L0:=[Zb 4]
variable (x0 x1:Tk)
variable (K:KV) (h:H)
abbrev asks:Prop:=cF L0 (fun Kr=>aw h ⟨aT x0⟩ 45 fun a1 h2=>aw h2 ⟨aT x1⟩ 45 fun a3 h4=>zI .u8 h4 (a1.add 0) fun i5=>zI .u8 h4 (a3.add 0) fun i6=>aM (i5=i6) (zT h4 (a1.add 1) fun s7=>zT h4 (a3.add 1) fun s8=>aM (s7=s8) (zB h4 (a1.add 3) fun b9=>cond b9 (zB h4 (a3.add 3) fun QC=>cond QC (zT h4 (a1.add 4) fun ve=>zT h4 (a3.add 4) fun jU=>aM (ve=jU) (zS h4 (a1.add 2) fun jK jv lg=>zS h4 (a3.add 2) fun xT xU xV=>zC 32 [.slice jK jv lg,.slice xT xU xV] h4 fun vd gZ=>au vd fun TI=>cond TI (Kr true gZ) (Kr false gZ)) (Kr false h4)) (Kr false h4)) (zB h4 (a3.add 3) fun S9=>cond S9 (Kr false h4) (zT h4 (a1.add 4) fun QR=>zT h4 (a3.add 4) fun s20=>aM (QR=s20) (zS h4 (a1.add 2) fun xz vA xA=>zS h4 (a3.add 2) fun lP iE lQ=>zC 32 [.slice xz vA xA,.slice lP iE lQ] h4 fun v23 mC=>au v23 fun b25=>cond b25 (Kr true mC) (Kr false mC)) (Kr false h4)))) (Kr false h4)) (Kr false h4)) fun y4 h=>K (.bool y4) h
theorem ok (q:asks x0 x1 K h):zC 18 [.agg ⟨aT x0⟩,.agg ⟨aT x1⟩] h K:=
 cl Tryz.func18 q (fun p q=>lf p q) fun p q=>rt p q
end Xdn
namespace Xa4
abbrev L0:=[Za 2]
variable (x0:List UInt8)
variable (K:KV) (h:H)
abbrev asks:Prop:=cF L0 (fun Kr=>aw h ⟨[.int .u8 0,S [],.slice none 0 0,.bool false,S []]⟩ 45 fun a1 h2=>bc a1 [.int .u8 2,S x0,.slice none 0 0,.bool false,S []] 0 h2 fun h3=>Kr a1 h3) fun y2 h=>bJ h y2 fun t4=>K (.agg ⟨aT t4⟩) h
theorem ok (q:asks x0 K h):zC 30 [S x0] h K:=
 cl Tryz.func30 q (fun p q=>lf p q) fun p q=>rt p q
end Xa4
namespace Xa5
abbrev L0:=[Za 2]
variable (x0:List UInt8)
variable (K:KV) (h:H)
abbrev asks:Prop:=cF L0 (fun Kr=>aw h ⟨[.int .u8 0,S [],.slice none 0 0,.bool false,S []]⟩ 45 fun a1 h2=>bc a1 [.int .u8 1,S [],.slice none 0 0,.bool false,S x0] 0 h2 fun h3=>Kr a1 h3) fun y2 h=>bJ h y2 fun t4=>K (.agg ⟨aT t4⟩) h
theorem ok (q:asks x0 K h):zC 31 [S x0] h K:=
 cl Tryz.func31 q (fun p q=>lf p q) fun p q=>rt p q
end Xa5
end Go.Proofs
