/- Own text. No condition. -/
import Derived.Test.YtijoifkjeamonaaGreatHc
import Derived.Test.YtijoifkjeamonaaGreatShR
import Derived.Test.YtijoifkjeamonaaGreatProg
namespace Go.Proofs
open Go Go.Sh
set_option linter.unusedVariables false
set_option maxRecDepth 100000
namespace Xdq
abbrev L0:=[Zp 0]
variable (K:KV) (h:H)
abbrev asks:Prop:=cF L0 (fun Kr=>aw h #[.int .u8 0,.int .u8 0,S [],.slice none 0 0,S [],.slice none 0 0,.int .i64 (-1),.slice none 0 0] 115 fun a1 h2=>aw h2 ⟨[.slice (some a1) 1 1]⟩ 118 fun a3 h4=>Kr (some a3) h4) fun y0 h=>K (.pointer y0) h
theorem ok (q:asks K h):zC 52 [] h K:=
 cl Tryz.func52 q (fun p q=>lf p q) fun p q=>rt p q
end Xdq
namespace Xdt
abbrev L0:=[Z6 4]
variable (x0:OA) (dh di:Int) (ov:List UInt8) (uI:OA) (uJ uK:Nat) (ox:List UInt8) (uL:OA) (uM uN:Nat)
variable (K:KV) (h:H)
abbrev asks:Prop:=cF L0 (fun Kr=>aw h ⟨[.int .u8 dh,.int .u8 di,S ov,.slice uI uJ uK,S ox,.slice uL uM uN]⟩ 70 fun a1 h2=>zI .u8 h2 (a1.add 0) fun i3=>aM (i3<(1:Int)) (Kr (-1) h2) (zI .u8 h2 (a1.add 0) fun i4=>aM (i4>(3:Int)) (Kr (-1) h2) (ae x0 fun a5=>zS h2 (a5.add 0) fun lO gV mM=>zI .u8 h2 (a1.add 0) fun i7=>zI .u8 h2 (a1.add 1) fun i8=>zT h2 (a1.add 2) fun s9=>zS h2 (a1.add 3) fun jf iD kY=>zT h2 (a1.add 4) fun ve=>zS h2 (a1.add 5) fun pB lS pC=>zC 126 [(.agg ⟨[.int .u8 i7,.int .u8 i8,S s9,.slice jf iD kY,S ve,.slice pB lS pC]⟩)] h2 fun mu dx=>kV mu fun l15=>aG l15 fun e16 l17=>aL .u8 e16 fun i18=>aG l17 fun Qn Qo=>aL .u8 Qn fun i21=>aG Qo fun Qp Qq=>gL Qp fun s24=>aG Qq fun e25 l26=>aB e25 fun Gv Gw Nq=>aG l26 fun e28 l29=>gL e28 fun UX=>aG l29 fun e31 l32=>aB e31 fun MD ME MF=>cW l32 (bG h2 dx/\(aw dx #[.int .u8 i18,.int .u8 i21,S s24,.slice Gv Gw Nq,S UX,.slice MD ME MF,.int .i64 (-1),.slice none 0 0] 115 fun O3 qi=>bG dx qi/\(aZ Tryz.prog (Builtin.append_ #[116,116] 116 ⟨[.slice lO gV mM,.slice (some O3) 1 1]⟩) qi fun Z4 lX=>aB Z4 fun Ja BK MB=>ae x0 fun VD=>bc (VD.add 0) [.slice Ja BK MB] 0 lX fun DW=>ae x0 fun VE=>zS DW (VE.add 0) fun QM Jk QN=>bd .i64 ((Jk:Int) - 1)/\(Kr ((Jk:Int) - 1) DW))))))) fun y4 h=>K (.int .i64 y4) h
theorem ok (q:asks x0 dh di ov uI uJ uK ox uL uM uN K h):zC 105 [.pointer x0,(.agg ⟨[.int .u8 dh,.int .u8 di,S ov,.slice uI uJ uK,S ox,.slice uL uM uN]⟩)] h K:=
 cl Tryz.func105 q (fun p q=>lf p q) fun p q=>rt p q
end Xdt
namespace Xdw
abbrev L0:=[Zb 8]
abbrev L1:=[Zp 0,Z6 1,Z6 2,Z6 3]
abbrev L4:=[Zp 0,Z6 1,Z6 2,Z6 3,Zb 11]
abbrev L3:=[Zp 0,Z6 1,Z6 2,Z6 3,Zb 9,Zb 10]
abbrev L2:=[Zp 0,Z6 1,Z6 2,Z6 3,Zb 9]
abbrev T0:=TK L0
variable (x0:OA) (x1 x2 x3:Int)
abbrev n8 (Kn Kr:T0) (h:H):Prop:=
 zC 135 [.pointer x0,.int .i64 x1,.int .i64 x2] h fun v1 h2=>aL .i64 v1 fun i3=>ae x0 fun a4=>zS h2 (a4.add 0) fun BL Aa F9=>(0<=x1/\x1<(Aa:Int))/\(ae BL fun a6=>zS h2 ((a6.add (Int.toNat x1*8)).add 7) fun yU Ab yt=>(0<=(0:Int)/\0<=i3/\i3<=(yt:Int))/\(aZ Tryz.prog (Builtin.append_ #[82,82] 82 ⟨[.slice none 0 0,(.slice (if yt=Int.toNat 0 then yU else Option.map (fun q=>q.add (Int.toNat (0:Int)*1)) yU) (Int.toNat i3 - Int.toNat 0) (yt - Int.toNat 0))]⟩) h2 fun v8 h9=>aB v8 fun jf iD kY=>aw h9 #[.int .i64 x3] 3 fun jC eL=>aZ Tryz.prog (Builtin.append_ #[82,82] 82 ⟨[.slice jf iD kY,.slice (some jC) 1 1]⟩) eL fun mu dx=>aB mu fun kH kX oz=>ae x0 fun pv=>zS dx (pv.add 0) fun qx oB qy=>(0<=x1/\x1<(oB:Int))/\(ae qx fun sJ=>zS dx ((sJ.add (Int.toNat x1*8)).add 7) fun qw pw pz=>(0<=i3/\i3<=(pw:Int)/\(pw:Int)<=(pz:Int))/\(aZ Tryz.prog (Builtin.append_ #[82,82] 82 ⟨[.slice kH kX oz,(.slice (if pz=Int.toNat i3 then qw else Option.map (fun q=>q.add (Int.toNat i3*1)) qw) (Int.toNat (pw:Int) - Int.toNat i3) (pz - Int.toNat i3))]⟩) dx fun v20 qt=>aB v20 fun lP iE lQ=>ae x0 fun a23=>zS qt (a23.add 0) fun F4 F5 My=>(0<=x1/\x1<(F5:Int))/\(ae F4 fun a25=>bc ((a25.add (Int.toNat x1*8)).add 7) [.slice lP iE lQ] 0 qt fun od=>ae x0 fun yp=>zS od (yp.add 0) fun Gx xP Jl=>(0<=x3/\x3<(xP:Int))/\(ae Gx fun Ow=>bc ((Ow.add (Int.toNat x3*8)).add 6) [.int .i64 x1] 0 od fun u3=>Kr true u3))))))
variable (K:KV) (h:H)
abbrev asks (x0:OA) (x1 x2 x3:Int) (K:KV) (h:H):Prop:=cF L0 (fun Kr=>aA L1 (fun K7=>K7 x0 x1 x2 x3 h) fun x0 x1 x2 x3 h=>aA L2 (fun K6=>zC 134 [.pointer x0,.int .i64 x1] h fun OM yf=>au OM fun b45=>cond b45 (K6 x0 x1 x2 x3 true yf) (K6 x0 x1 x2 x3 false yf)) fun x0 x1 x2 x3 x9 h=>aA L3 (fun K5=>zC 125 [.pointer x0,.int .i64 x3] h fun v40 yH=>au v40 fun Yp=>cond Yp (K5 x0 x1 x2 x3 x9 true yH) (K5 x0 x1 x2 x3 x9 false yH)) fun x0 x1 x2 x3 x9 bD h=>aA L1 (fun K4=>cond x9 (cond bD (aM (x3=(0:Int)) (Kr false h) (aM (x2=x3) (Kr false h) (K4 x0 x1 x2 x3 h))) (Kr false h)) (Kr false h)) fun x0 x1 x2 x3 h=>aA L4 (fun K3=>zC 164 [.pointer x0,.int .i64 x1,.int .i64 x3] h fun v37 Cd=>au v37 fun b39=>cond b39 (K3 x0 x1 x2 x3 true Cd) (K3 x0 x1 x2 x3 false Cd)) fun x0 x1 x2 x3 ck h=>aA L1 (fun K2=>cond ck (Kr false h) (zC 135 [.pointer x0,.int .i64 x1,.int .i64 x2] h fun zw qi=>aL .i64 zw fun i36=>aM (i36<(0:Int)) (Kr false qi) (K2 x0 x1 x2 x3 qi))) fun x0 x1 x2 x3 h=>aA L1 (fun K1=>zC 165 [.pointer x0,.int .i64 x3] h fun v31 EC=>au v31 fun U2=>cond U2 (K1 x0 x1 x2 x3 EC) (K1 x0 x1 x2 x3 EC)) fun x0 x1 x2 x3 h=>n8 x0 x1 x2 x3 Kr Kr h) fun y8 h=>K (.bool y8) h
theorem ok (q:asks x0 x1 x2 x3 K h):zC 104 [.pointer x0,.int .i64 x1,.int .i64 x2,.int .i64 x3] h K:=
 cl Tryz.func104 q (fun p q=>sq (l:=L1) p q fun p q=>sq (l:=L2) p q fun p q=>sq (l:=L3) p q fun p q=>sq (l:=L1) p q fun p q=>sq (l:=L4) p q fun p q=>sq (l:=L1) p q fun p q=>sq (l:=L1) p q fun p q=>lf p q) fun p q=>rt p q
end Xdw
namespace Xdy
abbrev L0:=[Zb 8]
abbrev L1:=[Zp 0,Z6 1,Z6 2,Zs 3]
abbrev L6:=[Zp 0,Z6 1,Z6 2,Zs 3,Z6 11,Zb 49]
abbrev L5:=[Zp 0,Z6 1,Z6 2,Zs 3,Z6 11]
abbrev L4:=[Zp 0,Z6 1,Z6 2,Zs 3,Z6 10,Zb 27]
abbrev L3:=[Zp 0,Z6 1,Z6 2,Zs 3,Z6 10]
abbrev L2:=[Zp 0,Z6 1,Z6 2,Zs 3,Zb 9]
abbrev T0:=TK L0
variable (x0:OA) (x1 x2:Int) (x3:List UInt8)
abbrev n8 (Kn Kr:T0) (h:H):Prop:=
 zC 105 [.pointer x0,(.agg ⟨[.int .u8 2,.int .u8 0,S [],.slice none 0 0,S x3,.slice none 0 0]⟩)] h fun v1 h2=>aL .i64 v1 fun i3=>zC 104 [.pointer x0,.int .i64 x1,.int .i64 x2,.int .i64 i3] h2 fun v4 h5=>au v4 fun b6=>cond b6 (Kr true h5) (Kr false h5)
variable (K:KV) (h:H)
abbrev asks (x0:OA) (x1 x2:Int) (x3:List UInt8) (K:KV) (h:H):Prop:=cF L0 (fun Kr=>aA L1 (fun lV=>lV x0 x1 x2 x3 h) fun x0 x1 x2 x3 h=>aA L2 (fun K9=>zC 134 [.pointer x0,.int .i64 x1] h fun v28 uW=>au v28 fun b30=>cond b30 (K9 x0 x1 x2 x3 true uW) (K9 x0 x1 x2 x3 false uW)) fun x0 x1 x2 x3 x9 h=>aA L1 (fun K8=>cond x9 (K8 x0 x1 x2 x3 h) (Kr false h)) fun x0 x1 x2 x3 h=>aA L3 (fun K7=>zC 135 [.pointer x0,.int .i64 x1,.int .i64 x2] h fun v25 od=>aL .i64 v25 fun i27=>K7 x0 x1 x2 x3 i27 od) fun x0 x1 x2 x3 bD h=>aA L3 (fun K6=>aM (bD<(0:Int)) (Kr false h) (K6 x0 x1 x2 x3 bD h)) fun x0 x1 x2 x3 bD h=>aA L3 (fun K5=>aM (x3=[]) (Kr true h) (K5 x0 x1 x2 x3 bD h)) fun x0 x1 x2 x3 bD h=>aA L1 (fun K1=>aA L4 (fun K4=>aM (bD>(0:Int)) (K4 x0 x1 x2 x3 bD true h) (K4 x0 x1 x2 x3 bD false h)) fun x0 x1 x2 x3 bD x27 h=>cond x27 (aA L5 (fun K3=>ae x0 fun jh=>zS h (jh.add 0) fun qz pA sS=>(0<=x1/\x1<(pA:Int))/\(ae qz fun a21=>zS h ((a21.add (Int.toNat x1*8)).add 7) fun lP iE lQ=>bd .i64 (bD - (1:Int))/\((0<=(bD - (1:Int))/\(bD - (1:Int))<(iE:Int))/\(ae lP fun a23=>zI .i64 h (a23.add (Int.toNat (bD - (1:Int))*1)) fun i24=>K3 x0 x1 x2 x3 i24 h)))) fun x0 x1 x2 x3 ck h=>aA L6 (fun K2=>ae x0 fun oF=>zS h (oF.add 0) fun hU hX hZ=>(0<=ck/\ck<(hX:Int))/\(ae hU fun nE=>zI .u8 h (((nE.add (Int.toNat ck*8)).add 0).add 0) fun i18=>aM (i18=(2:Int)) (K2 x0 x1 x2 x3 ck true h) (K2 x0 x1 x2 x3 ck false h))) fun x0 x1 x2 x3 ck x49 h=>cond x49 (ae x0 fun a7=>zS h (a7.add 0) fun rT rJ vq=>ae x0 fun a9=>zS h (a9.add 0) fun jf iD kY=>(0<=ck/\ck<(iD:Int))/\(ae jf fun jC=>zT h (((jC.add (Int.toNat ck*8)).add 0).add 4) fun jU=>((jU.length+x3.length:Nat):Int)<=9223372036854775807/\((0<=ck/\ck<(rJ:Int))/\(ae rT fun oE=>bc (((oE.add (Int.toNat ck*8)).add 0).add 4) [(S (jU++x3))] 0 h fun dx=>Kr true dx)))) (K1 x0 x1 x2 x3 h)) (K1 x0 x1 x2 x3 h)) fun x0 x1 x2 x3 h=>n8 x0 x1 x2 x3 Kr Kr h) fun y8 h=>K (.bool y8) h
theorem ok (q:asks x0 x1 x2 x3 K h):zC 60 [.pointer x0,.int .i64 x1,.int .i64 x2,S x3] h K:=
 cl Tryz.func60 q (fun p q=>sq (l:=L1) p q fun p q=>sq (l:=L2) p q fun p q=>sq (l:=L1) p q fun p q=>sq (l:=L3) p q fun p q=>sq (l:=L3) p q fun p q=>sq (l:=L3) p q fun p q=>sc (l:=L1) q (fun q=>sq (l:=L4) p q fun p q=>cn (i:=27) p q (fun p q=>sq (l:=L5) p q fun p q=>sq (l:=L6) p q fun p q=>lf p q) fun p q=>lf p q) fun p q=>lf p q) fun p q=>rt p q
end Xdy
namespace Ov
abbrev L0:=[Zl 4]
abbrev L5:=[Zl 6]
abbrev L6:=[Zp 0,Zl 6,Zl 7,Z6 8]
abbrev L4:=[Zp 0,Zl 6,Zl 7]
abbrev L3:=[Zp 0,Z6 1,Zl 6]
abbrev L1:=[Zp 0,Z6 1]
abbrev L2:=[Zp 0,Z6 1,Zb 5]
abbrev T0:=TK L0
abbrev T5:=TK L5
abbrev T6:=TK L6
variable (x0:OA) (x1:Int) (og:OA) (nG oJ:Nat)
abbrev n7 (Kn Kr:T0) (h:H):Prop:=
 Kr og nG oJ h
abbrev qJ (Kn Ke0:T5) (Kr:T0):T6->T6:=fun K2 x0 og nG oJ vX uc Ce x8 h=>aM (x8<(uc:Int)) ((ae x0 fun a1=>zS h (a1.add 0) fun lN kW oy=>(0<=x8/\x8<(uc:Int))/\(ae vX fun a3=>zI .i64 h (a3.add (Int.toNat x8*1)) fun i4=>(0<=i4/\i4<(kW:Int))/\(ae lN fun a5=>zI .u8 h ((((a5.add (Int.toNat i4*8)).add 0)).add 0) fun i6=>zI .u8 h ((((a5.add (Int.toNat i4*8)).add 0)).add 1) fun i7=>zT h ((((a5.add (Int.toNat i4*8)).add 0)).add 2) fun s8=>zS h ((((a5.add (Int.toNat i4*8)).add 0)).add 3) fun yu vU BP=>zT h ((((a5.add (Int.toNat i4*8)).add 0)).add 4) fun oY=>zS h ((((a5.add (Int.toNat i4*8)).add 0)).add 5) fun mN kZ lR=>zC 126 [(.agg ⟨[.int .u8 i6,.int .u8 i7,S s8,.slice yu vU BP,S oY,.slice mN kZ lR]⟩)] h fun v12 fI=>kV v12 fun Qm=>aG Qm fun e15 l16=>aL .u8 e15 fun i17=>aG l16 fun e18 l19=>aL .u8 e18 fun i20=>aG l19 fun e21 l22=>gL e21 fun VF=>aG l22 fun e24 l25=>aB e24 fun AQ AR AT=>aG l25 fun e27 l28=>gL e27 fun ZX=>aG l28 fun e30 l31=>aB e30 fun za xQ xR=>cW l31 (aw fI ⟨[.int .u8 0,.int .u8 0,S [],.slice none 0 0,S [],.slice none 0 0]⟩ 70 fun EF tY=>bc EF [.int .u8 i17,.int .u8 i20,S VF,.slice AQ AR AT,S ZX,.slice za xQ xR] 0 tY fun qi=>(0<=x8/\x8<(uc:Int))/\(ae vX fun Gy=>zI .i64 qi (Gy.add (Int.toNat x8*1)) fun i37=>zC 50 [.pointer x0,.int .i64 i37] qi fun Mz yq=>aB Mz fun VG VH VI=>bc (EF.add 5) [.slice VG VH VI] 0 yq fun yH=>zI .u8 yH (EF.add 0) fun i42=>zI .u8 yH (EF.add 1) fun i43=>zT yH (EF.add 2) fun s44=>zS yH (EF.add 3) fun ah2 ah3 ah4=>zT yH (EF.add 4) fun s46=>zS yH (EF.add 5) fun VJ VK VL=>aw yH #[.int .u8 i42,.int .u8 i43,S s44,.slice ah2 ah3 ah4,S s46,.slice VJ VK VL] 70 fun Nr QO=>aZ Tryz.prog (Builtin.append_ #[25,25] 25 ⟨[.slice og nG oJ,.slice (some Nr) 1 1]⟩) QO fun QP BV=>aB QP fun VM VN VO=>bd .i64 (x8+(1:Int))/\(K2 x0 VM VN VO vX uc Ce (x8+(1:Int)) BV))))))/\(ae x0 fun a53=>zS h (a53.add 0) fun ah5 ah6 s54c=>(0<=x8/\x8<(uc:Int))/\(ae vX fun Ox=>zI .i64 h (Ox.add (Int.toNat x8*1)) fun i56=>(0<=i56/\i56<(ah6:Int))/\(ae ah5 fun Oy=>zI .u8 h ((((Oy.add (Int.toNat i56*8)).add 0)).add 0) fun i58=>zI .u8 h ((((Oy.add (Int.toNat i56*8)).add 0)).add 1) fun i59=>zT h ((((Oy.add (Int.toNat i56*8)).add 0)).add 2) fun s60=>zS h ((((Oy.add (Int.toNat i56*8)).add 0)).add 3) fun Ns Nt Nu=>zT h ((((Oy.add (Int.toNat i56*8)).add 0)).add 4) fun s62=>zS h ((((Oy.add (Int.toNat i56*8)).add 0)).add 5) fun ah8 ah9 aha=>aw h ⟨[.int .u8 0,.int .u8 0,S [],.slice none 0 0,S [],.slice none 0 0]⟩ 70 fun SJ QQ=>bG h QQ/\(zC 126 [(.agg ⟨[.int .u8 i58,.int .u8 i59,S s60,.slice Ns Nt Nu,S s62,.slice ah8 ah9 aha]⟩)] QQ fun v66 h67=>kV v66 fun l68=>aG l68 fun e69 l70=>aL .u8 e69 fun i71=>aG l70 fun e72 l73=>aL .u8 e72 fun i74=>aG l73 fun e75 l76=>gL e75 fun s77=>aG l76 fun e78 l79=>aB e78 fun ahd ahe ahf=>aG l79 fun e81 l82=>gL e81 fun s83=>aG l82 fun e84 l85=>aB e84 fun VP VQ VR=>cW l85 (bc SJ [.int .u8 i71,.int .u8 i74,S s77,.slice ahd ahe ahf,S s83,.slice VP VQ VR] 0 h67 fun EG=>(0<=x8/\x8<(uc:Int))/\(ae vX fun a88=>zI .i64 EG (a88.add (Int.toNat x8*1)) fun i89=>zC 50 [.pointer x0,.int .i64 i89] EG fun v90 h91=>aB v90 fun VS VT VU=>bc (SJ.add 5) [.slice VS VT VU] 0 h91 fun Ik=>zI .u8 Ik (SJ.add 0) fun i94=>zI .u8 Ik (SJ.add 1) fun i95=>zT Ik (SJ.add 2) fun s96=>zS Ik (SJ.add 3) fun ahg ahh ahi=>zT Ik (SJ.add 4) fun s98=>zS Ik (SJ.add 5) fun VV VW aaA=>aw Ik #[.int .u8 i94,.int .u8 i95,S s96,.slice ahg ahh ahi,S s98,.slice VV VW aaA] 70 fun Ge Jd=>aZ Tryz.prog (Builtin.append_ #[25,25] 25 ⟨[.slice og nG oJ,.slice (some Ge) 1 1]⟩) Jd fun Nv vC=>aB Nv fun aaB aaC aaD=>bd .i64 (x8+(1:Int))/\(K2 x0 aaB aaC aaD vX uc Ce (x8+(1:Int)) vC)))))))) (Ke0 og nG oJ h)
abbrev qI (Kn Ke0:T5) (Kr:T0):Nat->T6:=LP L6 (qJ Kn Ke0 Kr)
variable (K:KV) (h:H)
abbrev asks (x0:OA) (x1:Int) (K:KV) (h:H):Prop:=cF L0 (fun Kr=>aA L1 (fun K8=>K8 x0 x1 h) fun x0 x1 h=>aA L2 (fun K7=>zC 125 [.pointer x0,.int .i64 x1] h fun v109 u9=>au v109 fun Kx=>cond Kx (K7 x0 x1 true u9) (K7 x0 x1 false u9)) fun x0 x1 x5 h=>aA L1 (fun K6=>cond x5 (K6 x0 x1 h) (Kr none 0 0 h)) fun x0 x1 h=>aA L3 (fun K5=>K5 x0 x1 none 0 0 h) fun x0 x1 og nG oJ h=>aA L4 (fun K4=>ae x0 fun a105=>zS h (a105.add 0) fun aaE aaF aps=>(0<=x1/\x1<(aaF:Int))/\(ae aaE fun a107=>zS h ((a107.add (Int.toNat x1*8)).add 7) fun wA wB wC=>K4 x0 og nG oJ wA wB wC h)) fun x0 og nG oJ vX uc Ce h=>aA L5 (fun K1=>aA L6 (fun K3=>K3 x0 og nG oJ vX uc Ce 0 h) fun x0 og nG oJ vX uc Ce x8 h=>iy L6 (qJ K1 K1 Kr) fun K2=>K2 x0 og nG oJ vX uc Ce x8 h) fun og nG oJ h=>n7 og nG oJ Kr Kr h) fun fE fF fG h=>K (.slice fE fF fG) h
theorem ok (q:asks x0 x1 K h):zC 50 [.pointer x0,.int .i64 x1] h K:=
 cl Tryz.func50 q (fun p q=>sq (l:=L1) p q fun p q=>sq (l:=L2) p q fun p q=>sq (l:=L1) p q fun p q=>sq (l:=L3) p q fun p q=>sq (l:=L4) p q fun p q=>sc (l:=L5) q (fun q=>sq (l:=L6) p q fun p q=>bl (b:=0) (lp p q fun p q=>lf p q)) fun p q=>lf p q) fun p q=>rt p q
end Ov
namespace Xdv
abbrev L0:=[Z6 4]
variable (x0:OA) (x1:Int)
variable (K:KV) (h:H)
abbrev asks:Prop:=cF L0 (fun Kr=>zC 125 [.pointer x0,.int .i64 x1] h fun v1 h2=>au v1 fun b3=>cond b3 (ae x0 fun a4=>zS h2 (a4.add 0) fun BL Aa F9=>(0<=x1/\x1<(Aa:Int))/\(ae BL fun a6=>zI .i64 h2 ((a6.add (Int.toNat x1*8)).add 6) fun i7=>Kr i7 h2)) (Kr (-1) h2)) fun y4 h=>K (.int .i64 y4) h
theorem ok (q:asks x0 x1 K h):zC 133 [.pointer x0,.int .i64 x1] h K:=
 cl Tryz.func133 q (fun p q=>lf p q) fun p q=>rt p q
end Xdv
namespace Xd3
abbrev L0:=[Za 2]
variable (cE cG:Int) (eu:List UInt8) (Nx:OA) (Ny Nz:Nat) (VX:List UInt8) (NA:OA) (NB NC:Nat)
variable (K:KV) (h:H)
abbrev asks:Prop:=cF L0 (fun Kr=>aw h ⟨[.int .u8 cE,.int .u8 cG,S eu,.slice Nx Ny Nz,S VX,.slice NA NB NC]⟩ 70 fun a1 h2=>aw h2 ⟨[.int .u8 0,.int .u8 0,S [],.slice none 0 0,S [],.slice none 0 0]⟩ 70 fun a3 h4=>zI .u8 h4 (a1.add 0) fun i5=>aM (i5=(1:Int)) (zS h4 (a1.add 3) fun lO gV mM=>aZ Tryz.prog (Builtin.append_ #[43,43] 43 ⟨[.slice none 0 0,.slice lO gV mM]⟩) h4 fun v7 h8=>aB v7 fun yu vU BP=>zI .u8 h8 (a1.add 0) fun i10=>zI .u8 h8 (a1.add 1) fun i11=>zT h8 (a1.add 2) fun jU=>bc a3 [.int .u8 i10,.int .u8 i11,S jU,.slice yu vU BP,S [],.slice none 0 0] 0 h8 fun fI=>Kr a3 fI) (zI .u8 h4 (a1.add 0) fun i14=>zT h4 (a1.add 4) fun Ex=>bc a3 [.int .u8 i14,.int .u8 0,S [],.slice none 0 0,S Ex,.slice none 0 0] 0 h4 fun gZ=>Kr a3 gZ)) fun y2 h=>zI .u8 h ((y2).add 0) fun i17=>zI .u8 h ((y2).add 1) fun i18=>zT h ((y2).add 2) fun QR=>zS h ((y2).add 3) fun qz pA sS=>zT h ((y2).add 4) fun s21=>zS h ((y2).add 5) fun lP iE lQ=>K (.agg ⟨[.int .u8 i17,.int .u8 i18,S QR,.slice qz pA sS,S s21,.slice lP iE lQ]⟩) h
theorem ok (q:asks cE cG eu Nx Ny Nz VX NA NB NC K h):zC 126 [(.agg ⟨[.int .u8 cE,.int .u8 cG,S eu,.slice Nx Ny Nz,S VX,.slice NA NB NC]⟩)] h K:=
 cl Tryz.func126 q (fun p q=>lf p q) fun p q=>rt p q
end Xd3
namespace Xdz
abbrev L0:=[Zb 4]
variable (x0:OA) (x1:Int)
variable (K:KV) (h:H)
abbrev asks:Prop:=cF L0 (fun Kr=>zC 125 [.pointer x0,.int .i64 x1] h fun v1 h2=>au v1 fun b3=>cond b3 (aM (x1=(0:Int)) (Kr true h2) (ae x0 fun a4=>zS h2 (a4.add 0) fun BL Aa F9=>(0<=x1/\x1<(Aa:Int))/\(ae BL fun a6=>zI .u8 h2 (((a6.add (Int.toNat x1*8)).add 0).add 0) fun i7=>aM (i7=(1:Int)) (Kr true h2) (Kr false h2)))) (Kr false h2)) fun y4 h=>K (.bool y4) h
theorem ok (q:asks x0 x1 K h):zC 134 [.pointer x0,.int .i64 x1] h K:=
 cl Tryz.func134 q (fun p q=>lf p q) fun p q=>rt p q
end Xdz
namespace Xd1
abbrev L0:=[Zb 4]
variable (x0:OA) (x1:Int)
variable (K:KV) (h:H)
abbrev asks:Prop:=cF L0 (fun Kr=>aM (x1 ≥ 0) (ae x0 fun a1=>zS h (a1.add 0) fun lN kW oy=>aM (x1<(kW:Int)) (Kr true h) (Kr false h)) (Kr false h)) fun y4 h=>K (.bool y4) h
theorem ok (q:asks x0 x1 K h):zC 125 [.pointer x0,.int .i64 x1] h K:=
 cl Tryz.func125 q (fun p q=>lf p q) fun p q=>rt p q
end Xd1
namespace Vj
abbrev L0:=[Zb 6]
abbrev L2:List Sl:=[]
abbrev L1:=[Zp 0,Z6 1,Z6 2]
abbrev T0:=TK L0
abbrev T2:=TK L2
abbrev T1:=TK L1
variable (x0:OA) (x1 x2:Int)
abbrev n3 (Kn Kr:T0) (h:H):Prop:=
 Kr false h
abbrev ND (Kn Ke0:T2) (Kr:T0):T1->T1:=fun K2 x0 x1 x2 h=>aM (x1 ≥ 0) (aM (x1=x2) (Kr true h) (ae x0 fun a1=>zS h (a1.add 0) fun lN kW oy=>(0<=x1/\x1<(kW:Int))/\(ae lN fun a3=>zI .i64 h ((a3.add (Int.toNat x1*8)).add 6) fun i4=>K2 x0 i4 x2 h))) (Ke0 h)
abbrev MX (Kn Ke0:T2) (Kr:T0):Nat->T1:=LP L1 (ND Kn Ke0 Kr)
variable (K:KV) (h:H)
abbrev asks (x0:OA) (x1 x2:Int) (K:KV) (h:H):Prop:=cF L0 (fun Kr=>aA L1 (fun K3=>K3 x0 x1 x2 h) fun x0 x1 x2 h=>aA L2 (fun K1=>iy L1 (ND K1 K1 Kr) fun K2=>K2 x0 x1 x2 h) fun h=>n3 Kr Kr h) fun y6 h=>K (.bool y6) h
theorem ok (q:asks x0 x1 x2 K h):zC 164 [.pointer x0,.int .i64 x1,.int .i64 x2] h K:=
 cl Tryz.func164 q (fun p q=>sq (l:=L1) p q fun p q=>sc (l:=L2) q (fun q=>bl (b:=0) (lp p q fun p q=>lf p q)) fun p q=>lf p q) fun p q=>rt p q
end Vj
namespace Vi
abbrev L0:=[Z6 6]
abbrev L3:List Sl:=[]
abbrev L4:=[Z6 2,Zl 7,Z6 8]
abbrev L2:=[Z6 2,Zl 7]
abbrev L1:=[Zp 0,Z6 1,Z6 2]
abbrev T0:=TK L0
abbrev T3:=TK L3
abbrev T4:=TK L4
variable (x0:OA) (x1 x2:Int)
abbrev n5 (Kn Kr:T0) (h:H):Prop:=
 Kr (-1) h
abbrev iq (Kn Ke0:T3) (Kr:T0):T4->T4:=fun K2 x2 vX uc Ce x8 h=>aM (x8<(uc:Int)) ((0<=x8/\x8<(uc:Int))/\(ae vX fun a1=>zI .i64 h (a1.add (Int.toNat x8*1)) fun i2=>aM (i2=x2) (Kr x8 h) (bd .i64 (x8+(1:Int))/\(K2 x2 vX uc Ce (x8+(1:Int)) h)))) (Ke0 h)
abbrev gz (Kn Ke0:T3) (Kr:T0):Nat->T4:=LP L4 (iq Kn Ke0 Kr)
variable (K:KV) (h:H)
abbrev asks (x0:OA) (x1 x2:Int) (K:KV) (h:H):Prop:=cF L0 (fun Kr=>aA L1 (fun K6=>K6 x0 x1 x2 h) fun x0 x1 x2 h=>aA L2 (fun K5=>ae x0 fun a3=>zS h (a3.add 0) fun oe oI uP=>(0<=x1/\x1<(oI:Int))/\(ae oe fun a5=>zS h ((a5.add (Int.toNat x1*8)).add 7) fun lO gV mM=>K5 x2 lO gV mM h)) fun x2 vX uc Ce h=>aA L2 (fun K4=>aM (x2=(-1:Int)) (Kr (uc:Int) h) (K4 x2 vX uc Ce h)) fun x2 vX uc Ce h=>aA L3 (fun K1=>aA L4 (fun K3=>K3 x2 vX uc Ce 0 h) fun x2 vX uc Ce x8 h=>iy L4 (iq K1 K1 Kr) fun K2=>K2 x2 vX uc Ce x8 h) fun h=>n5 Kr Kr h) fun y6 h=>K (.int .i64 y6) h
theorem ok (q:asks x0 x1 x2 K h):zC 135 [.pointer x0,.int .i64 x1,.int .i64 x2] h K:=
 cl Tryz.func135 q (fun p q=>sq (l:=L1) p q fun p q=>sq (l:=L2) p q fun p q=>sq (l:=L2) p q fun p q=>sc (l:=L3) q (fun q=>sq (l:=L4) p q fun p q=>bl (b:=0) (lp p q fun p q=>lf p q)) fun p q=>lf p q) fun p q=>rt p q
end Vi
namespace Xds
abbrev L2:=[Zp 0,Z6 1,Zb 5]
abbrev L1:=[Zp 0,Z6 1]
abbrev L0:=[Zb 4]
variable (x0:OA) (x1:Int)
variable (K:KV) (h:H)
abbrev asks (x0:OA) (x1:Int) (K:KV) (h:H):Prop:=cF L0 (fun Kr=>aA L1 (fun K2=>K2 x0 x1 h) fun x0 x1 h=>aA L2 (fun K1=>zC 125 [.pointer x0,.int .i64 x1] h fun zw qi=>au zw fun b36=>cond b36 (K1 x0 x1 true qi) (K1 x0 x1 false qi)) fun x0 x1 x5 h=>cond x5 (ae x0 fun a1=>zS h (a1.add 0) fun lN kW oy=>(0<=x1/\x1<(kW:Int))/\(ae lN fun a3=>zI .i64 h ((a3.add (Int.toNat x1*8)).add 6) fun i4=>aM (i4<(0:Int)) (Kr false h) (ae x0 fun a5=>zS h (a5.add 0) fun lO gV mM=>(0<=x1/\x1<(gV:Int))/\(ae lO fun a7=>zI .i64 h ((a7.add (Int.toNat x1*8)).add 6) fun i8=>zC 135 [.pointer x0,.int .i64 i8,.int .i64 x1] h fun v9 df=>aL .i64 v9 fun i11=>ae x0 fun a12=>zS df (a12.add 0) fun jK jv lg=>(0<=i8/\i8<(jv:Int))/\(ae jK fun lE=>zS df ((lE.add (Int.toNat i8*8)).add 7) fun kH kX oz=>(0<=(0:Int)/\0<=i11/\i11<=(oz:Int))/\(aZ Tryz.prog (Builtin.append_ #[82,82] 82 ⟨[.slice none 0 0,(.slice (if oz=Int.toNat 0 then kH else Option.map (fun q=>q.add (Int.toNat (0:Int)*1)) kH) (Int.toNat i11 - Int.toNat 0) (oz - Int.toNat 0))]⟩) df fun oD fh=>aB oD fun gC fw fT=>ae x0 fun jh=>zS fh (jh.add 0) fun qz pA sS=>(0<=i8/\i8<(pA:Int))/\(ae qz fun a21=>zS fh ((a21.add (Int.toNat i8*8)).add 7) fun lP iE lQ=>bd .i64 (i11+(1:Int))/\((0<=(i11+(1:Int))/\(i11+(1:Int))<=(iE:Int)/\(iE:Int)<=(lQ:Int))/\(aZ Tryz.prog (Builtin.append_ #[82,82] 82 ⟨[.slice gC fw fT,(.slice (if lQ=Int.toNat (i11+(1:Int)) then lP else Option.map (fun q=>q.add (Int.toNat (i11+(1:Int))*1)) lP) (Int.toNat (iE:Int) - Int.toNat (i11+(1:Int))) (lQ - Int.toNat (i11+(1:Int))))]⟩) fh fun v23 mC=>aB v23 fun NF NG NH=>ae x0 fun a26=>zS mC (a26.add 0) fun Gv Gw Nq=>(0<=i8/\i8<(Gw:Int))/\(ae Gv fun a28=>bc ((a28.add (Int.toNat i8*8)).add 7) [.slice NF NG NH] 0 mC fun uW=>ae x0 fun ES=>zS uW (ES.add 0) fun xw BJ yT=>(0<=x1/\x1<(BJ:Int))/\(ae xw fun tw=>bc ((tw.add (Int.toNat x1*8)).add 6) [.int .i64 (-1)] 0 uW fun lW=>Kr true lW))))))))))) (Kr false h)) fun y4 h=>K (.bool y4) h
theorem ok (q:asks x0 x1 K h):zC 165 [.pointer x0,.int .i64 x1] h K:=
 cl Tryz.func165 q (fun p q=>sq p q fun p q=>sq p q fun p q=>lf p q) fun p q=>rt p q
end Xds
namespace vh
abbrev L0:=[Z6 4]
abbrev L3:=[Z6 5]
abbrev L4:=[Zl 0,Z6 1,Z6 5,Z6 6]
abbrev L5:=[Zl 0,Z6 1,Z6 5,Z6 6,Z6 7]
abbrev L2:=[Zl 0,Z6 1,Z6 5]
abbrev L1:=[Zl 0,Z6 1]
abbrev T0:=TK L0
abbrev T4:=TK L4
abbrev T3:=TK L3
abbrev T5:=TK L5
variable (ao:OA) (aj aq:Nat) (x1 x5 x6:Int)
abbrev n4 (Kn Kr:T0) (h:H):Prop:=
 Kr x5 h
abbrev rZ (Kn:T4) (Ke0:T3) (Kr:T0) (h:H):Prop:=
 bd .i64 (x6+(1:Int))/\(Kn ao aj aq x1 x5 (x6+(1:Int)) h)
abbrev Ei (Kn qA Ke1:T4) (Ke0:T3) (Kr:T0):T5->T5:=fun K4 ao aj aq x1 x5 x6 x7 h=>(0<=x6/\x6<(aj:Int))/\(ae ao fun a1=>zS h ((a1.add (Int.toNat x6*5)).add 2) fun lN kW oy=>aM (x7<(kW:Int)) (aM (x5<=x1) ((0<=x6/\x6<(aj:Int))/\(ae ao fun a3=>zS h ((a3.add (Int.toNat x6*5)).add 2) fun oe oI uP=>(0<=x7/\x7<(oI:Int))/\(ae oe fun a5=>zT h ((a5.add (Int.toNat x7*2)).add 0) fun s6=>(8:Int)≠0/\(bd .i64 (Int.tdiv (s6.length:Int) 8)/\(bd .i64 (1+(Int.tdiv (s6.length:Int) 8))/\((0<=x6/\x6<(aj:Int))/\(ae ao fun a7=>zS h ((a7.add (Int.toNat x6*5)).add 2) fun rT rJ vq=>(0<=x7/\x7<(rJ:Int))/\(ae rT fun a9=>zT h ((a9.add (Int.toNat x7*2)).add 1) fun oY=>(8:Int)≠0/\(bd .i64 (Int.tdiv (oY.length:Int) 8)/\(bd .i64 ((1+(Int.tdiv (s6.length:Int) 8))+(Int.tdiv (oY.length:Int) 8))/\(bd .i64 (x5+((1+(Int.tdiv (s6.length:Int) 8))+(Int.tdiv (oY.length:Int) 8)))/\(bd .i64 (x7+(1:Int))/\(K4 ao aj aq x1 (x5+((1+(Int.tdiv (s6.length:Int) 8))+(Int.tdiv (oY.length:Int) 8))) x6 (x7+(1:Int)) h))))))))))))) (qA ao aj aq x1 x5 x6 h)) (qA ao aj aq x1 x5 x6 h))
abbrev G8 (Kn qA Ke1:T4) (Ke0:T3) (Kr:T0):Nat->T5:=LP L5 (Ei Kn qA Ke1 Ke0 Kr)
abbrev gR (Kn Ke0:T3) (Kr:T0):T4->T4:=fun K2 ao aj aq x1 x5 x6 h=>aA L4 (fun K7=>aM (x6<(aj:Int)) (aM (x5<=x1) (K7 ao aj aq x1 x5 x6 h) (Ke0 x5 h)) (Ke0 x5 h)) fun ao aj aq x1 x5 x6 h=>aA L4 (fun K3=>aA L4 (fun K6=>(0<=x6/\x6<(aj:Int))/\(ae ao fun jC=>zT h ((jC.add (Int.toNat x6*5)).add 4) fun jU=>(8:Int)≠0/\(bd .i64 (Int.tdiv (jU.length:Int) 8)/\(bd .i64 (1+(Int.tdiv (jU.length:Int) 8))/\((0<=x6/\x6<(aj:Int))/\(ae ao fun oE=>zT h ((oE.add (Int.toNat x6*5)).add 1) fun Cc=>(8:Int)≠0/\(bd .i64 (Int.tdiv (Cc.length:Int) 8)/\(bd .i64 ((1+(Int.tdiv (jU.length:Int) 8))+(Int.tdiv (Cc.length:Int) 8))/\(bd .i64 (x5+((1+(Int.tdiv (jU.length:Int) 8))+(Int.tdiv (Cc.length:Int) 8)))/\(K6 ao aj aq x1 (x5+((1+(Int.tdiv (jU.length:Int) 8))+(Int.tdiv (Cc.length:Int) 8))) x6 h)))))))))) fun ao aj aq x1 x5 x6 h=>aA L5 (fun K5=>K5 ao aj aq x1 x5 x6 0 h) fun ao aj aq x1 x5 x6 x7 h=>iy L5 (Ei K3 K3 K3 Ke0 Kr) fun K4=>K4 ao aj aq x1 x5 x6 x7 h) fun ao aj aq x1 x5 x6 h=>rZ ao aj aq x1 x5 x6 K2 Ke0 Kr h
abbrev ia (Kn Ke0:T3) (Kr:T0):Nat->T4:=LP L4 (gR Kn Ke0 Kr)
variable (K:KV) (h:H)
abbrev asks (ao:OA) (aj aq:Nat) (x1:Int) (K:KV) (h:H):Prop:=cF L0 (fun Kr=>aA L1 (fun lV=>lV ao aj aq x1 h) fun ao aj aq x1 h=>aA L2 (fun K9=>K9 ao aj aq x1 0 h) fun ao aj aq x1 x5 h=>aA L3 (fun K1=>aA L4 (fun K8=>K8 ao aj aq x1 x5 0 h) fun ao aj aq x1 x5 x6 h=>iy L4 (gR K1 K1 Kr) fun K2=>K2 ao aj aq x1 x5 x6 h) fun x5 h=>n4 x5 Kr Kr h) fun y4 h=>K (.int .i64 y4) h
theorem ok (q:asks ao aj aq x1 K h):zC 28 [.slice ao aj aq,.int .i64 x1] h K:=
 cl Tryz.func28 q (fun p q=>sq (l:=L1) p q fun p q=>sq (l:=L2) p q fun p q=>sc (l:=L3) q (fun q=>sq (l:=L4) p q fun p q=>bl (b:=0) (lp p q fun p q=>sq (l:=L4) p q fun p q=>sc (l:=L4) q (fun q=>bl (b:=1) (sq (l:=L4) p q fun p q=>sq (l:=L5) p q fun p q=>bl (b:=2) (lp p q fun p q=>lf p q))) fun p q=>lf p q)) fun p q=>lf p q) fun p q=>rt p q
end vh
namespace Xej
abbrev L2:List Sl:=[]
abbrev L3:=[Zl 0,Z6 3]
abbrev L0:=[Z6 2]
abbrev L1:=[Zl 0]
abbrev T2:=TK L2
abbrev T0:=TK L0
abbrev T3:=TK L3
variable (ao:OA) (aj aq:Nat)
abbrev bU (Kn Ke0:T2) (Kr:T0):T3->T3:=fun K2 ao aj aq x3 h=>aM (x3 ≥ 0) ((0<=x3/\x3<(aj:Int))/\(ae ao fun a1=>zI .i64 h ((a1.add (Int.toNat x3*3)).add 0) fun i2=>aM (i2<(0:Int)) (bd .i64 (x3+(1:Int))/\(Kr (x3+(1:Int)) h)) (bd .i64 (x3 - (1:Int))/\(K2 ao aj aq (x3 - (1:Int)) h)))) (Ke0 h)
abbrev cQ (Kn Ke0:T2) (Kr:T0):Nat->T3:=LP L3 (bU Kn Ke0 Kr)
variable (K:KV) (h:H)
abbrev asks (ao:OA) (aj aq:Nat) (K:KV) (h:H):Prop:=cF L0 (fun Kr=>aA L1 (fun K4=>K4 ao aj aq h) fun ao aj aq h=>aA L2 (fun K1=>aA L3 (fun K3=>bd .i64 ((aj:Int) - 1)/\(K3 ao aj aq ((aj:Int) - 1) h)) fun ao aj aq x3 h=>iy L3 (bU K1 K1 Kr) fun K2=>K2 ao aj aq x3 h) fun h=>Kr 0 h) fun y2 h=>K (.int .i64 y2) h
theorem ok (q:asks ao aj aq K h):zC 176 [.slice ao aj aq] h K:=
 cl Tryz.func176 q (fun p q=>sq (l:=L1) p q fun p q=>sc (l:=L2) q (fun q=>sq (l:=L3) p q fun p q=>bl (b:=0) (lp p q fun p q=>lf p q)) fun p q=>lf p q) fun p q=>rt p q
end Xej
namespace SH
abbrev L0:=[Zb 4]
abbrev L3:List Sl:=[]
abbrev L4:=[Za 2,Za 3,Z6 5]
abbrev L5:=[Za 2,Za 3,Z6 5,Zb 6]
abbrev L6:=[Za 2,Za 3,Z6 5,Zb 6,Z6 7]
abbrev L2:=[Za 2,Za 3]
abbrev T0:=TK L0
abbrev T3:=TK L3
abbrev T4:=TK L4
abbrev T5:=TK L5
abbrev T6:=TK L6
variable (cE:Int) (cG:List UInt8) (kN:OA) (kO kP:Nat) (dh:Int) (di:List UInt8) (eY:OA) (eZ fb:Nat)
abbrev SL (Kn qA:T5) (Ke1:T4) (Ke0:T3) (Kr:T0):T6->T6:=fun K5 x2 x3 x5 x6 x7 h=>zS h (x3.add 2) fun Z3 U1 s1c=>aM (x7<(U1:Int)) (cond x6 (bd .i64 (x7+(1:Int))/\(K5 x2 x3 x5 true (x7+(1:Int)) h)) (zS h (x2.add 2) fun lN kW oy=>(0<=x5/\x5<(kW:Int))/\(ae lN fun a3=>zT h (((a3.add (Int.toNat x5*2))).add 0) fun s4=>zT h (((a3.add (Int.toNat x5*2))).add 1) fun s5=>zS h (x3.add 2) fun lO gV mM=>(0<=x7/\x7<(gV:Int))/\(ae lO fun a7=>zT h (((a7.add (Int.toNat x7*2))).add 0) fun s8=>zT h (((a7.add (Int.toNat x7*2))).add 1) fun s9=>sK Tryz.prog (dy .eql 67 (.tmp 42) (.tmp 47) (.agg ⟨[S s4,S s5]⟩) (.agg ⟨[S s8,S s9]⟩)) h fun v10=>au v10 fun Zg=>cond Zg (bd .i64 (x7+(1:Int))/\(K5 x2 x3 x5 true (x7+(1:Int)) h)) (bd .i64 (x7+(1:Int))/\(K5 x2 x3 x5 false (x7+(1:Int)) h)))))) (qA x2 x3 x5 x6 h)
abbrev aav (Kn qA:T5) (Ke1:T4) (Ke0:T3) (Kr:T0):Nat->T6:=LP L6 (SL Kn qA Ke1 Ke0 Kr)
abbrev gR (Kn Ke0:T3) (Kr:T0):T4->T4:=fun K2 x2 x3 x5 h=>aA L4 (fun K8=>zS h (x2.add 2) fun pB lS pC=>aM (x5<(lS:Int)) (K8 x2 x3 x5 h) (Ke0 h)) fun x2 x3 x5 h=>aA L4 (fun K3=>aA L5 (fun K7=>K7 x2 x3 x5 false h) fun x2 x3 x5 x6 h=>aA L5 (fun K4=>aA L6 (fun K6=>K6 x2 x3 x5 x6 0 h) fun x2 x3 x5 x6 x7 h=>iy L6 (SL K4 K4 K3 Ke0 Kr) fun K5=>K5 x2 x3 x5 x6 x7 h) fun x2 x3 x5 x6 h=>cond x6 (K3 x2 x3 x5 h) (Kr false h)) fun x2 x3 x5 h=>bd .i64 (x5+(1:Int))/\(K2 x2 x3 (x5+(1:Int)) h)
abbrev ia (Kn Ke0:T3) (Kr:T0):Nat->T4:=LP L4 (gR Kn Ke0 Kr)
variable (K:KV) (h:H)
abbrev asks:Prop:=cF L0 (fun Kr=>aA L2 (fun re=>aw h ⟨[.int .i64 cE,S cG,.slice kN kO kP]⟩ 79 fun nE gI=>aw gI ⟨[.int .i64 dh,S di,.slice eY eZ fb]⟩ 79 fun jh gm=>re nE jh gm) fun x2 x3 h=>aA L2 (fun lV=>zT h (x2.add 1) fun RV=>zT h (x3.add 1) fun Cc=>aM (RV=Cc) (zS h (x2.add 2) fun kH kX oz=>zS h (x3.add 2) fun hU hX hZ=>aM ((kX:Int)=(hX:Int)) (lV x2 x3 h) (Kr false h)) (Kr false h)) fun x2 x3 h=>aA L3 (fun K1=>aA L4 (fun K9=>K9 x2 x3 0 h) fun x2 x3 x5 h=>iy L4 (gR K1 K1 Kr) fun K2=>K2 x2 x3 x5 h) fun h=>Kr true h) fun y4 h=>K (.bool y4) h
theorem ok (q:asks cE cG kN kO kP dh di eY eZ fb K h):zC 228 [(.agg ⟨[.int .i64 cE,S cG,.slice kN kO kP]⟩),(.agg ⟨[.int .i64 dh,S di,.slice eY eZ fb]⟩)] h K:=
 cl Tryz.func228 q (fun p q=>sq (l:=L2) p q fun p q=>sq (l:=L2) p q fun p q=>sc (l:=L3) q (fun q=>sq (l:=L4) p q fun p q=>bl (b:=0) (lp p q fun p q=>sq (l:=L4) p q fun p q=>sc (l:=L4) q (fun q=>bl (b:=1) (sq (l:=L5) p q fun p q=>sc (l:=L5) q (fun q=>sq (l:=L6) p q fun p q=>bl (b:=2) (lp p q fun p q=>lf p q)) fun p q=>lf p q)) fun p q=>lf p q)) fun p q=>lf p q) fun p q=>rt p q
end SH
namespace Jj
abbrev L0:=[Zl 4]
abbrev L6:=[Za 3,Zl 9]
abbrev L7:=[Zl 0,Za 3,Z6 5,Z6 6,Zl 9,Z6 10]
abbrev L8:=[Zl 0,Za 3,Z6 5,Z6 6,Zl 9,Z6 10,Zb 48]
abbrev L5:=[Zl 0,Za 3,Z6 5,Z6 6,Zl 9]
abbrev L4:=[Zl 0,Za 3,Z6 5,Z6 6]
abbrev L9:=[Zl 0,Za 3,Z6 5,Z6 6,Z6 7]
abbrev L3:=[Zl 0,Za 3,Z6 5]
abbrev L2:=[Zl 0,Za 3]
abbrev T0:=TK L0
abbrev T6:=TK L6
abbrev T7:=TK L7
abbrev T4:=TK L4
abbrev T9:=TK L9
variable (ao:OA) (aj aq:Nat) (dh:Int) (di:List UInt8) (eY:OA) (eZ fb:Nat) (x3:Addr) (x5 x6:Int) (nP:OA) (nQ oh:Nat) (bD:Int) (x48:Bool)
abbrev n7 (Kn Kr:T0) (h:H):Prop:=
 zI .i64 h (x3.add 0) fun i1=>zT h (x3.add 1) fun s2=>zS h (x3.add 2) fun Ai uX yv=>aw h #[.int .i64 i1,S s2,.slice Ai uX yv] 79 fun a4 h5=>aZ Tryz.prog (Builtin.append_ #[40,40] 40 ⟨[.slice nP nQ oh,.slice (some a4) 1 1]⟩) h5 fun v6 h7=>aB v6 fun rT rJ vq=>Kr rT rJ vq h7
abbrev n16 (Kn Ke3:T7) (qA:T6) (Kr:T0) (h:H):Prop:=
 cond x48 ((0<=bD/\bD<(aj:Int))/\(ae ao fun a9=>zI .i64 h (((a9.add (Int.toNat bD*3))).add 0) fun i10=>zT h (((a9.add (Int.toNat bD*3))).add 1) fun ve=>zS h (((a9.add (Int.toNat bD*3))).add 2) fun pB lS pC=>aw h #[.int .i64 i10,S ve,.slice pB lS pC] 79 fun oE dx=>aZ Tryz.prog (Builtin.append_ #[40,40] 40 ⟨[.slice nP nQ oh,.slice (some oE) 1 1]⟩) dx fun vd gZ=>aB vd fun qx oB qy=>Kn ao aj aq x3 x5 x6 qx oB qy bD gZ)) (Kn ao aj aq x3 x5 x6 nP nQ oh bD h)
abbrev qJ (Kn qA:T6) (Kr:T0):T7->T7:=fun K2 ao aj aq x3 x5 x6 nP nQ oh bD h=>aA L7 (fun K5=>aM (bD<(aj:Int)) (K5 ao aj aq x3 x5 x6 nP nQ oh bD h) (qA x3 nP nQ oh h)) fun ao aj aq x3 x5 x6 nP nQ oh bD h=>aA L7 (fun K3=>aA L8 (fun K4=>aM (x5<(3:Int)) (K4 ao aj aq x3 x5 x6 nP nQ oh bD true h) (aM (bD=x6) (K4 ao aj aq x3 x5 x6 nP nQ oh bD false h) (K4 ao aj aq x3 x5 x6 nP nQ oh bD true h))) fun ao aj aq x3 x5 x6 nP nQ oh bD x48 h=>n16 ao aj aq x3 x5 x6 nP nQ oh bD x48 K3 K3 qA Kr h) fun ao aj aq x3 x5 x6 nP nQ oh bD h=>bd .i64 (bD+(1:Int))/\(K2 ao aj aq x3 x5 x6 nP nQ oh (bD+(1:Int)) h)
abbrev qI (Kn qA:T6) (Kr:T0):Nat->T7:=LP L7 (qJ Kn qA Kr)
abbrev n5 (ao:OA) (aj aq:Nat) (x3:Addr) (x5 x6:Int) (Kn Kr:T0) (h:H):Prop:=
 aA L5 (fun K7=>K7 ao aj aq x3 x5 x6 none 0 0 h) fun ao aj aq x3 x5 x6 nP nQ oh h=>aA L6 (fun K1=>aA L7 (fun K6=>K6 ao aj aq x3 x5 x6 nP nQ oh 0 h) fun ao aj aq x3 x5 x6 nP nQ oh bD h=>iy L7 (qJ K1 K1 Kr) fun K2=>K2 ao aj aq x3 x5 x6 nP nQ oh bD h) fun x3 nP nQ oh h=>n7 x3 nP nQ oh Kn Kr h
abbrev zy (Kn Ke0:T4) (Kr:T0):T9->T9:=fun K9 ao aj aq x3 x5 x6 x7 h=>aA L9 (fun re=>aM (x7<(aj:Int)) (zI .i64 h (x3.add 0) fun i28=>aM (i28 ≥ 0) (re ao aj aq x3 x5 x6 x7 h) (Ke0 ao aj aq x3 x5 x6 h)) (Ke0 ao aj aq x3 x5 x6 h)) fun ao aj aq x3 x5 x6 x7 h=>aA L9 (fun lV=>zI .i64 h (x3.add 0) fun i18=>zT h (x3.add 1) fun QR=>zS h (x3.add 2) fun qz pA sS=>(0<=x7/\x7<(aj:Int))/\(ae ao fun a21=>zI .i64 h (((a21.add (Int.toNat x7*3))).add 0) fun i22=>zT h (((a21.add (Int.toNat x7*3))).add 1) fun VF=>zS h (((a21.add (Int.toNat x7*3))).add 2) fun F4 F5 My=>zC 228 [(.agg ⟨[.int .i64 i18,S QR,.slice qz pA sS]⟩),(.agg ⟨[.int .i64 i22,S VF,.slice F4 F5 My]⟩)] h fun v25 od=>au v25 fun b27=>cond b27 (bd .i64 (x5+(1:Int))/\(aM (x6<(0:Int)) (lV ao aj aq x3 (x5+(1:Int)) x7 x7 od) (lV ao aj aq x3 (x5+(1:Int)) x6 x7 od))) (lV ao aj aq x3 x5 x6 x7 od))) fun ao aj aq x3 x5 x6 x7 h=>bd .i64 (x7+(1:Int))/\(K9 ao aj aq x3 x5 x6 (x7+(1:Int)) h)
abbrev uy (Kn Ke0:T4) (Kr:T0):Nat->T9:=LP L9 (zy Kn Ke0 Kr)
variable (K:KV) (h:H)
abbrev asks (ao:OA) (aj aq:Nat) (dh:Int) (di:List UInt8) (eY:OA) (eZ fb:Nat) (K:KV) (h:H):Prop:=cF L0 (fun Kr=>aA L2 (fun Cf=>aw h ⟨[.int .i64 dh,S di,.slice eY eZ fb]⟩ 79 fun tw lW=>Cf ao aj aq tw lW) fun ao aj aq x3 h=>aA L3 (fun yw=>yw ao aj aq x3 0 h) fun ao aj aq x3 x5 h=>aA L4 (fun xS=>xS ao aj aq x3 x5 (-1) h) fun ao aj aq x3 x5 x6 h=>aA L4 (fun K8=>aA L9 (fun zb=>zC 176 [.slice ao aj aq] h fun Od u3=>aL .i64 Od fun i31=>zb ao aj aq x3 x5 x6 i31 u3) fun ao aj aq x3 x5 x6 x7 h=>iy L9 (zy K8 K8 Kr) fun K9=>K9 ao aj aq x3 x5 x6 x7 h) fun ao aj aq x3 x5 x6 h=>n5 ao aj aq x3 x5 x6 Kr Kr h) fun fE fF fG h=>K (.slice fE fF fG) h
theorem ok (q:asks ao aj aq dh di eY eZ fb K h):zC 207 [.slice ao aj aq,(.agg ⟨[.int .i64 dh,S di,.slice eY eZ fb]⟩)] h K:=
 cl Tryz.func207 q (fun p q=>sq (l:=L2) p q fun p q=>sq (l:=L3) p q fun p q=>sq (l:=L4) p q fun p q=>sc (l:=L4) q (fun q=>sq (l:=L9) p q fun p q=>bl (b:=0) (lp p q fun p q=>sq (l:=L9) p q fun p q=>sq (l:=L9) p q fun p q=>lf p q)) fun p q=>sq (l:=L5) p q fun p q=>sc (l:=L6) q (fun q=>sq (l:=L7) p q fun p q=>bl (b:=2) (lp p q fun p q=>sq (l:=L7) p q fun p q=>sc (l:=L7) q (fun q=>bl (b:=3) (sq (l:=L8) p q fun p q=>lf p q)) fun p q=>lf p q)) fun p q=>lf p q) fun p q=>rt p q
end Jj
namespace Xba
abbrev L0:=[Za 4]
abbrev L3:=[Za 3,Za 4,Zr 8]
abbrev L2:=[Zl 0,Za 3,Za 4]
abbrev asks (ao:OA) (aj aq:Nat) (bM:OA) (bI bV:Nat) (K:KV) (h:H):Prop:=nF L0 (fun Kr=>nF L2 (fun K3=>aw h #[.slice bM bI bV] 39 fun nE gI=>aw gI #[.int .i64 0] 3 fun jh gm=>K3 ao aj aq nE jh [] gm) fun ao aj aq x3 x4 ds h=>nF L0 (fun K1=>nF L3 (fun K2=>zC 136 [.slice ao aj aq] h fun vd gZ=>K2 x3 x4 vd ds gZ) fun x3 x4 x8 ds h=>Oo Tryz.prog x8 2 [.o 9 (.i .i64),.g 10 [.i .i64,.s,.l]] h (fun p9 sU sV Gz GA GB Mid Kc Fin h1=>aw h1 ⟨[.int .i64 0,S [],.slice none 0 0]⟩ 79 fun a2 h3=>bc a2 [.int .i64 sU,S sV,.slice Gz GA GB] 0 h3 fun h4=>Mid h4 fun gN=>zI .i64 gN (a2.add 0) fun i6=>aM (i6<(0:Int)) (bd .i64 (p9+(1:Int))/\(bc x4 [.int .i64 (p9+(1:Int))] 0 gN fun h7=>Fin gN h7 fun h8=>Kr x4 (cu h.size::ds) h8)) (zS gN x3 fun yu vU BP=>zC 137 [.slice yu vU BP,(.func (.func 138) ⟨[]⟩ ⟨[.pointer (some a2)]⟩)] gN fun v10 eG=>au v10 fun QS=>cond QS (bd .i64 (p9+(1:Int))/\(bc x4 [.int .i64 (p9+(1:Int))] 0 eG fun fI=>Fin gN fI fun dx=>Kr x4 (cu h.size::ds) dx)) (Kc gN eG))) (fun h4=>K1 x4 (cu h.size::ds) h4)) fun x4 ds h=>bc x4 [.int .i64 0] 0 h fun h1=>Kr x4 ds h1) fun y4 ds h=>dE ds h fun h=>zI .i64 h y4 fun i21=>K (.int .i64 i21) h
theorem ok (ao:OA) (aj aq:Nat) (bM:OA) (bI bV:Nat) (K:KV) (h:H) (hS:asks ao aj aq bM bI bV K h):zC 62 [.slice ao aj aq,.slice bM bI bV] h K:=
 Qe Tryz.func62 hS (fun hg hS=>BG (l:=L2) hg hS fun hg hS=>Ss (l:=L0) hS (fun hS=>BG (l:=L3) hg hS fun hg hS=>bl (b:=0) (Qf (.tmp 8) #[9,10] hg hS)) fun hg hS=>Qg hg hS) fun hg hS=>Qh hg hS
end Xba
namespace JO
abbrev L0:=[Z6 4]
abbrev L2:List Sl:=[]
abbrev L3:=[Zl 0,Zl 1,Z6 5]
abbrev L4:=[Zl 0,Zl 1,Z6 5,Zb 6]
abbrev L5:=[Zl 0,Zl 1,Z6 5,Zb 6,Z6 7]
abbrev L1:=[Zl 0,Zl 1]
abbrev T0:=TK L0
abbrev T2:=TK L2
abbrev T3:=TK L3
abbrev T4:=TK L4
abbrev T5:=TK L5
variable (ao:OA) (aj aq:Nat) (bM:OA) (bI bV:Nat) (x5:Int) (x6:Bool)
abbrev n9 (Kn:T3) (Ke0:T2) (Kr:T0) (h:H):Prop:=
 bd .i64 (x5 - (1:Int))/\(Kn ao aj aq bM bI bV (x5 - (1:Int)) h)
abbrev SM (Kn qA:T4) (Ke1:T3) (Ke0:T2) (Kr:T0):T5->T5:=fun K5 ao aj aq bM bI bV x5 x6 x7 h=>aM (x7<(bI:Int)) (cond x6 (bd .i64 (x7+(1:Int))/\(K5 ao aj aq bM bI bV x5 true (x7+(1:Int)) h)) ((0<=x7/\x7<(bI:Int))/\(ae bM fun a1=>zI .i64 h ((a1.add (Int.toNat x7*4)).add 0) fun i2=>(0<=x5/\x5<(aj:Int))/\(ae ao fun a3=>zI .i64 h ((a3.add (Int.toNat x5*3)).add 0) fun i4=>aM (i2=i4) (bd .i64 (x7+(1:Int))/\(K5 ao aj aq bM bI bV x5 true (x7+(1:Int)) h)) (bd .i64 (x7+(1:Int))/\(K5 ao aj aq bM bI bV x5 false (x7+(1:Int)) h)))))) (qA ao aj aq bM bI bV x5 x6 h)
abbrev aaw (Kn qA:T4) (Ke1:T3) (Ke0:T2) (Kr:T0):Nat->T5:=LP L5 (SM Kn qA Ke1 Ke0 Kr)
abbrev ui (ao:OA) (aj aq:Nat) (bM:OA) (bI bV:Nat) (x5:Int) (x6:Bool) (Kn Ke1:T3) (Ke0:T2) (Kr:T0) (h:H):Prop:=
 aA L4 (fun K4=>aA L5 (fun K6=>K6 ao aj aq bM bI bV x5 x6 0 h) fun ao aj aq bM bI bV x5 x6 x7 h=>iy L5 (SM K4 K4 Ke1 Ke0 Kr) fun K5=>K5 ao aj aq bM bI bV x5 x6 x7 h) fun ao aj aq bM bI bV x5 x6 h=>cond x6 (bd .i64 (x5+(1:Int))/\(Kr (x5+(1:Int)) h)) (Kn ao aj aq bM bI bV x5 h)
abbrev bU (Kn Ke0:T2) (Kr:T0):T3->T3:=fun K2 ao aj aq bM bI bV x5 h=>aA L3 (fun K8=>aM (x5 ≥ 0) (K8 ao aj aq bM bI bV x5 h) (Ke0 h)) fun ao aj aq bM bI bV x5 h=>aA L3 (fun K3=>aA L4 (fun K7=>(0<=x5/\x5<(aj:Int))/\(ae ao fun a5=>zI .i64 h ((a5.add (Int.toNat x5*3)).add 0) fun i6=>aM (i6<(0:Int)) (K7 ao aj aq bM bI bV x5 true h) (K7 ao aj aq bM bI bV x5 false h))) fun ao aj aq bM bI bV x5 x6 h=>ui ao aj aq bM bI bV x5 x6 K3 K3 Ke0 Kr h) fun ao aj aq bM bI bV x5 h=>n9 ao aj aq bM bI bV x5 K2 Ke0 Kr h
abbrev cQ (Kn Ke0:T2) (Kr:T0):Nat->T3:=LP L3 (bU Kn Ke0 Kr)
variable (K:KV) (h:H)
abbrev asks (ao:OA) (aj aq:Nat) (bM:OA) (bI bV:Nat) (K:KV) (h:H):Prop:=cF L0 (fun Kr=>aA L1 (fun lV=>lV ao aj aq bM bI bV h) fun ao aj aq bM bI bV h=>aA L2 (fun K1=>aA L3 (fun K9=>bd .i64 ((aj:Int) - 1)/\(K9 ao aj aq bM bI bV ((aj:Int) - 1) h)) fun ao aj aq bM bI bV x5 h=>iy L3 (bU K1 K1 Kr) fun K2=>K2 ao aj aq bM bI bV x5 h) fun h=>Kr 0 h) fun y4 h=>K (.int .i64 y4) h
theorem ok (q:asks ao aj aq bM bI bV K h):zC 102 [.slice ao aj aq,.slice bM bI bV] h K:=
 cl Tryz.func102 q (fun p q=>sq (l:=L1) p q fun p q=>sc (l:=L2) q (fun q=>sq (l:=L3) p q fun p q=>bl (b:=0) (lp p q fun p q=>sq (l:=L3) p q fun p q=>sc (l:=L3) q (fun q=>bl (b:=1) (sq (l:=L4) p q fun p q=>sc (l:=L4) q (fun q=>sq (l:=L5) p q fun p q=>bl (b:=2) (lp p q fun p q=>lf p q)) fun p q=>lf p q)) fun p q=>lf p q)) fun p q=>lf p q) fun p q=>rt p q
end JO
namespace Xfu
abbrev L0:=[Zr 2]
variable (ao:OA) (aj aq:Nat)
variable (K:KV) (h:H)
abbrev asks:Prop:=cF L0 (fun Kr=>aw h #[.slice ao aj aq] 40 fun a1 h2=>Kr (.func (.func 182) ⟨[]⟩ ⟨[.pointer (some a1)]⟩) h2) fun y2 h=>K y2 h
theorem ok (q:asks ao aj aq K h):zC 136 [.slice ao aj aq] h K:=
 cl Tryz.func136 q (fun p q=>lf p q) fun p q=>rt p q
end Xfu
namespace Xf0
abbrev L0:=[Zb 4]
variable (ao:OA) (aj aq:Nat) (x1:Value)
variable (K:KV) (h:H)
abbrev asks:Prop:=cF L0 (fun Kr=>zC 183 [.slice ao aj aq,x1] h fun v1 h2=>aL .i64 v1 fun i3=>aM (i3 ≥ 0) (Kr true h2) (Kr false h2)) fun y4 h=>K (.bool y4) h
theorem ok (q:asks ao aj aq x1 K h):zC 137 [.slice ao aj aq,x1] h K:=
 cl Tryz.func137 q (fun p q=>lf p q) fun p q=>rt p q
end Xf0
namespace Xbb
abbrev L0:=[Zb 3]
variable (cE cG:Int) (eu:List UInt8) (eP:Int) (x1:Addr)
variable (K:KV) (h:H)
abbrev asks:Prop:=cF L0 (fun Kr=>aw h ⟨[.int .i64 cE,.int .u8 cG,S eu,.int .u8 eP]⟩ 77 fun a1 h2=>zI .i64 h2 (a1.add 0) fun i3=>zI .i64 h2 (x1.add 0) fun i4=>aM (i3=i4) (Kr true h2) (Kr false h2)) fun y3 h=>K (.bool y3) h
theorem ok (q:asks cE cG eu eP x1 K h):zC 138 [(.agg ⟨[.int .i64 cE,.int .u8 cG,S eu,.int .u8 eP]⟩),.pointer (some x1)] h K:=
 cl Tryz.func138 q (fun p q=>lf p q) fun p q=>rt p q
end Xbb
namespace Xfs
abbrev L2:=[Zr 0,Za 1,Z6 3]
abbrev L0:List Sl:=[]
abbrev T0:=TK L0
abbrev T2:=TK L2
variable (x0:Value) (x1:Addr)
abbrev rK (Kn Ke0 Kr:T0):T2->T2:=fun K1 x0 x1 x3 h=>aM (x3 ≥ 0) (zS h x1 fun Z3 U1 s1c=>(0<=x3/\x3<(U1:Int))/\(ae Z3 fun a2=>zI .i64 h (((a2.add (Int.toNat x3*3))).add 0) fun i3=>zT h (((a2.add (Int.toNat x3*3))).add 1) fun s4=>zS h (((a2.add (Int.toNat x3*3))).add 2) fun BL Aa F9=>fQ Tryz.prog 4 x0 ⟨[.int .i64 x3,(.agg ⟨[.int .i64 i3,S s4,.slice BL Aa F9]⟩)]⟩ h fun v6 h7=>au v6 fun b8=>cond b8 (bd .i64 (x3 - (1:Int))/\(K1 x0 x1 (x3 - (1:Int)) h7)) (Kr h7))) (Ke0 h)
abbrev tX (Kn Ke0 Kr:T0):Nat->T2:=LP L2 (rK Kn Ke0 Kr)
variable (K:KV) (h:H)
abbrev asks (x0:Value) (x1:Addr) (K:KV) (h:H):Prop:=cF L0 (fun Kr=>aA L2 (fun K2=>zS h x1 fun yu vU BP=>bd .i64 ((vU:Int) - 1)/\(K2 x0 x1 ((vU:Int) - 1) h)) fun x0 x1 x3 h=>iy L2 (rK Kr Kr Kr) fun K1=>K1 x0 x1 x3 h) fun h=>K (.tuple ⟨[]⟩) h
theorem ok (q:asks x0 x1 K h):zC 182 [x0,.pointer (some x1)] h K:=
 cl Tryz.func182 q (fun p q=>sq (l:=L2) p q fun p q=>bl (b:=0) (lp p q fun p q=>lf p q)) fun p q=>rt p q
end Xfs
namespace Xfx
abbrev L0:=[Zl 2]
variable (ao:OA) (aj aq:Nat)
variable (K:KV) (h:H)
abbrev asks:Prop:=cF L0 (fun Kr=>aZ Tryz.prog (dy .eql 40 (.tmp 3) (.const (.slice none 0 0)) (.slice ao aj aq) (.slice none 0 0)) h fun v1 h2=>au v1 fun b3=>cond b3 (Kr none 0 0 h2) (aw h2 #[] 79 fun a4 h5=>aZ Tryz.prog (Builtin.append_ #[40,40] 40 ⟨[.slice (some a4) 0 0,.slice ao aj aq]⟩) h5 fun v6 h7=>aB v6 fun rT rJ vq=>Kr rT rJ vq h7)) fun qj qk ql h=>K (.slice qj qk ql) h
theorem ok (q:asks ao aj aq K h):zC 63 [.slice ao aj aq] h K:=
 cl Tryz.func63 q (fun p q=>lf p q) fun p q=>rt p q
end Xfx
namespace Xdk
abbrev L2:List Sl:=[]
abbrev L3:=[Zl 0,Zl 1,Z6 5]
abbrev L0:=[Zb 4]
abbrev L1:=[Zl 0,Zl 1]
abbrev T2:=TK L2
abbrev T0:=TK L0
abbrev T3:=TK L3
variable (ao:OA) (aj aq:Nat) (bM:OA) (bI bV:Nat)
abbrev gR (Kn Ke0:T2) (Kr:T0):T3->T3:=fun K2 ao aj aq bM bI bV x5 h=>aM (x5<(aj:Int)) ((0<=x5/\x5<(aj:Int))/\(ae ao fun a1=>zI .i64 h ((a1.add (Int.toNat x5*3)).add 0) fun i2=>(0<=x5/\x5<(bI:Int))/\(ae bM fun a3=>zI .i64 h ((a3.add (Int.toNat x5*3)).add 0) fun i4=>aM (i2=i4) ((0<=x5/\x5<(aj:Int))/\(ae ao fun a5=>zT h ((a5.add (Int.toNat x5*3)).add 1) fun s6=>(0<=x5/\x5<(bI:Int))/\(ae bM fun a7=>zT h ((a7.add (Int.toNat x5*3)).add 1) fun s8=>aM (s6=s8) ((0<=x5/\x5<(aj:Int))/\(ae ao fun a9=>zS h ((a9.add (Int.toNat x5*3)).add 2) fun jf iD kY=>(0<=x5/\x5<(bI:Int))/\(ae bM fun jC=>zS h ((jC.add (Int.toNat x5*3)).add 2) fun pB lS pC=>zC 32 [.slice jf iD kY,.slice pB lS pC] h fun mu dx=>au mu fun Jm=>cond Jm (bd .i64 (x5+(1:Int))/\(K2 ao aj aq bM bI bV (x5+(1:Int)) dx)) (Kr false dx)))) (Kr false h)))) (Kr false h)))) (Ke0 h)
abbrev ia (Kn Ke0:T2) (Kr:T0):Nat->T3:=LP L3 (gR Kn Ke0 Kr)
variable (K:KV) (h:H)
abbrev asks (ao:OA) (aj aq:Nat) (bM:OA) (bI bV:Nat) (K:KV) (h:H):Prop:=cF L0 (fun Kr=>aA L1 (fun K5=>K5 ao aj aq bM bI bV h) fun ao aj aq bM bI bV h=>aA L1 (fun K4=>aM ((aj:Int)=(bI:Int)) (K4 ao aj aq bM bI bV h) (Kr false h)) fun ao aj aq bM bI bV h=>aA L2 (fun K1=>aA L3 (fun K3=>K3 ao aj aq bM bI bV 0 h) fun ao aj aq bM bI bV x5 h=>iy L3 (gR K1 K1 Kr) fun K2=>K2 ao aj aq bM bI bV x5 h) fun h=>Kr true h) fun y4 h=>K (.bool y4) h
theorem ok (q:asks ao aj aq bM bI bV K h):zC 24 [.slice ao aj aq,.slice bM bI bV] h K:=
 cl Tryz.func24 q (fun p q=>sq (l:=L1) p q fun p q=>sq (l:=L1) p q fun p q=>sc (l:=L2) q (fun q=>sq (l:=L3) p q fun p q=>bl (b:=0) (lp p q fun p q=>lf p q)) fun p q=>lf p q) fun p q=>rt p q
end Xdk
namespace Xdm
abbrev L2:List Sl:=[]
abbrev L3:=[Zl 0,Zl 1,Z6 5]
abbrev L0:=[Zb 4]
abbrev L1:=[Zl 0,Zl 1]
abbrev T2:=TK L2
abbrev T0:=TK L0
abbrev T3:=TK L3
variable (ao:OA) (aj aq:Nat) (bM:OA) (bI bV:Nat)
abbrev gR (Kn Ke0:T2) (Kr:T0):T3->T3:=fun K2 ao aj aq bM bI bV x5 h=>aM (x5<(aj:Int)) ((0<=x5/\x5<(aj:Int))/\(ae ao fun a1=>zI .i64 h (((a1.add (Int.toNat x5*4))).add 0) fun i2=>zI .u8 h (((a1.add (Int.toNat x5*4))).add 1) fun i3=>zT h (((a1.add (Int.toNat x5*4))).add 2) fun s4=>zI .u8 h (((a1.add (Int.toNat x5*4))).add 3) fun i5=>(0<=x5/\x5<(bI:Int))/\(ae bM fun a6=>zI .i64 h (((a6.add (Int.toNat x5*4))).add 0) fun i7=>zI .u8 h (((a6.add (Int.toNat x5*4))).add 1) fun i8=>zT h (((a6.add (Int.toNat x5*4))).add 2) fun s9=>zI .u8 h (((a6.add (Int.toNat x5*4))).add 3) fun i10=>sK Tryz.prog (dy .neq 77 (.tmp 20) (.tmp 24) (.agg ⟨[.int .i64 i2,.int .u8 i3,S s4,.int .u8 i5]⟩) (.agg ⟨[.int .i64 i7,.int .u8 i8,S s9,.int .u8 i10]⟩)) h fun v11=>au v11 fun QS=>cond QS (Kr false h) (bd .i64 (x5+(1:Int))/\(K2 ao aj aq bM bI bV (x5+(1:Int)) h))))) (Ke0 h)
abbrev ia (Kn Ke0:T2) (Kr:T0):Nat->T3:=LP L3 (gR Kn Ke0 Kr)
variable (K:KV) (h:H)
abbrev asks (ao:OA) (aj aq:Nat) (bM:OA) (bI bV:Nat) (K:KV) (h:H):Prop:=cF L0 (fun Kr=>aA L1 (fun K5=>K5 ao aj aq bM bI bV h) fun ao aj aq bM bI bV h=>aA L1 (fun K4=>aM ((aj:Int)=(bI:Int)) (K4 ao aj aq bM bI bV h) (Kr false h)) fun ao aj aq bM bI bV h=>aA L2 (fun K1=>aA L3 (fun K3=>K3 ao aj aq bM bI bV 0 h) fun ao aj aq bM bI bV x5 h=>iy L3 (gR K1 K1 Kr) fun K2=>K2 ao aj aq bM bI bV x5 h) fun h=>Kr true h) fun y4 h=>K (.bool y4) h
theorem ok (q:asks ao aj aq bM bI bV K h):zC 23 [.slice ao aj aq,.slice bM bI bV] h K:=
 cl Tryz.func23 q (fun p q=>sq (l:=L1) p q fun p q=>sq (l:=L1) p q fun p q=>sc (l:=L2) q (fun q=>sq (l:=L3) p q fun p q=>bl (b:=0) (lp p q fun p q=>lf p q)) fun p q=>lf p q) fun p q=>rt p q
end Xdm
end Go.Proofs
