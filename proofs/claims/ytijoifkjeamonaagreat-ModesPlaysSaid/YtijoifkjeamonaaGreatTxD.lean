/- Own text. No condition. -/
import Derived.Test.YtijoifkjeamonaaGreatHc
import Derived.Test.YtijoifkjeamonaaGreatShR
import Derived.Test.YtijoifkjeamonaaGreatProg
namespace Go.Proofs
open Go Go.Sh
set_option linter.unusedVariables false
set_option maxRecDepth 100000
namespace Xds
abbrev L0:=[Zp 0]
variable (K:KV) (h:H)
abbrev asks:Prop:=cF L0 (fun Kr=>aw h #[.int .u8 0,.int .u8 0,S [],.slice none 0 0,S [],.slice none 0 0,.int .i64 (-1),.slice none 0 0] 115 fun a1 h2=>aw h2 ⟨[.slice (some a1) 1 1]⟩ 118 fun a3 h4=>Kr (some a3) h4) fun y0 h=>K (.pointer y0) h
theorem ok (q:asks K h):zC 52 [] h K:=
 cl Tryz.func52 q (fun p q=>lf p q) fun p q=>rt p q
end Xds
namespace Xdv
abbrev L0:=[Z6 4]
variable (x0:OA) (dh di:Int) (oK:List UInt8) (uR:OA) (uS uT:Nat) (oL:List UInt8) (uU:OA) (uV uW:Nat)
variable (K:KV) (h:H)
abbrev asks:Prop:=cF L0 (fun Kr=>aw h ⟨[.int .u8 dh,.int .u8 di,S oK,.slice uR uS uT,S oL,.slice uU uV uW]⟩ 70 fun a1 h2=>zI .u8 h2 (a1.add 0) fun i3=>aO (i3<(1:Int)) (Kr (-1) h2) (zI .u8 h2 (a1.add 0) fun i4=>aO (i4>(3:Int)) (Kr (-1) h2) (ae x0 fun a5=>zS h2 (a5.add 0) fun jH gn lj=>zI .u8 h2 (a1.add 0) fun i7=>zI .u8 h2 (a1.add 1) fun i8=>zT h2 (a1.add 2) fun s9=>zS h2 (a1.add 3) fun jS jl mW=>zT h2 (a1.add 4) fun vl=>zS h2 (a1.add 5) fun rO nX rP=>zC 126 [(.agg ⟨[.int .u8 i7,.int .u8 i8,S s9,.slice jS jl mW,S vl,.slice rO nX rP]⟩)] h2 fun np dA=>lv np fun l15=>aH l15 fun e16 l17=>aL .u8 e16 fun i18=>aH l17 fun Qf Qg=>aL .u8 Qf fun i21=>aH Qg fun Qh Qi=>gU Qh fun s24=>aH Qi fun e25 l26=>aA e25 fun Gt Gu Nc=>aH l26 fun e28 l29=>gU e28 fun US=>aH l29 fun e31 l32=>aA e31 fun Mw Mx My=>dc l32 (bH h2 dA/\(aw dA #[.int .u8 i18,.int .u8 i21,S s24,.slice Gt Gu Nc,S US,.slice Mw Mx My,.int .i64 (-1),.slice none 0 0] 115 fun OW qz=>bH dA qz/\(bf Tryz.prog (Builtin.append_ #[116,116] 116 ⟨[.slice jH gn lj,.slice (some OW) 1 1]⟩) qz fun ZC mr=>aA ZC fun I8 BF Mu=>ae x0 fun Vq=>aZ (Vq.add 0) [.slice I8 BF Mu] 0 mr fun DV=>ae x0 fun Vr=>zS DV (Vr.add 0) fun QB Jh QC=>bc .i64 ((Jh:Int) - 1)/\(Kr ((Jh:Int) - 1) DV))))))) fun y4 h=>K (.int .i64 y4) h
theorem ok (q:asks x0 dh di oK uR uS uT oL uU uV uW K h):zC 105 [.pointer x0,(.agg ⟨[.int .u8 dh,.int .u8 di,S oK,.slice uR uS uT,S oL,.slice uU uV uW]⟩)] h K:=
 cl Tryz.func105 q (fun p q=>lf p q) fun p q=>rt p q
end Xdv
namespace Xdy
abbrev L0:=[Zb 8]
abbrev L1:=[Zp 0,Z6 1,Z6 2,Z6 3]
abbrev L4:=[Zp 0,Z6 1,Z6 2,Z6 3,Zb 11]
abbrev L3:=[Zp 0,Z6 1,Z6 2,Z6 3,Zb 9,Zb 10]
abbrev L2:=[Zp 0,Z6 1,Z6 2,Z6 3,Zb 9]
abbrev T0:=TK L0
variable (x0:OA) (x1 x2 x3:Int)
abbrev n8 (Kn Kr:T0) (h:H):Prop:=
 zC 135 [.pointer x0,.int .i64 x1,.int .i64 x2] h fun v1 h2=>aL .i64 v1 fun i3=>ae x0 fun a4=>zS h2 (a4.add 0) fun BG zX F9=>(0<=x1/\x1<(zX:Int))/\(ae BG fun a6=>zS h2 ((a6.add (Int.toNat x1*8)).add 7) fun yT zY yu=>(0<=(0:Int)/\0<=i3/\i3<=(yu:Int))/\(bf Tryz.prog (Builtin.append_ #[82,82] 82 ⟨[.slice none 0 0,(.slice (if yu=Int.toNat 0 then yT else Option.map (fun q=>q.add (Int.toNat (0:Int)*1)) yT) (Int.toNat i3 - Int.toNat 0) (yu - Int.toNat 0))]⟩) h2 fun v8 h9=>aA v8 fun jS jl mW=>aw h9 #[.int .i64 x3] 3 fun lk eM=>bf Tryz.prog (Builtin.append_ #[82,82] 82 ⟨[.slice jS jl mW,.slice (some lk) 1 1]⟩) eM fun np dA=>aA np fun kR ly oN=>ae x0 fun pM=>zS dA (pM.add 0) fun oP mY oQ=>(0<=x1/\x1<(mY:Int))/\(ae oP fun sS=>zS dA ((sS.add (Int.toNat x1*8)).add 7) fun qG pN pO=>(0<=i3/\i3<=(pN:Int)/\(pN:Int)<=(pO:Int))/\(bf Tryz.prog (Builtin.append_ #[82,82] 82 ⟨[.slice kR ly oN,(.slice (if pO=Int.toNat i3 then qG else Option.map (fun q=>q.add (Int.toNat i3*1)) qG) (Int.toNat (pN:Int) - Int.toNat i3) (pO - Int.toNat i3))]⟩) dA fun v20 qC=>aA v20 fun me iI mf=>ae x0 fun a23=>zS qC (a23.add 0) fun F4 F5 Mq=>(0<=x1/\x1<(F5:Int))/\(ae F4 fun a25=>aZ ((a25.add (Int.toNat x1*8)).add 7) [.slice me iI mf] 0 qC fun oC=>ae x0 fun zU=>zS oC (zU.add 0) fun Nd BQ QD=>(0<=x3/\x3<(BQ:Int))/\(ae Nd fun Sv=>aZ ((Sv.add (Int.toNat x3*8)).add 6) [.int .i64 x1] 0 oC fun tO=>Kr true tO))))))
variable (K:KV) (h:H)
abbrev asks (x0:OA) (x1 x2 x3:Int) (K:KV) (h:H):Prop:=cF L0 (fun Kr=>aB L1 (fun K7=>K7 x0 x1 x2 x3 h) fun x0 x1 x2 x3 h=>aB L2 (fun K6=>zC 134 [.pointer x0,.int .i64 x1] h fun OF yh=>au OF fun b45=>cond b45 (K6 x0 x1 x2 x3 true yh) (K6 x0 x1 x2 x3 false yh)) fun x0 x1 x2 x3 x9 h=>aB L3 (fun K5=>zC 125 [.pointer x0,.int .i64 x3] h fun v40 yG=>au v40 fun X1=>cond X1 (K5 x0 x1 x2 x3 x9 true yG) (K5 x0 x1 x2 x3 x9 false yG)) fun x0 x1 x2 x3 x9 bD h=>aB L1 (fun K4=>cond x9 (cond bD (aO (x3=(0:Int)) (Kr false h) (aO (x2=x3) (Kr false h) (K4 x0 x1 x2 x3 h))) (Kr false h)) (Kr false h)) fun x0 x1 x2 x3 h=>aB L4 (fun K3=>zC 164 [.pointer x0,.int .i64 x1,.int .i64 x3] h fun v37 Cf=>au v37 fun b39=>cond b39 (K3 x0 x1 x2 x3 true Cf) (K3 x0 x1 x2 x3 false Cf)) fun x0 x1 x2 x3 cg h=>aB L1 (fun K2=>cond cg (Kr false h) (zC 135 [.pointer x0,.int .i64 x1,.int .i64 x2] h fun zt qz=>aL .i64 zt fun i36=>aO (i36<(0:Int)) (Kr false qz) (K2 x0 x1 x2 x3 qz))) fun x0 x1 x2 x3 h=>aB L1 (fun K1=>zC 165 [.pointer x0,.int .i64 x3] h fun v31 Ez=>au v31 fun UY=>cond UY (K1 x0 x1 x2 x3 Ez) (K1 x0 x1 x2 x3 Ez)) fun x0 x1 x2 x3 h=>n8 x0 x1 x2 x3 Kr Kr h) fun y8 h=>K (.bool y8) h
theorem ok (q:asks x0 x1 x2 x3 K h):zC 104 [.pointer x0,.int .i64 x1,.int .i64 x2,.int .i64 x3] h K:=
 cl Tryz.func104 q (fun p q=>sq (l:=L1) p q fun p q=>sq (l:=L2) p q fun p q=>sq (l:=L3) p q fun p q=>sq (l:=L1) p q fun p q=>sq (l:=L4) p q fun p q=>sq (l:=L1) p q fun p q=>sq (l:=L1) p q fun p q=>lf p q) fun p q=>rt p q
end Xdy
namespace Xd0
abbrev L0:=[Zb 8]
abbrev L1:=[Zp 0,Z6 1,Z6 2,Zs 3]
abbrev L6:=[Zp 0,Z6 1,Z6 2,Zs 3,Z6 11,Zb 49]
abbrev L5:=[Zp 0,Z6 1,Z6 2,Zs 3,Z6 11]
abbrev L4:=[Zp 0,Z6 1,Z6 2,Zs 3,Z6 10,Zb 27]
abbrev L3:=[Zp 0,Z6 1,Z6 2,Zs 3,Z6 10]
abbrev L2:=[Zp 0,Z6 1,Z6 2,Zs 3,Zb 9]
abbrev T0:=TK L0
variable (x0:OA) (x1 x2:Int) (x3:List UInt8)
abbrev n8 (Kn Kr:T0) (h:H):Prop:=
 zC 105 [.pointer x0,(.agg ⟨[.int .u8 2,.int .u8 0,S [],.slice none 0 0,S x3,.slice none 0 0]⟩)] h fun v1 h2=>aL .i64 v1 fun i3=>zC 104 [.pointer x0,.int .i64 x1,.int .i64 x2,.int .i64 i3] h2 fun v4 h5=>au v4 fun b6=>cond b6 (Kr true h5) (Kr false h5)
variable (K:KV) (h:H)
abbrev asks (x0:OA) (x1 x2:Int) (x3:List UInt8) (K:KV) (h:H):Prop:=cF L0 (fun Kr=>aB L1 (fun ng=>ng x0 x1 x2 x3 h) fun x0 x1 x2 x3 h=>aB L2 (fun K9=>zC 134 [.pointer x0,.int .i64 x1] h fun v28 u5=>au v28 fun b30=>cond b30 (K9 x0 x1 x2 x3 true u5) (K9 x0 x1 x2 x3 false u5)) fun x0 x1 x2 x3 x9 h=>aB L1 (fun K8=>cond x9 (K8 x0 x1 x2 x3 h) (Kr false h)) fun x0 x1 x2 x3 h=>aB L3 (fun K7=>zC 135 [.pointer x0,.int .i64 x1,.int .i64 x2] h fun v25 oC=>aL .i64 v25 fun i27=>K7 x0 x1 x2 x3 i27 oC) fun x0 x1 x2 x3 bD h=>aB L3 (fun K6=>aO (bD<(0:Int)) (Kr false h) (K6 x0 x1 x2 x3 bD h)) fun x0 x1 x2 x3 bD h=>aB L3 (fun K5=>aO (x3=[]) (Kr true h) (K5 x0 x1 x2 x3 bD h)) fun x0 x1 x2 x3 bD h=>aB L1 (fun K1=>aB L4 (fun K4=>aO (bD>(0:Int)) (K4 x0 x1 x2 x3 bD true h) (K4 x0 x1 x2 x3 bD false h)) fun x0 x1 x2 x3 bD x27 h=>cond x27 (aB L5 (fun K3=>ae x0 fun jK=>zS h (jK.add 0) fun oR nS qH=>(0<=x1/\x1<(nS:Int))/\(ae oR fun a21=>zS h ((a21.add (Int.toNat x1*8)).add 7) fun me iI mf=>bc .i64 (bD - (1:Int))/\((0<=(bD - (1:Int))/\(bD - (1:Int))<(iI:Int))/\(ae me fun a23=>zI .i64 h (a23.add (Int.toNat (bD - (1:Int))*1)) fun i24=>K3 x0 x1 x2 x3 i24 h)))) fun x0 x1 x2 x3 cg h=>aB L6 (fun K2=>ae x0 fun pV=>zS h (pV.add 0) fun gQ gR gS=>(0<=cg/\cg<(gR:Int))/\(ae gQ fun oO=>zI .u8 h (((oO.add (Int.toNat cg*8)).add 0).add 0) fun i18=>aO (i18=(2:Int)) (K2 x0 x1 x2 x3 cg true h) (K2 x0 x1 x2 x3 cg false h))) fun x0 x1 x2 x3 cg x49 h=>cond x49 (ae x0 fun a7=>zS h (a7.add 0) fun ri qF ui=>ae x0 fun a9=>zS h (a9.add 0) fun jS jl mW=>(0<=cg/\cg<(jl:Int))/\(ae jS fun lk=>zT h (((lk.add (Int.toNat cg*8)).add 0).add 4) fun j9=>((j9.length+x3.length:Nat):Int)<=9223372036854775807/\((0<=cg/\cg<(qF:Int))/\(ae ri fun pU=>aZ (((pU.add (Int.toNat cg*8)).add 0).add 4) [(S (j9++x3))] 0 h fun dA=>Kr true dA)))) (K1 x0 x1 x2 x3 h)) (K1 x0 x1 x2 x3 h)) fun x0 x1 x2 x3 h=>n8 x0 x1 x2 x3 Kr Kr h) fun y8 h=>K (.bool y8) h
theorem ok (q:asks x0 x1 x2 x3 K h):zC 60 [.pointer x0,.int .i64 x1,.int .i64 x2,S x3] h K:=
 cl Tryz.func60 q (fun p q=>sq (l:=L1) p q fun p q=>sq (l:=L2) p q fun p q=>sq (l:=L1) p q fun p q=>sq (l:=L3) p q fun p q=>sq (l:=L3) p q fun p q=>sq (l:=L3) p q fun p q=>sc (l:=L1) q (fun q=>sq (l:=L4) p q fun p q=>cn (i:=27) p q (fun p q=>sq (l:=L5) p q fun p q=>sq (l:=L6) p q fun p q=>lf p q) fun p q=>lf p q) fun p q=>lf p q) fun p q=>rt p q
end Xd0
namespace Oh
abbrev L0:=[Zl 4]
abbrev L5:=[Zl 6]
abbrev L6:=[Zp 0,Zl 6,Zl 7,Z6 8]
abbrev L4:=[Zp 0,Zl 6,Zl 7]
abbrev L3:=[Zp 0,Z6 1,Zl 6]
abbrev L1:=[Zp 0,Z6 1]
abbrev L2:=[Zp 0,Z6 1,Zb 5]
abbrev T0:=TK L0
abbrev T5:=TK L5
abbrev T6:=TK L6
variable (x0:OA) (x1:Int) (oD:OA) (nR oW:Nat)
abbrev n7 (Kn Kr:T0) (h:H):Prop:=
 Kr oD nR oW h
abbrev Ed (Kn Ke0:T5) (Kr:T0):T6->T6:=fun K2 x0 oD nR oW we uo Cg x8 h=>aO (x8<(uo:Int)) ((ae x0 fun a1=>zS h (a1.add 0) fun ma lx oM=>(0<=x8/\x8<(uo:Int))/\(ae we fun a3=>zI .i64 h (a3.add (Int.toNat x8*1)) fun i4=>(0<=i4/\i4<(lx:Int))/\(ae ma fun a5=>zI .u8 h ((((a5.add (Int.toNat i4*8)).add 0)).add 0) fun i6=>zI .u8 h ((((a5.add (Int.toNat i4*8)).add 0)).add 1) fun i7=>zT h ((((a5.add (Int.toNat i4*8)).add 0)).add 2) fun s8=>zS h ((((a5.add (Int.toNat i4*8)).add 0)).add 3) fun wa uX yV=>zT h ((((a5.add (Int.toNat i4*8)).add 0)).add 4) fun pv=>zS h ((((a5.add (Int.toNat i4*8)).add 0)).add 5) fun mX lz mg=>zC 126 [(.agg ⟨[.int .u8 i6,.int .u8 i7,S s8,.slice wa uX yV,S pv,.slice mX lz mg]⟩)] h fun v12 fi=>lv v12 fun Qd=>aH Qd fun e15 l16=>aL .u8 e15 fun i17=>aH l16 fun e18 l19=>aL .u8 e18 fun i20=>aH l19 fun e21 l22=>gU e21 fun Vs=>aH l22 fun e24 l25=>aA e24 fun AO AP AQ=>aH l25 fun e27 l28=>gU e27 fun Zw=>aH l28 fun e30 l31=>aA e30 fun Ee BR BS=>dc l31 (aw fi ⟨[.int .u8 0,.int .u8 0,S [],.slice none 0 0,S [],.slice none 0 0]⟩ 70 fun EC zZ=>aZ EC [.int .u8 i17,.int .u8 i20,S Vs,.slice AO AP AQ,S Zw,.slice Ee BR BS] 0 zZ fun qz=>(0<=x8/\x8<(uo:Int))/\(ae we fun Ji=>zI .i64 qz (Ji.add (Int.toNat x8*1)) fun i37=>zC 50 [.pointer x0,.int .i64 i37] qz fun Ms yr=>aA Ms fun Vt Vu Vv=>aZ (EC.add 5) [.slice Vt Vu Vv] 0 yr fun yG=>zI .u8 yG (EC.add 0) fun i42=>zI .u8 yG (EC.add 1) fun i43=>zT yG (EC.add 2) fun s44=>zS yG (EC.add 3) fun agx agy agz=>zT yG (EC.add 4) fun s46=>zS yG (EC.add 5) fun Vw Vx Vy=>aw yG #[.int .u8 i42,.int .u8 i43,S s44,.slice agx agy agz,S s46,.slice Vw Vx Vy] 70 fun Nf QE=>bf Tryz.prog (Builtin.append_ #[25,25] 25 ⟨[.slice oD nR oW,.slice (some Nf) 1 1]⟩) QE fun QF BT=>aA QF fun Vz VA VB=>bc .i64 (x8+(1:Int))/\(K2 x0 Vz VA VB we uo Cg (x8+(1:Int)) BT))))))/\(ae x0 fun a53=>zS h (a53.add 0) fun agA agB s54c=>(0<=x8/\x8<(uo:Int))/\(ae we fun Sw=>zI .i64 h (Sw.add (Int.toNat x8*1)) fun i56=>(0<=i56/\i56<(agB:Int))/\(ae agA fun Sx=>zI .u8 h ((((Sx.add (Int.toNat i56*8)).add 0)).add 0) fun i58=>zI .u8 h ((((Sx.add (Int.toNat i56*8)).add 0)).add 1) fun i59=>zT h ((((Sx.add (Int.toNat i56*8)).add 0)).add 2) fun s60=>zS h ((((Sx.add (Int.toNat i56*8)).add 0)).add 3) fun VC VD VE=>zT h ((((Sx.add (Int.toNat i56*8)).add 0)).add 4) fun s62=>zS h ((((Sx.add (Int.toNat i56*8)).add 0)).add 5) fun agD agE agF=>aw h ⟨[.int .u8 0,.int .u8 0,S [],.slice none 0 0,S [],.slice none 0 0]⟩ 70 fun Sy QG=>bH h QG/\(zC 126 [(.agg ⟨[.int .u8 i58,.int .u8 i59,S s60,.slice VC VD VE,S s62,.slice agD agE agF]⟩)] QG fun v66 h67=>lv v66 fun l68=>aH l68 fun e69 l70=>aL .u8 e69 fun i71=>aH l70 fun e72 l73=>aL .u8 e72 fun i74=>aH l73 fun e75 l76=>gU e75 fun s77=>aH l76 fun e78 l79=>aA e78 fun agH agI agJ=>aH l79 fun e81 l82=>gU e81 fun s83=>aH l82 fun e84 l85=>aA e84 fun VF VG VH=>dc l85 (aZ Sy [.int .u8 i71,.int .u8 i74,S s77,.slice agH agI agJ,S s83,.slice VF VG VH] 0 h67 fun QH=>(0<=x8/\x8<(uo:Int))/\(ae we fun a88=>zI .i64 QH (a88.add (Int.toNat x8*1)) fun i89=>zC 50 [.pointer x0,.int .i64 i89] QH fun v90 h91=>aA v90 fun agK agL agM=>aZ (Sy.add 5) [.slice agK agL agM] 0 h91 fun Ih=>zI .u8 Ih (Sy.add 0) fun i94=>zI .u8 Ih (Sy.add 1) fun i95=>zT Ih (Sy.add 2) fun s96=>zS Ih (Sy.add 3) fun agN agO agP=>zT Ih (Sy.add 4) fun s98=>zS Ih (Sy.add 5) fun VI VJ aa7=>aw Ih #[.int .u8 i94,.int .u8 i95,S s96,.slice agN agO agP,S s98,.slice VI VJ aa7] 70 fun MV Ja=>bf Tryz.prog (Builtin.append_ #[25,25] 25 ⟨[.slice oD nR oW,.slice (some MV) 1 1]⟩) Ja fun Ng vF=>aA Ng fun aa8 aa9 aaa=>bc .i64 (x8+(1:Int))/\(K2 x0 aa8 aa9 aaa we uo Cg (x8+(1:Int)) vF)))))))) (Ke0 oD nR oW h)
abbrev Ac (Kn Ke0:T5) (Kr:T0):Nat->T6:=LP L6 (Ed Kn Ke0 Kr)
variable (K:KV) (h:H)
abbrev asks (x0:OA) (x1:Int) (K:KV) (h:H):Prop:=cF L0 (fun Kr=>aB L1 (fun K8=>K8 x0 x1 h) fun x0 x1 h=>aB L2 (fun K7=>zC 125 [.pointer x0,.int .i64 x1] h fun v109 vd=>au v109 fun JL=>cond JL (K7 x0 x1 true vd) (K7 x0 x1 false vd)) fun x0 x1 x5 h=>aB L1 (fun K6=>cond x5 (K6 x0 x1 h) (Kr none 0 0 h)) fun x0 x1 h=>aB L3 (fun K5=>K5 x0 x1 none 0 0 h) fun x0 x1 oD nR oW h=>aB L4 (fun K4=>ae x0 fun a105=>zS h (a105.add 0) fun aab aac aoq=>(0<=x1/\x1<(aac:Int))/\(ae aab fun a107=>zS h ((a107.add (Int.toNat x1*8)).add 7) fun wk wm wo=>K4 x0 oD nR oW wk wm wo h)) fun x0 oD nR oW we uo Cg h=>aB L5 (fun K1=>aB L6 (fun K3=>K3 x0 oD nR oW we uo Cg 0 h) fun x0 oD nR oW we uo Cg x8 h=>il L6 (Ed K1 K1 Kr) fun K2=>K2 x0 oD nR oW we uo Cg x8 h) fun oD nR oW h=>n7 oD nR oW Kr Kr h) fun fJ fK fL h=>K (.slice fJ fK fL) h
theorem ok (q:asks x0 x1 K h):zC 50 [.pointer x0,.int .i64 x1] h K:=
 cl Tryz.func50 q (fun p q=>sq (l:=L1) p q fun p q=>sq (l:=L2) p q fun p q=>sq (l:=L1) p q fun p q=>sq (l:=L3) p q fun p q=>sq (l:=L4) p q fun p q=>sc (l:=L5) q (fun q=>sq (l:=L6) p q fun p q=>bl (b:=0) (lp p q fun p q=>lf p q)) fun p q=>lf p q) fun p q=>rt p q
end Oh
namespace Xdx
abbrev L0:=[Z6 4]
variable (x0:OA) (x1:Int)
variable (K:KV) (h:H)
abbrev asks:Prop:=cF L0 (fun Kr=>zC 125 [.pointer x0,.int .i64 x1] h fun v1 h2=>au v1 fun b3=>cond b3 (ae x0 fun a4=>zS h2 (a4.add 0) fun BG zX F9=>(0<=x1/\x1<(zX:Int))/\(ae BG fun a6=>zI .i64 h2 ((a6.add (Int.toNat x1*8)).add 6) fun i7=>Kr i7 h2)) (Kr (-1) h2)) fun y4 h=>K (.int .i64 y4) h
theorem ok (q:asks x0 x1 K h):zC 133 [.pointer x0,.int .i64 x1] h K:=
 cl Tryz.func133 q (fun p q=>lf p q) fun p q=>rt p q
end Xdx
namespace Xd5
abbrev L0:=[Za 2]
variable (cz cD:Int) (eA:List UInt8) (Nh:OA) (Nk Nl:Nat) (VK:List UInt8) (Nn:OA) (Nq Nr:Nat)
variable (K:KV) (h:H)
abbrev asks:Prop:=cF L0 (fun Kr=>aw h ⟨[.int .u8 cz,.int .u8 cD,S eA,.slice Nh Nk Nl,S VK,.slice Nn Nq Nr]⟩ 70 fun a1 h2=>aw h2 ⟨[.int .u8 0,.int .u8 0,S [],.slice none 0 0,S [],.slice none 0 0]⟩ 70 fun a3 h4=>zI .u8 h4 (a1.add 0) fun i5=>aO (i5=(1:Int)) (zS h4 (a1.add 3) fun jH gn lj=>bf Tryz.prog (Builtin.append_ #[43,43] 43 ⟨[.slice none 0 0,.slice jH gn lj]⟩) h4 fun v7 h8=>aA v7 fun wa uX yV=>zI .u8 h8 (a1.add 0) fun i10=>zI .u8 h8 (a1.add 1) fun i11=>zT h8 (a1.add 2) fun j9=>aZ a3 [.int .u8 i10,.int .u8 i11,S j9,.slice wa uX yV,S [],.slice none 0 0] 0 h8 fun fi=>Kr a3 fi) (zI .u8 h4 (a1.add 0) fun i14=>zT h4 (a1.add 4) fun Ep=>aZ a3 [.int .u8 i14,.int .u8 0,S [],.slice none 0 0,S Ep,.slice none 0 0] 0 h4 fun gX=>Kr a3 gX)) fun y2 h=>zI .u8 h ((y2).add 0) fun i17=>zI .u8 h ((y2).add 1) fun i18=>zT h ((y2).add 2) fun QI=>zS h ((y2).add 3) fun oR nS qH=>zT h ((y2).add 4) fun s21=>zS h ((y2).add 5) fun me iI mf=>K (.agg ⟨[.int .u8 i17,.int .u8 i18,S QI,.slice oR nS qH,S s21,.slice me iI mf]⟩) h
theorem ok (q:asks cz cD eA Nh Nk Nl VK Nn Nq Nr K h):zC 126 [(.agg ⟨[.int .u8 cz,.int .u8 cD,S eA,.slice Nh Nk Nl,S VK,.slice Nn Nq Nr]⟩)] h K:=
 cl Tryz.func126 q (fun p q=>lf p q) fun p q=>rt p q
end Xd5
namespace Xd1
abbrev L0:=[Zb 4]
variable (x0:OA) (x1:Int)
variable (K:KV) (h:H)
abbrev asks:Prop:=cF L0 (fun Kr=>zC 125 [.pointer x0,.int .i64 x1] h fun v1 h2=>au v1 fun b3=>cond b3 (aO (x1=(0:Int)) (Kr true h2) (ae x0 fun a4=>zS h2 (a4.add 0) fun BG zX F9=>(0<=x1/\x1<(zX:Int))/\(ae BG fun a6=>zI .u8 h2 (((a6.add (Int.toNat x1*8)).add 0).add 0) fun i7=>aO (i7=(1:Int)) (Kr true h2) (Kr false h2)))) (Kr false h2)) fun y4 h=>K (.bool y4) h
theorem ok (q:asks x0 x1 K h):zC 134 [.pointer x0,.int .i64 x1] h K:=
 cl Tryz.func134 q (fun p q=>lf p q) fun p q=>rt p q
end Xd1
namespace Xd3
abbrev L0:=[Zb 4]
variable (x0:OA) (x1:Int)
variable (K:KV) (h:H)
abbrev asks:Prop:=cF L0 (fun Kr=>aO (x1 ≥ 0) (ae x0 fun a1=>zS h (a1.add 0) fun ma lx oM=>aO (x1<(lx:Int)) (Kr true h) (Kr false h)) (Kr false h)) fun y4 h=>K (.bool y4) h
theorem ok (q:asks x0 x1 K h):zC 125 [.pointer x0,.int .i64 x1] h K:=
 cl Tryz.func125 q (fun p q=>lf p q) fun p q=>rt p q
end Xd3
namespace Vc
abbrev L0:=[Zb 6]
abbrev L2:List Sl:=[]
abbrev L1:=[Zp 0,Z6 1,Z6 2]
abbrev T0:=TK L0
abbrev T2:=TK L2
abbrev T1:=TK L1
variable (x0:OA) (x1 x2:Int)
abbrev n3 (Kn Kr:T0) (h:H):Prop:=
 Kr false h
abbrev Ns (Kn Ke0:T2) (Kr:T0):T1->T1:=fun K2 x0 x1 x2 h=>aO (x1 ≥ 0) (aO (x1=x2) (Kr true h) (ae x0 fun a1=>zS h (a1.add 0) fun ma lx oM=>(0<=x1/\x1<(lx:Int))/\(ae ma fun a3=>zI .i64 h ((a3.add (Int.toNat x1*8)).add 6) fun i4=>K2 x0 i4 x2 h))) (Ke0 h)
abbrev MO (Kn Ke0:T2) (Kr:T0):Nat->T1:=LP L1 (Ns Kn Ke0 Kr)
variable (K:KV) (h:H)
abbrev asks (x0:OA) (x1 x2:Int) (K:KV) (h:H):Prop:=cF L0 (fun Kr=>aB L1 (fun K3=>K3 x0 x1 x2 h) fun x0 x1 x2 h=>aB L2 (fun K1=>il L1 (Ns K1 K1 Kr) fun K2=>K2 x0 x1 x2 h) fun h=>n3 Kr Kr h) fun y6 h=>K (.bool y6) h
theorem ok (q:asks x0 x1 x2 K h):zC 164 [.pointer x0,.int .i64 x1,.int .i64 x2] h K:=
 cl Tryz.func164 q (fun p q=>sq (l:=L1) p q fun p q=>sc (l:=L2) q (fun q=>bl (b:=0) (lp p q fun p q=>lf p q)) fun p q=>lf p q) fun p q=>rt p q
end Vc
namespace Vb
abbrev L0:=[Z6 6]
abbrev L3:List Sl:=[]
abbrev L4:=[Z6 2,Zl 7,Z6 8]
abbrev L2:=[Z6 2,Zl 7]
abbrev L1:=[Zp 0,Z6 1,Z6 2]
abbrev T0:=TK L0
abbrev T3:=TK L3
abbrev T4:=TK L4
variable (x0:OA) (x1 x2:Int)
abbrev n5 (Kn Kr:T0) (h:H):Prop:=
 Kr (-1) h
abbrev ix (Kn Ke0:T3) (Kr:T0):T4->T4:=fun K2 x2 we uo Cg x8 h=>aO (x8<(uo:Int)) ((0<=x8/\x8<(uo:Int))/\(ae we fun a1=>zI .i64 h (a1.add (Int.toNat x8*1)) fun i2=>aO (i2=x2) (Kr x8 h) (bc .i64 (x8+(1:Int))/\(K2 x2 we uo Cg (x8+(1:Int)) h)))) (Ke0 h)
abbrev gJ (Kn Ke0:T3) (Kr:T0):Nat->T4:=LP L4 (ix Kn Ke0 Kr)
variable (K:KV) (h:H)
abbrev asks (x0:OA) (x1 x2:Int) (K:KV) (h:H):Prop:=cF L0 (fun Kr=>aB L1 (fun K6=>K6 x0 x1 x2 h) fun x0 x1 x2 h=>aB L2 (fun K5=>ae x0 fun a3=>zS h (a3.add 0) fun mB mC sB=>(0<=x1/\x1<(mC:Int))/\(ae mB fun a5=>zS h ((a5.add (Int.toNat x1*8)).add 7) fun jH gn lj=>K5 x2 jH gn lj h)) fun x2 we uo Cg h=>aB L2 (fun K4=>aO (x2=(-1:Int)) (Kr (uo:Int) h) (K4 x2 we uo Cg h)) fun x2 we uo Cg h=>aB L3 (fun K1=>aB L4 (fun K3=>K3 x2 we uo Cg 0 h) fun x2 we uo Cg x8 h=>il L4 (ix K1 K1 Kr) fun K2=>K2 x2 we uo Cg x8 h) fun h=>n5 Kr Kr h) fun y6 h=>K (.int .i64 y6) h
theorem ok (q:asks x0 x1 x2 K h):zC 135 [.pointer x0,.int .i64 x1,.int .i64 x2] h K:=
 cl Tryz.func135 q (fun p q=>sq (l:=L1) p q fun p q=>sq (l:=L2) p q fun p q=>sq (l:=L2) p q fun p q=>sc (l:=L3) q (fun q=>sq (l:=L4) p q fun p q=>bl (b:=0) (lp p q fun p q=>lf p q)) fun p q=>lf p q) fun p q=>rt p q
end Vb
namespace Xdu
abbrev L2:=[Zp 0,Z6 1,Zb 5]
abbrev L1:=[Zp 0,Z6 1]
abbrev L0:=[Zb 4]
variable (x0:OA) (x1:Int)
variable (K:KV) (h:H)
abbrev asks (x0:OA) (x1:Int) (K:KV) (h:H):Prop:=cF L0 (fun Kr=>aB L1 (fun K2=>K2 x0 x1 h) fun x0 x1 h=>aB L2 (fun K1=>zC 125 [.pointer x0,.int .i64 x1] h fun zt qz=>au zt fun b36=>cond b36 (K1 x0 x1 true qz) (K1 x0 x1 false qz)) fun x0 x1 x5 h=>cond x5 (ae x0 fun a1=>zS h (a1.add 0) fun ma lx oM=>(0<=x1/\x1<(lx:Int))/\(ae ma fun a3=>zI .i64 h ((a3.add (Int.toNat x1*8)).add 6) fun i4=>aO (i4<(0:Int)) (Kr false h) (ae x0 fun a5=>zS h (a5.add 0) fun jH gn lj=>(0<=x1/\x1<(gn:Int))/\(ae jH fun a7=>zI .i64 h ((a7.add (Int.toNat x1*8)).add 6) fun i8=>zC 135 [.pointer x0,.int .i64 i8,.int .i64 x1] h fun v9 cS=>aL .i64 v9 fun i11=>ae x0 fun a12=>zS cS (a12.add 0) fun jT jD lD=>(0<=i8/\i8<(jD:Int))/\(ae jT fun lS=>zS cS ((lS.add (Int.toNat i8*8)).add 7) fun kR ly oN=>(0<=(0:Int)/\0<=i11/\i11<=(oN:Int))/\(bf Tryz.prog (Builtin.append_ #[82,82] 82 ⟨[.slice none 0 0,(.slice (if oN=Int.toNat 0 then kR else Option.map (fun q=>q.add (Int.toNat (0:Int)*1)) kR) (Int.toNat i11 - Int.toNat 0) (oN - Int.toNat 0))]⟩) cS fun oT fF=>aA oT fun gL fA fW=>ae x0 fun jK=>zS fF (jK.add 0) fun oR nS qH=>(0<=i8/\i8<(nS:Int))/\(ae oR fun a21=>zS fF ((a21.add (Int.toNat i8*8)).add 7) fun me iI mf=>bc .i64 (i11+(1:Int))/\((0<=(i11+(1:Int))/\(i11+(1:Int))<=(iI:Int)/\(iI:Int)<=(mf:Int))/\(bf Tryz.prog (Builtin.append_ #[82,82] 82 ⟨[.slice gL fA fW,(.slice (if mf=Int.toNat (i11+(1:Int)) then me else Option.map (fun q=>q.add (Int.toNat (i11+(1:Int))*1)) me) (Int.toNat (iI:Int) - Int.toNat (i11+(1:Int))) (mf - Int.toNat (i11+(1:Int))))]⟩) fF fun v23 lX=>aA v23 fun Nt Nu Nv=>ae x0 fun a26=>zS lX (a26.add 0) fun Gt Gu Nc=>(0<=i8/\i8<(Gu:Int))/\(ae Gt fun a28=>aZ ((a28.add (Int.toNat i8*8)).add 7) [.slice Nt Nu Nv] 0 lX fun u5=>ae x0 fun ET=>zS u5 (ET.add 0) fun xB BE yS=>(0<=x1/\x1<(BE:Int))/\(ae xB fun tH=>aZ ((tH.add (Int.toNat x1*8)).add 6) [.int .i64 (-1)] 0 u5 fun mq=>Kr true mq))))))))))) (Kr false h)) fun y4 h=>K (.bool y4) h
theorem ok (q:asks x0 x1 K h):zC 165 [.pointer x0,.int .i64 x1] h K:=
 cl Tryz.func165 q (fun p q=>sq p q fun p q=>sq p q fun p q=>lf p q) fun p q=>rt p q
end Xdu
namespace vp
abbrev L0:=[Z6 4]
abbrev L3:=[Z6 5]
abbrev L4:=[Zl 0,Z6 1,Z6 5,Z6 6]
abbrev L5:=[Zl 0,Z6 1,Z6 5,Z6 6,Z6 7]
abbrev L2:=[Zl 0,Z6 1,Z6 5]
abbrev L1:=[Zl 0,Z6 1]
abbrev T0:=TK L0
abbrev T4:=TK L4
abbrev T3:=TK L3
abbrev T5:=TK L5
variable (ao:OA) (aj aq:Nat) (x1 x5 x6:Int)
abbrev n4 (Kn Kr:T0) (h:H):Prop:=
 Kr x5 h
abbrev sg (Kn:T4) (Ke0:T3) (Kr:T0) (h:H):Prop:=
 bc .i64 (x6+(1:Int))/\(Kn ao aj aq x1 x5 (x6+(1:Int)) h)
abbrev Ef (Kn qI Ke1:T4) (Ke0:T3) (Kr:T0):T5->T5:=fun K4 ao aj aq x1 x5 x6 x7 h=>(0<=x6/\x6<(aj:Int))/\(ae ao fun a1=>zS h ((a1.add (Int.toNat x6*5)).add 2) fun ma lx oM=>aO (x7<(lx:Int)) (aO (x5<=x1) ((0<=x6/\x6<(aj:Int))/\(ae ao fun a3=>zS h ((a3.add (Int.toNat x6*5)).add 2) fun mB mC sB=>(0<=x7/\x7<(mC:Int))/\(ae mB fun a5=>zT h ((a5.add (Int.toNat x7*2)).add 0) fun s6=>(8:Int)≠0/\(bc .i64 (Int.tdiv (s6.length:Int) 8)/\(bc .i64 (1+(Int.tdiv (s6.length:Int) 8))/\((0<=x6/\x6<(aj:Int))/\(ae ao fun a7=>zS h ((a7.add (Int.toNat x6*5)).add 2) fun ri qF ui=>(0<=x7/\x7<(qF:Int))/\(ae ri fun a9=>zT h ((a9.add (Int.toNat x7*2)).add 1) fun pv=>(8:Int)≠0/\(bc .i64 (Int.tdiv (pv.length:Int) 8)/\(bc .i64 ((1+(Int.tdiv (s6.length:Int) 8))+(Int.tdiv (pv.length:Int) 8))/\(bc .i64 (x5+((1+(Int.tdiv (s6.length:Int) 8))+(Int.tdiv (pv.length:Int) 8)))/\(bc .i64 (x7+(1:Int))/\(K4 ao aj aq x1 (x5+((1+(Int.tdiv (s6.length:Int) 8))+(Int.tdiv (pv.length:Int) 8))) x6 (x7+(1:Int)) h))))))))))))) (qI ao aj aq x1 x5 x6 h)) (qI ao aj aq x1 x5 x6 h))
abbrev G2 (Kn qI Ke1:T4) (Ke0:T3) (Kr:T0):Nat->T5:=LP L5 (Ef Kn qI Ke1 Ke0 Kr)
abbrev fg (Kn Ke0:T3) (Kr:T0):T4->T4:=fun K2 ao aj aq x1 x5 x6 h=>aB L4 (fun K7=>aO (x6<(aj:Int)) (aO (x5<=x1) (K7 ao aj aq x1 x5 x6 h) (Ke0 x5 h)) (Ke0 x5 h)) fun ao aj aq x1 x5 x6 h=>aB L4 (fun K3=>aB L4 (fun K6=>(0<=x6/\x6<(aj:Int))/\(ae ao fun lk=>zT h ((lk.add (Int.toNat x6*5)).add 4) fun j9=>(8:Int)≠0/\(bc .i64 (Int.tdiv (j9.length:Int) 8)/\(bc .i64 (1+(Int.tdiv (j9.length:Int) 8))/\((0<=x6/\x6<(aj:Int))/\(ae ao fun pU=>zT h ((pU.add (Int.toNat x6*5)).add 1) fun Ce=>(8:Int)≠0/\(bc .i64 (Int.tdiv (Ce.length:Int) 8)/\(bc .i64 ((1+(Int.tdiv (j9.length:Int) 8))+(Int.tdiv (Ce.length:Int) 8))/\(bc .i64 (x5+((1+(Int.tdiv (j9.length:Int) 8))+(Int.tdiv (Ce.length:Int) 8)))/\(K6 ao aj aq x1 (x5+((1+(Int.tdiv (j9.length:Int) 8))+(Int.tdiv (Ce.length:Int) 8))) x6 h)))))))))) fun ao aj aq x1 x5 x6 h=>aB L5 (fun K5=>K5 ao aj aq x1 x5 x6 0 h) fun ao aj aq x1 x5 x6 x7 h=>il L5 (Ef K3 K3 K3 Ke0 Kr) fun K4=>K4 ao aj aq x1 x5 x6 x7 h) fun ao aj aq x1 x5 x6 h=>sg ao aj aq x1 x5 x6 K2 Ke0 Kr h
abbrev fu (Kn Ke0:T3) (Kr:T0):Nat->T4:=LP L4 (fg Kn Ke0 Kr)
variable (K:KV) (h:H)
abbrev asks (ao:OA) (aj aq:Nat) (x1:Int) (K:KV) (h:H):Prop:=cF L0 (fun Kr=>aB L1 (fun ng=>ng ao aj aq x1 h) fun ao aj aq x1 h=>aB L2 (fun K9=>K9 ao aj aq x1 0 h) fun ao aj aq x1 x5 h=>aB L3 (fun K1=>aB L4 (fun K8=>K8 ao aj aq x1 x5 0 h) fun ao aj aq x1 x5 x6 h=>il L4 (fg K1 K1 Kr) fun K2=>K2 ao aj aq x1 x5 x6 h) fun x5 h=>n4 x5 Kr Kr h) fun y4 h=>K (.int .i64 y4) h
theorem ok (q:asks ao aj aq x1 K h):zC 28 [.slice ao aj aq,.int .i64 x1] h K:=
 cl Tryz.func28 q (fun p q=>sq (l:=L1) p q fun p q=>sq (l:=L2) p q fun p q=>sc (l:=L3) q (fun q=>sq (l:=L4) p q fun p q=>bl (b:=0) (lp p q fun p q=>sq (l:=L4) p q fun p q=>sc (l:=L4) q (fun q=>bl (b:=1) (sq (l:=L4) p q fun p q=>sq (l:=L5) p q fun p q=>bl (b:=2) (lp p q fun p q=>lf p q))) fun p q=>lf p q)) fun p q=>lf p q) fun p q=>rt p q
end vp
namespace Xel
abbrev L2:List Sl:=[]
abbrev L3:=[Zl 0,Z6 3]
abbrev L0:=[Z6 2]
abbrev L1:=[Zl 0]
abbrev T2:=TK L2
abbrev T0:=TK L0
abbrev T3:=TK L3
variable (ao:OA) (aj aq:Nat)
abbrev bS (Kn Ke0:T2) (Kr:T0):T3->T3:=fun K2 ao aj aq x3 h=>aO (x3 ≥ 0) ((0<=x3/\x3<(aj:Int))/\(ae ao fun a1=>zI .i64 h ((a1.add (Int.toNat x3*3)).add 0) fun i2=>aO (i2<(0:Int)) (bc .i64 (x3+(1:Int))/\(Kr (x3+(1:Int)) h)) (bc .i64 (x3 - (1:Int))/\(K2 ao aj aq (x3 - (1:Int)) h)))) (Ke0 h)
abbrev cR (Kn Ke0:T2) (Kr:T0):Nat->T3:=LP L3 (bS Kn Ke0 Kr)
variable (K:KV) (h:H)
abbrev asks (ao:OA) (aj aq:Nat) (K:KV) (h:H):Prop:=cF L0 (fun Kr=>aB L1 (fun K4=>K4 ao aj aq h) fun ao aj aq h=>aB L2 (fun K1=>aB L3 (fun K3=>bc .i64 ((aj:Int) - 1)/\(K3 ao aj aq ((aj:Int) - 1) h)) fun ao aj aq x3 h=>il L3 (bS K1 K1 Kr) fun K2=>K2 ao aj aq x3 h) fun h=>Kr 0 h) fun y2 h=>K (.int .i64 y2) h
theorem ok (q:asks ao aj aq K h):zC 176 [.slice ao aj aq] h K:=
 cl Tryz.func176 q (fun p q=>sq (l:=L1) p q fun p q=>sc (l:=L2) q (fun q=>sq (l:=L3) p q fun p q=>bl (b:=0) (lp p q fun p q=>lf p q)) fun p q=>lf p q) fun p q=>rt p q
end Xel
namespace Sr
abbrev L0:=[Zb 4]
abbrev L3:List Sl:=[]
abbrev L4:=[Za 2,Za 3,Z6 5]
abbrev L5:=[Za 2,Za 3,Z6 5,Zb 6]
abbrev L6:=[Za 2,Za 3,Z6 5,Zb 6,Z6 7]
abbrev L2:=[Za 2,Za 3]
abbrev T0:=TK L0
abbrev T3:=TK L3
abbrev T4:=TK L4
abbrev T5:=TK L5
abbrev T6:=TK L6
variable (cz:Int) (cD:List UInt8) (kX:OA) (kY kZ:Nat) (dh:Int) (di:List UInt8) (eZ:OA) (fb fc:Nat)
abbrev Sz (Kn qI:T5) (Ke1:T4) (Ke0:T3) (Kr:T0):T6->T6:=fun K5 x2 x3 x5 x6 x7 h=>zS h (x3.add 2) fun ZB UX s1c=>aO (x7<(UX:Int)) (cond x6 (bc .i64 (x7+(1:Int))/\(K5 x2 x3 x5 true (x7+(1:Int)) h)) (zS h (x2.add 2) fun ma lx oM=>(0<=x5/\x5<(lx:Int))/\(ae ma fun a3=>zT h (((a3.add (Int.toNat x5*2))).add 0) fun s4=>zT h (((a3.add (Int.toNat x5*2))).add 1) fun s5=>zS h (x3.add 2) fun jH gn lj=>(0<=x7/\x7<(gn:Int))/\(ae jH fun a7=>zT h (((a7.add (Int.toNat x7*2))).add 0) fun s8=>zT h (((a7.add (Int.toNat x7*2))).add 1) fun s9=>ue Tryz.prog (dX .eql 67 (.tmp 42) (.tmp 47) (.agg ⟨[S s4,S s5]⟩) (.agg ⟨[S s8,S s9]⟩)) h fun v10=>au v10 fun Uc=>cond Uc (bc .i64 (x7+(1:Int))/\(K5 x2 x3 x5 true (x7+(1:Int)) h)) (bc .i64 (x7+(1:Int))/\(K5 x2 x3 x5 false (x7+(1:Int)) h)))))) (qI x2 x3 x5 x6 h)
abbrev ZV (Kn qI:T5) (Ke1:T4) (Ke0:T3) (Kr:T0):Nat->T6:=LP L6 (Sz Kn qI Ke1 Ke0 Kr)
abbrev fg (Kn Ke0:T3) (Kr:T0):T4->T4:=fun K2 x2 x3 x5 h=>aB L4 (fun K8=>zS h (x2.add 2) fun rO nX rP=>aO (x5<(nX:Int)) (K8 x2 x3 x5 h) (Ke0 h)) fun x2 x3 x5 h=>aB L4 (fun K3=>aB L5 (fun K7=>K7 x2 x3 x5 false h) fun x2 x3 x5 x6 h=>aB L5 (fun K4=>aB L6 (fun K6=>K6 x2 x3 x5 x6 0 h) fun x2 x3 x5 x6 x7 h=>il L6 (Sz K4 K4 K3 Ke0 Kr) fun K5=>K5 x2 x3 x5 x6 x7 h) fun x2 x3 x5 x6 h=>cond x6 (K3 x2 x3 x5 h) (Kr false h)) fun x2 x3 x5 h=>bc .i64 (x5+(1:Int))/\(K2 x2 x3 (x5+(1:Int)) h)
abbrev fu (Kn Ke0:T3) (Kr:T0):Nat->T4:=LP L4 (fg Kn Ke0 Kr)
variable (K:KV) (h:H)
abbrev asks:Prop:=cF L0 (fun Kr=>aB L2 (fun rZ=>aw h ⟨[.int .i64 cz,S cD,.slice kX kY kZ]⟩ 79 fun oO gO=>aw gO ⟨[.int .i64 dh,S di,.slice eZ fb fc]⟩ 79 fun jK gx=>rZ oO jK gx) fun x2 x3 h=>aB L2 (fun ng=>zT h (x2.add 1) fun Rn=>zT h (x3.add 1) fun Ce=>aO (Rn=Ce) (zS h (x2.add 2) fun kR ly oN=>zS h (x3.add 2) fun gQ gR gS=>aO ((ly:Int)=(gR:Int)) (ng x2 x3 h) (Kr false h)) (Kr false h)) fun x2 x3 h=>aB L3 (fun K1=>aB L4 (fun K9=>K9 x2 x3 0 h) fun x2 x3 x5 h=>il L4 (fg K1 K1 Kr) fun K2=>K2 x2 x3 x5 h) fun h=>Kr true h) fun y4 h=>K (.bool y4) h
theorem ok (q:asks cz cD kX kY kZ dh di eZ fb fc K h):zC 228 [(.agg ⟨[.int .i64 cz,S cD,.slice kX kY kZ]⟩),(.agg ⟨[.int .i64 dh,S di,.slice eZ fb fc]⟩)] h K:=
 cl Tryz.func228 q (fun p q=>sq (l:=L2) p q fun p q=>sq (l:=L2) p q fun p q=>sc (l:=L3) q (fun q=>sq (l:=L4) p q fun p q=>bl (b:=0) (lp p q fun p q=>sq (l:=L4) p q fun p q=>sc (l:=L4) q (fun q=>bl (b:=1) (sq (l:=L5) p q fun p q=>sc (l:=L5) q (fun q=>sq (l:=L6) p q fun p q=>bl (b:=2) (lp p q fun p q=>lf p q)) fun p q=>lf p q)) fun p q=>lf p q)) fun p q=>lf p q) fun p q=>rt p q
end Sr
namespace Je
abbrev L0:=[Zl 4]
abbrev L6:=[Za 3,Zl 9]
abbrev L7:=[Zl 0,Za 3,Z6 5,Z6 6,Zl 9,Z6 10]
abbrev L8:=[Zl 0,Za 3,Z6 5,Z6 6,Zl 9,Z6 10,Zb 48]
abbrev L5:=[Zl 0,Za 3,Z6 5,Z6 6,Zl 9]
abbrev L4:=[Zl 0,Za 3,Z6 5,Z6 6]
abbrev L9:=[Zl 0,Za 3,Z6 5,Z6 6,Z6 7]
abbrev L3:=[Zl 0,Za 3,Z6 5]
abbrev L2:=[Zl 0,Za 3]
abbrev T0:=TK L0
abbrev T6:=TK L6
abbrev T7:=TK L7
abbrev T4:=TK L4
abbrev T9:=TK L9
variable (ao:OA) (aj aq:Nat) (dh:Int) (di:List UInt8) (eZ:OA) (fb fc:Nat) (x3:Addr) (x5 x6:Int) (oe:OA) (og oE:Nat) (bD:Int) (x48:Bool)
abbrev n7 (Kn Kr:T0) (h:H):Prop:=
 zI .i64 h (x3.add 0) fun i1=>zT h (x3.add 1) fun s2=>zS h (x3.add 2) fun wg r8 u6=>aw h #[.int .i64 i1,S s2,.slice wg r8 u6] 79 fun a4 h5=>bf Tryz.prog (Builtin.append_ #[40,40] 40 ⟨[.slice oe og oE,.slice (some a4) 1 1]⟩) h5 fun v6 h7=>aA v6 fun ri qF ui=>Kr ri qF ui h7
abbrev n16 (Kn Ke3:T7) (qI:T6) (Kr:T0) (h:H):Prop:=
 cond x48 ((0<=bD/\bD<(aj:Int))/\(ae ao fun a9=>zI .i64 h (((a9.add (Int.toNat bD*3))).add 0) fun i10=>zT h (((a9.add (Int.toNat bD*3))).add 1) fun vl=>zS h (((a9.add (Int.toNat bD*3))).add 2) fun rO nX rP=>aw h #[.int .i64 i10,S vl,.slice rO nX rP] 79 fun pU dA=>bf Tryz.prog (Builtin.append_ #[40,40] 40 ⟨[.slice oe og oE,.slice (some pU) 1 1]⟩) dA fun tN gX=>aA tN fun oP mY oQ=>Kn ao aj aq x3 x5 x6 oP mY oQ bD gX)) (Kn ao aj aq x3 x5 x6 oe og oE bD h)
abbrev Ed (Kn qI:T6) (Kr:T0):T7->T7:=fun K2 ao aj aq x3 x5 x6 oe og oE bD h=>aB L7 (fun K5=>aO (bD<(aj:Int)) (K5 ao aj aq x3 x5 x6 oe og oE bD h) (qI x3 oe og oE h)) fun ao aj aq x3 x5 x6 oe og oE bD h=>aB L7 (fun K3=>aB L8 (fun K4=>aO (x5<(3:Int)) (K4 ao aj aq x3 x5 x6 oe og oE bD true h) (aO (bD=x6) (K4 ao aj aq x3 x5 x6 oe og oE bD false h) (K4 ao aj aq x3 x5 x6 oe og oE bD true h))) fun ao aj aq x3 x5 x6 oe og oE bD x48 h=>n16 ao aj aq x3 x5 x6 oe og oE bD x48 K3 K3 qI Kr h) fun ao aj aq x3 x5 x6 oe og oE bD h=>bc .i64 (bD+(1:Int))/\(K2 ao aj aq x3 x5 x6 oe og oE (bD+(1:Int)) h)
abbrev Ac (Kn qI:T6) (Kr:T0):Nat->T7:=LP L7 (Ed Kn qI Kr)
abbrev n5 (ao:OA) (aj aq:Nat) (x3:Addr) (x5 x6:Int) (Kn Kr:T0) (h:H):Prop:=
 aB L5 (fun K7=>K7 ao aj aq x3 x5 x6 none 0 0 h) fun ao aj aq x3 x5 x6 oe og oE h=>aB L6 (fun K1=>aB L7 (fun K6=>K6 ao aj aq x3 x5 x6 oe og oE 0 h) fun ao aj aq x3 x5 x6 oe og oE bD h=>il L7 (Ed K1 K1 Kr) fun K2=>K2 ao aj aq x3 x5 x6 oe og oE bD h) fun x3 oe og oE h=>n7 x3 oe og oE Kn Kr h
abbrev zu (Kn Ke0:T4) (Kr:T0):T9->T9:=fun K9 ao aj aq x3 x5 x6 x7 h=>aB L9 (fun rZ=>aO (x7<(aj:Int)) (zI .i64 h (x3.add 0) fun i28=>aO (i28 ≥ 0) (rZ ao aj aq x3 x5 x6 x7 h) (Ke0 ao aj aq x3 x5 x6 h)) (Ke0 ao aj aq x3 x5 x6 h)) fun ao aj aq x3 x5 x6 x7 h=>aB L9 (fun ng=>zI .i64 h (x3.add 0) fun i18=>zT h (x3.add 1) fun QI=>zS h (x3.add 2) fun oR nS qH=>(0<=x7/\x7<(aj:Int))/\(ae ao fun a21=>zI .i64 h (((a21.add (Int.toNat x7*3))).add 0) fun i22=>zT h (((a21.add (Int.toNat x7*3))).add 1) fun Vs=>zS h (((a21.add (Int.toNat x7*3))).add 2) fun F4 F5 Mq=>zC 228 [(.agg ⟨[.int .i64 i18,S QI,.slice oR nS qH]⟩),(.agg ⟨[.int .i64 i22,S Vs,.slice F4 F5 Mq]⟩)] h fun v25 oC=>au v25 fun ZJ=>cond ZJ (bc .i64 (x5+(1:Int))/\(aO (x6<(0:Int)) (ng ao aj aq x3 (x5+(1:Int)) x7 x7 oC) (ng ao aj aq x3 (x5+(1:Int)) x6 x7 oC))) (ng ao aj aq x3 x5 x6 x7 oC))) fun ao aj aq x3 x5 x6 x7 h=>bc .i64 (x7+(1:Int))/\(K9 ao aj aq x3 x5 x6 (x7+(1:Int)) h)
abbrev uH (Kn Ke0:T4) (Kr:T0):Nat->T9:=LP L9 (zu Kn Ke0 Kr)
variable (K:KV) (h:H)
abbrev asks (ao:OA) (aj aq:Nat) (dh:Int) (di:List UInt8) (eZ:OA) (fb fc:Nat) (K:KV) (h:H):Prop:=cF L0 (fun Kr=>aB L2 (fun EE=>aw h ⟨[.int .i64 dh,S di,.slice eZ fb fc]⟩ 79 fun tH mq=>EE ao aj aq tH mq) fun ao aj aq x3 h=>aB L3 (fun Ah=>Ah ao aj aq x3 0 h) fun ao aj aq x3 x5 h=>aB L4 (fun za=>za ao aj aq x3 x5 (-1) h) fun ao aj aq x3 x5 x6 h=>aB L4 (fun K8=>aB L9 (fun BU=>zC 176 [.slice ao aj aq] h fun Jv tO=>aL .i64 Jv fun i31=>BU ao aj aq x3 x5 x6 i31 tO) fun ao aj aq x3 x5 x6 x7 h=>il L9 (zu K8 K8 Kr) fun K9=>K9 ao aj aq x3 x5 x6 x7 h) fun ao aj aq x3 x5 x6 h=>n5 ao aj aq x3 x5 x6 Kr Kr h) fun fJ fK fL h=>K (.slice fJ fK fL) h
theorem ok (q:asks ao aj aq dh di eZ fb fc K h):zC 207 [.slice ao aj aq,(.agg ⟨[.int .i64 dh,S di,.slice eZ fb fc]⟩)] h K:=
 cl Tryz.func207 q (fun p q=>sq (l:=L2) p q fun p q=>sq (l:=L3) p q fun p q=>sq (l:=L4) p q fun p q=>sc (l:=L4) q (fun q=>sq (l:=L9) p q fun p q=>bl (b:=0) (lp p q fun p q=>sq (l:=L9) p q fun p q=>sq (l:=L9) p q fun p q=>lf p q)) fun p q=>sq (l:=L5) p q fun p q=>sc (l:=L6) q (fun q=>sq (l:=L7) p q fun p q=>bl (b:=2) (lp p q fun p q=>sq (l:=L7) p q fun p q=>sc (l:=L7) q (fun q=>bl (b:=3) (sq (l:=L8) p q fun p q=>lf p q)) fun p q=>lf p q)) fun p q=>lf p q) fun p q=>rt p q
end Je
namespace Xba
abbrev L0:=[Za 4]
abbrev L3:=[Za 3,Za 4,Zr 8]
abbrev L2:=[Zl 0,Za 3,Za 4]
abbrev asks (ao:OA) (aj aq:Nat) (cf:OA) (bU cu:Nat) (K:KV) (h:H):Prop:=nQ L0 (fun Kr=>nQ L2 (fun K3=>aw h #[.slice cf bU cu] 39 fun oO gO=>aw gO #[.int .i64 0] 3 fun jK gx=>K3 ao aj aq oO jK [] gx) fun ao aj aq x3 x4 ds h=>nQ L0 (fun K1=>nQ L3 (fun K2=>zC 136 [.slice ao aj aq] h fun tN gX=>K2 x3 x4 tN ds gX) fun x3 x4 x8 ds h=>Oe Tryz.prog x8 2 [.o 9 (.i .i64),.g 10 [.i .i64,.s,.l]] h (fun p9 tf tg Gv Gw Gx Mid Kc Fin h1=>aw h1 ⟨[.int .i64 0,S [],.slice none 0 0]⟩ 79 fun a2 h3=>aZ a2 [.int .i64 tf,S tg,.slice Gv Gw Gx] 0 h3 fun h4=>Mid h4 fun gW=>zI .i64 gW (a2.add 0) fun i6=>aO (i6<(0:Int)) (bc .i64 (p9+(1:Int))/\(aZ x4 [.int .i64 (p9+(1:Int))] 0 gW fun h7=>Fin gW h7 fun h8=>Kr x4 (cr h.size::ds) h8)) (zS gW x3 fun wa uX yV=>zC 137 [.slice wa uX yV,(.func (.func 138) ⟨[]⟩ ⟨[.pointer (some a2)]⟩)] gW fun v10 eF=>au v10 fun VL=>cond VL (bc .i64 (p9+(1:Int))/\(aZ x4 [.int .i64 (p9+(1:Int))] 0 eF fun fi=>Fin gW fi fun dA=>Kr x4 (cr h.size::ds) dA)) (Kc gW eF))) (fun h4=>K1 x4 (cr h.size::ds) h4)) fun x4 ds h=>aZ x4 [.int .i64 0] 0 h fun h1=>Kr x4 ds h1) fun y4 ds h=>dE ds h fun h=>zI .i64 h y4 fun i21=>K (.int .i64 i21) h
theorem ok (ao:OA) (aj aq:Nat) (cf:OA) (bU cu:Nat) (K:KV) (h:H) (hS:asks ao aj aq cf bU cu K h):zC 62 [.slice ao aj aq,.slice cf bU cu] h K:=
 P3 Tryz.func62 hS (fun hg hS=>BC (l:=L2) hg hS fun hg hS=>Sa (l:=L0) hS (fun hS=>BC (l:=L3) hg hS fun hg hS=>bl (b:=0) (P4 (.tmp 8) #[9,10] hg hS)) fun hg hS=>P5 hg hS) fun hg hS=>P6 hg hS
end Xba
namespace JF
abbrev L0:=[Z6 4]
abbrev L2:List Sl:=[]
abbrev L3:=[Zl 0,Zl 1,Z6 5]
abbrev L4:=[Zl 0,Zl 1,Z6 5,Zb 6]
abbrev L5:=[Zl 0,Zl 1,Z6 5,Zb 6,Z6 7]
abbrev L1:=[Zl 0,Zl 1]
abbrev T0:=TK L0
abbrev T2:=TK L2
abbrev T3:=TK L3
abbrev T4:=TK L4
abbrev T5:=TK L5
variable (ao:OA) (aj aq:Nat) (cf:OA) (bU cu:Nat) (x5:Int) (x6:Bool)
abbrev n9 (Kn:T3) (Ke0:T2) (Kr:T0) (h:H):Prop:=
 bc .i64 (x5 - (1:Int))/\(Kn ao aj aq cf bU cu (x5 - (1:Int)) h)
abbrev SA (Kn qI:T4) (Ke1:T3) (Ke0:T2) (Kr:T0):T5->T5:=fun K5 ao aj aq cf bU cu x5 x6 x7 h=>aO (x7<(bU:Int)) (cond x6 (bc .i64 (x7+(1:Int))/\(K5 ao aj aq cf bU cu x5 true (x7+(1:Int)) h)) ((0<=x7/\x7<(bU:Int))/\(ae cf fun a1=>zI .i64 h ((a1.add (Int.toNat x7*4)).add 0) fun i2=>(0<=x5/\x5<(aj:Int))/\(ae ao fun a3=>zI .i64 h ((a3.add (Int.toNat x5*3)).add 0) fun i4=>aO (i2=i4) (bc .i64 (x7+(1:Int))/\(K5 ao aj aq cf bU cu x5 true (x7+(1:Int)) h)) (bc .i64 (x7+(1:Int))/\(K5 ao aj aq cf bU cu x5 false (x7+(1:Int)) h)))))) (qI ao aj aq cf bU cu x5 x6 h)
abbrev ZW (Kn qI:T4) (Ke1:T3) (Ke0:T2) (Kr:T0):Nat->T5:=LP L5 (SA Kn qI Ke1 Ke0 Kr)
abbrev uy (ao:OA) (aj aq:Nat) (cf:OA) (bU cu:Nat) (x5:Int) (x6:Bool) (Kn Ke1:T3) (Ke0:T2) (Kr:T0) (h:H):Prop:=
 aB L4 (fun K4=>aB L5 (fun K6=>K6 ao aj aq cf bU cu x5 x6 0 h) fun ao aj aq cf bU cu x5 x6 x7 h=>il L5 (SA K4 K4 Ke1 Ke0 Kr) fun K5=>K5 ao aj aq cf bU cu x5 x6 x7 h) fun ao aj aq cf bU cu x5 x6 h=>cond x6 (bc .i64 (x5+(1:Int))/\(Kr (x5+(1:Int)) h)) (Kn ao aj aq cf bU cu x5 h)
abbrev bS (Kn Ke0:T2) (Kr:T0):T3->T3:=fun K2 ao aj aq cf bU cu x5 h=>aB L3 (fun K8=>aO (x5 ≥ 0) (K8 ao aj aq cf bU cu x5 h) (Ke0 h)) fun ao aj aq cf bU cu x5 h=>aB L3 (fun K3=>aB L4 (fun K7=>(0<=x5/\x5<(aj:Int))/\(ae ao fun a5=>zI .i64 h ((a5.add (Int.toNat x5*3)).add 0) fun i6=>aO (i6<(0:Int)) (K7 ao aj aq cf bU cu x5 true h) (K7 ao aj aq cf bU cu x5 false h))) fun ao aj aq cf bU cu x5 x6 h=>uy ao aj aq cf bU cu x5 x6 K3 K3 Ke0 Kr h) fun ao aj aq cf bU cu x5 h=>n9 ao aj aq cf bU cu x5 K2 Ke0 Kr h
abbrev cR (Kn Ke0:T2) (Kr:T0):Nat->T3:=LP L3 (bS Kn Ke0 Kr)
variable (K:KV) (h:H)
abbrev asks (ao:OA) (aj aq:Nat) (cf:OA) (bU cu:Nat) (K:KV) (h:H):Prop:=cF L0 (fun Kr=>aB L1 (fun ng=>ng ao aj aq cf bU cu h) fun ao aj aq cf bU cu h=>aB L2 (fun K1=>aB L3 (fun K9=>bc .i64 ((aj:Int) - 1)/\(K9 ao aj aq cf bU cu ((aj:Int) - 1) h)) fun ao aj aq cf bU cu x5 h=>il L3 (bS K1 K1 Kr) fun K2=>K2 ao aj aq cf bU cu x5 h) fun h=>Kr 0 h) fun y4 h=>K (.int .i64 y4) h
theorem ok (q:asks ao aj aq cf bU cu K h):zC 102 [.slice ao aj aq,.slice cf bU cu] h K:=
 cl Tryz.func102 q (fun p q=>sq (l:=L1) p q fun p q=>sc (l:=L2) q (fun q=>sq (l:=L3) p q fun p q=>bl (b:=0) (lp p q fun p q=>sq (l:=L3) p q fun p q=>sc (l:=L3) q (fun q=>bl (b:=1) (sq (l:=L4) p q fun p q=>sc (l:=L4) q (fun q=>sq (l:=L5) p q fun p q=>bl (b:=2) (lp p q fun p q=>lf p q)) fun p q=>lf p q)) fun p q=>lf p q)) fun p q=>lf p q) fun p q=>rt p q
end JF
namespace Xfx
abbrev L0:=[Zr 2]
variable (ao:OA) (aj aq:Nat)
variable (K:KV) (h:H)
abbrev asks:Prop:=cF L0 (fun Kr=>aw h #[.slice ao aj aq] 40 fun a1 h2=>Kr (.func (.func 182) ⟨[]⟩ ⟨[.pointer (some a1)]⟩) h2) fun y2 h=>K y2 h
theorem ok (q:asks ao aj aq K h):zC 136 [.slice ao aj aq] h K:=
 cl Tryz.func136 q (fun p q=>lf p q) fun p q=>rt p q
end Xfx
namespace Xf3
abbrev L0:=[Zb 4]
variable (ao:OA) (aj aq:Nat) (x1:Value)
variable (K:KV) (h:H)
abbrev asks:Prop:=cF L0 (fun Kr=>zC 183 [.slice ao aj aq,x1] h fun v1 h2=>aL .i64 v1 fun i3=>aO (i3 ≥ 0) (Kr true h2) (Kr false h2)) fun y4 h=>K (.bool y4) h
theorem ok (q:asks ao aj aq x1 K h):zC 137 [.slice ao aj aq,x1] h K:=
 cl Tryz.func137 q (fun p q=>lf p q) fun p q=>rt p q
end Xf3
namespace Xbb
abbrev L0:=[Zb 3]
variable (cz cD:Int) (eA:List UInt8) (eQ:Int) (x1:Addr)
variable (K:KV) (h:H)
abbrev asks:Prop:=cF L0 (fun Kr=>aw h ⟨[.int .i64 cz,.int .u8 cD,S eA,.int .u8 eQ]⟩ 77 fun a1 h2=>zI .i64 h2 (a1.add 0) fun i3=>zI .i64 h2 (x1.add 0) fun i4=>aO (i3=i4) (Kr true h2) (Kr false h2)) fun y3 h=>K (.bool y3) h
theorem ok (q:asks cz cD eA eQ x1 K h):zC 138 [(.agg ⟨[.int .i64 cz,.int .u8 cD,S eA,.int .u8 eQ]⟩),.pointer (some x1)] h K:=
 cl Tryz.func138 q (fun p q=>lf p q) fun p q=>rt p q
end Xbb
namespace Xfv
abbrev L2:=[Zr 0,Za 1,Z6 3]
abbrev L0:List Sl:=[]
abbrev T0:=TK L0
abbrev T2:=TK L2
variable (x0:Value) (x1:Addr)
abbrev mA (Kn Ke0 Kr:T0):T2->T2:=fun K1 x0 x1 x3 h=>aO (x3 ≥ 0) (zS h x1 fun ZB UX s1c=>(0<=x3/\x3<(UX:Int))/\(ae ZB fun a2=>zI .i64 h (((a2.add (Int.toNat x3*3))).add 0) fun i3=>zT h (((a2.add (Int.toNat x3*3))).add 1) fun s4=>zS h (((a2.add (Int.toNat x3*3))).add 2) fun BG zX F9=>fT Tryz.prog 4 x0 ⟨[.int .i64 x3,(.agg ⟨[.int .i64 i3,S s4,.slice BG zX F9]⟩)]⟩ h fun v6 h7=>au v6 fun b8=>cond b8 (bc .i64 (x3 - (1:Int))/\(K1 x0 x1 (x3 - (1:Int)) h7)) (Kr h7))) (Ke0 h)
abbrev nv (Kn Ke0 Kr:T0):Nat->T2:=LP L2 (mA Kn Ke0 Kr)
variable (K:KV) (h:H)
abbrev asks (x0:Value) (x1:Addr) (K:KV) (h:H):Prop:=cF L0 (fun Kr=>aB L2 (fun K2=>zS h x1 fun wa uX yV=>bc .i64 ((uX:Int) - 1)/\(K2 x0 x1 ((uX:Int) - 1) h)) fun x0 x1 x3 h=>il L2 (mA Kr Kr Kr) fun K1=>K1 x0 x1 x3 h) fun h=>K (.tuple ⟨[]⟩) h
theorem ok (q:asks x0 x1 K h):zC 182 [x0,.pointer (some x1)] h K:=
 cl Tryz.func182 q (fun p q=>sq (l:=L2) p q fun p q=>bl (b:=0) (lp p q fun p q=>lf p q)) fun p q=>rt p q
end Xfv
namespace Xf0
abbrev L0:=[Zl 2]
variable (ao:OA) (aj aq:Nat)
variable (K:KV) (h:H)
abbrev asks:Prop:=cF L0 (fun Kr=>bf Tryz.prog (dX .eql 40 (.tmp 3) (.const (.slice none 0 0)) (.slice ao aj aq) (.slice none 0 0)) h fun v1 h2=>au v1 fun b3=>cond b3 (Kr none 0 0 h2) (aw h2 #[] 79 fun a4 h5=>bf Tryz.prog (Builtin.append_ #[40,40] 40 ⟨[.slice (some a4) 0 0,.slice ao aj aq]⟩) h5 fun v6 h7=>aA v6 fun ri qF ui=>Kr ri qF ui h7)) fun gq gr gu h=>K (.slice gq gr gu) h
theorem ok (q:asks ao aj aq K h):zC 63 [.slice ao aj aq] h K:=
 cl Tryz.func63 q (fun p q=>lf p q) fun p q=>rt p q
end Xf0
end Go.Proofs
