/- Own text. No condition. -/
import Derived.Test.YtijoifkjeamonaaGreatHc
import Derived.Test.YtijoifkjeamonaaGreatShR
import Derived.Test.YtijoifkjeamonaaGreatProg
namespace Go.Proofs
open Go Go.Sh
set_option linter.unusedVariables false
set_option maxRecDepth 100000
namespace Xaa
abbrev L3:=[Za 2,Za 3,Zr 10]
abbrev L0:List Sl:=[]
abbrev L2:=[Za 2,Za 3]
abbrev T0:=TD L0
abbrev n2 (x2 x3:Addr) (ds:List Deferred) (Kn Kr:T0) (h:H):Prop:=
 nF L3 (fun K1=>zP h x2 fun p25=>ae p25 fun a26=>zS h (a26.add 1) fun Gv Gw Nq=>zC 161 [.slice Gv Gw Nq] h fun v28 uW=>K1 x2 x3 v28 ds uW) fun x2 x3 bD ds h=>Oo Tryz.prog bD 2 [.o 11 (.i .i64),.g 12 [.i .i64,.i .u8,.s,.i .u8]] h (fun Fq NJ NK NL NM Mid Kc Fin h1=>aw h1 ⟨[.int .i64 0,.int .u8 0,S [],.int .u8 0]⟩ 77 fun a1 h2=>bc a1 [.int .i64 NJ,.int .u8 NK,S NL,.int .u8 NM] 0 h2 fun h3=>Mid h3 fun Cg=>aM (Fq=(0:Int)) (Fin Cg Cg fun h5=>Kr (cu h.size::ds) h5) (zI .u8 Cg (a1.add 1) fun i6=>aM (i6=(0:Int)) (zT Cg (a1.add 2) fun s7=>zT Cg x3 fun s8=>aM (s7=s8) (zP Cg x2 fun p9=>zC 57 [.pointer p9,.int .i64 Fq] Cg fun v10 eG=>Fin Cg eG fun eL=>Kr (cu h.size::ds) eL) (zI .u8 Cg (a1.add 1) fun i13=>zT Cg (a1.add 2) fun Cc=>zC 162 [.int .u8 i13,S Cc] Cg fun vd gZ=>au vd fun TI=>cond TI (Fin Cg gZ fun gI=>Kr (cu h.size::ds) gI) (Kc Cg gZ))) (zI .u8 Cg (a1.add 1) fun i19=>zT Cg (a1.add 2) fun s20=>zC 162 [.int .u8 i19,S s20] Cg fun v21 mB=>au v21 fun b23=>cond b23 (Fin Cg mB fun mC=>Kr (cu h.size::ds) mC) (Kc Cg mB)))) (fun h4=>Kn (cu h.size::ds) h4)
abbrev n1 (x0:OA) (x1:List UInt8) (ds:List Deferred) (Kn Kr:T0) (h:H):Prop:=
 nF L2 (fun K2=>aw h #[.pointer x0] 35 fun ES yh=>aw yh #[S x1] 9 fun tw lW=>K2 ES tw ds lW) fun x2 x3 ds h=>n2 x2 x3 ds Kn Kr h
abbrev asks (x0:OA) (x1:List UInt8) (K:KV) (h:H):Prop:=nF L0 (fun Kr=>n1 x0 x1 [] Kr Kr h) fun ds h=>dE ds h fun h=>K (.tuple ⟨[]⟩) h
theorem ok (x0:OA) (x1:List UInt8) (K:KV) (h:H) (hS:asks x0 x1 K h):zC 101 [.pointer x0,S x1] h K:=
 Qe Tryz.func101 hS (fun hg hS=>BG (l:=L2) hg hS fun hg hS=>BG (l:=L3) hg hS fun hg hS=>bl (b:=0) (Qf (.tmp 10) #[11,12] hg hS)) fun hg hS=>Qh hg hS
end Xaa
namespace Oi
abbrev L0:=[Zb 4]
abbrev L3:List Sl:=[]
abbrev L4:=[Zp 0,Zs 1,Zp 6,Z6 41]
abbrev L5:=[Zp 0,Zs 1,Zp 6,Z6 41,Zb 42]
abbrev L2:=[Zp 0,Zs 1,Zp 6]
abbrev L1:=[Zp 0,Zs 1]
abbrev L7:=[Zp 0,Zs 1,Zb 28]
abbrev L6:=[Zp 0,Zs 1,Za 5]
abbrev T0:=TK L0
abbrev T3:=TK L3
abbrev T4:=TK L4
abbrev T1:=TK L1
variable (x0:OA) (x1:List UInt8) (x5:Addr) (x6:OA) (HZ:Bool) (D0:Int) (EE:Bool)
abbrev n5 (Kn Kr:T0) (h:H):Prop:=
 Kr true h
abbrev rZ (Kn:T4) (Ke0:T3) (Kr:T0) (h:H):Prop:=
 cond EE (ae x0 fun a1=>zS h (a1.add 2) fun lN kW oy=>zC 152 [.slice lN kW oy,S x1] h fun v3 h4=>aL .i64 v3 fun i5=>aM (i5<(0:Int)) (Kr false h4) (zC 202 [.pointer x6,.int .i64 i5] h4 fun v6 h7=>au v6 fun b8=>cond b8 (bd .i64 (D0+(1:Int))/\(Kn x0 x1 x6 (D0+(1:Int)) h7)) (Ke0 h7))) (Ke0 h)
abbrev n9 (x0:OA) (x1:List UInt8) (x6:OA) (D0:Int) (Kn:T4) (Ke0:T3) (Kr:T0) (h:H):Prop:=
 aA L5 (fun K3=>aM (D0<(8:Int)) (K3 x0 x1 x6 D0 true h) (K3 x0 x1 x6 D0 false h)) fun x0 x1 x6 D0 EE h=>rZ x0 x1 x6 D0 EE Kn Ke0 Kr h
abbrev iq (Kn Ke0:T3) (Kr:T0):T4->T4:=fun K2 x0 x1 x6 D0 h=>n9 x0 x1 x6 D0 K2 Ke0 Kr h
abbrev gz (Kn Ke0:T3) (Kr:T0):Nat->T4:=LP L4 (iq Kn Ke0 Kr)
abbrev n6 (x0:OA) (x1:List UInt8) (x6:OA) (Kn:T3) (Kr:T0) (h:H):Prop:=
 aA L4 (fun K4=>K4 x0 x1 x6 0 h) fun x0 x1 x6 D0 h=>iy L4 (iq Kn Kn Kr) fun K2=>K2 x0 x1 x6 D0 h
abbrev n4 (Kn Kr:T0) (h:H):Prop:=
 aA L3 (fun K1=>n6 x0 x1 x6 K1 Kr h) fun h=>n5 Kn Kr h
abbrev n3 (x0:OA) (x1:List UInt8) (Kn Kr:T0) (h:H):Prop:=
 aA L2 (fun K5=>aw h ⟨[.pointer x0,S x1,.int .i64 0,.int .i64 0,.int .u8 0,S [],.int .u8 0,.int .i64 0]⟩ 168 fun a9 df=>K5 x0 x1 (some a9) df) fun x0 x1 x6 h=>n4 x0 x1 x6 Kn Kr h
abbrev JW (Kn:T1) (Kr:T0) (h:H):Prop:=
 cond HZ (ae x0 fun jC=>zS h (jC.add 1) fun pB lS pC=>bd .i64 ((lS:Int) - 1)/\(zC 57 [.pointer x0,.int .i64 ((lS:Int) - 1)] h fun mu dx=>Kr true dx)) (Kn x0 x1 h)
abbrev ui (x0:OA) (x1:List UInt8) (x5:Addr) (Kn:T1) (Kr:T0) (h:H):Prop:=
 aA L7 (fun K7=>zI .u8 h (x5.add 1) fun i15=>aM (i15=(0:Int)) (zT h (x5.add 2) fun MC=>aM (MC=x1) (ae x0 fun nE=>zS h (nE.add 2) fun gC fw fT=>zI .i64 h (x5.add 0) fun i19=>zC 201 [.slice gC fw fT,.int .i64 i19] h fun v20 qt=>aL .i64 v20 fun i22=>aM (i22<(0:Int)) (K7 x0 x1 true qt) (K7 x0 x1 false qt)) (K7 x0 x1 false h)) (K7 x0 x1 false h)) fun x0 x1 HZ h=>JW x0 x1 HZ Kn Kr h
abbrev Ar (x0:OA) (x1:List UInt8) (Kn:T1) (Kr:T0) (h:H):Prop:=
 aA L6 (fun K8=>zC 55 [.pointer x0] h fun v23 mC=>kV v23 fun l25=>aG l25 fun e26 l27=>aL .i64 e26 fun i28=>aG l27 fun e29 l30=>aL .u8 e29 fun i31=>aG l30 fun e32 l33=>gL e32 fun s34=>aG l33 fun e35 l36=>aL .u8 e35 fun i37=>cW l36 (aw mC ⟨[.int .i64 0,.int .u8 0,S [],.int .u8 0]⟩ 77 fun Jn yq=>bc Jn [.int .i64 i28,.int .u8 i31,S s34,.int .u8 i37] 0 yq fun DW=>K8 x0 x1 Jn DW)) fun x0 x1 x5 h=>ui x0 x1 x5 Kn Kr h
abbrev n2 (x0:OA) (x1:List UInt8) (Kn Kr:T0) (h:H):Prop:=
 aA L1 (fun K6=>Ar x0 x1 K6 Kr h) fun x0 x1 h=>n3 x0 x1 Kn Kr h
abbrev n1 (x0:OA) (x1:List UInt8) (Kn Kr:T0) (h:H):Prop:=
 aA L1 (fun K9=>K9 x0 x1 h) fun x0 x1 h=>n2 x0 x1 Kn Kr h
variable (K:KV) (h:H)
abbrev asks:Prop:=cF L0 (fun Kr=>n1 x0 x1 Kr Kr h) fun y4 h=>K (.bool y4) h
theorem ok (q:asks x0 x1 K h):zC 160 [.pointer x0,S x1] h K:=
 cl Tryz.func160 q (fun p q=>sq (l:=L1) p q fun p q=>sc (l:=L1) q (fun q=>sq (l:=L6) p q fun p q=>sq (l:=L7) p q fun p q=>lf p q) fun p q=>sq (l:=L2) p q fun p q=>sc (l:=L3) q (fun q=>sq (l:=L4) p q fun p q=>bl (b:=0) (lp p q fun p q=>sq (l:=L5) p q fun p q=>lf p q)) fun p q=>lf p q) fun p q=>rt p q
end Oi
namespace Xag
abbrev L0:=[Zb 4]
abbrev L4:=[Zp 0,Z6 5,Z6 6]
abbrev L3:=[Zp 0,Z6 1,Z6 5,Z6 6]
abbrev L2:=[Zp 0,Z6 1,Z6 5]
abbrev L1:=[Zp 0,Z6 1]
abbrev T0:=TK L0
variable (x0:OA) (x1 x5 x6:Int)
abbrev n7 (Kn Kr:T0) (h:H):Prop:=
 bd .i64 (x5+(1:Int))/\(bd .i64 (x6+(x5+(1:Int)))/\(ae x0 fun a1=>zP h (a1.add 0) fun p2=>ae p2 fun a3=>zS h (a3.add 1) fun oe oI uP=>(0<=(x6+(x5+(1:Int)))/\(x6+(x5+(1:Int)))<(oI:Int))/\(ae oe fun a5=>zI .i64 h (((a5.add (Int.toNat (x6+(x5+(1:Int)))*4))).add 0) fun i6=>zI .u8 h (((a5.add (Int.toNat (x6+(x5+(1:Int)))*4))).add 1) fun i7=>zT h (((a5.add (Int.toNat (x6+(x5+(1:Int)))*4))).add 2) fun s8=>zI .u8 h (((a5.add (Int.toNat (x6+(x5+(1:Int)))*4))).add 3) fun i9=>ae x0 fun jB=>bc (jB.add 3) [.int .i64 i6,.int .u8 i7,S s8,.int .u8 i9] 0 h fun eG=>ae x0 fun a12=>zP eG (a12.add 0) fun Va=>ae Va fun lE=>zS eG (lE.add 1) fun kH kX oz=>bd .i64 (x5 - (1:Int))/\((0<=(x5 - (1:Int))/\(x5 - (1:Int))<(kX:Int))/\(ae kH fun pv=>zI .i64 eG (((pv.add (Int.toNat (x5 - (1:Int))*4))).add 0) fun i17=>zI .u8 eG (((pv.add (Int.toNat (x5 - (1:Int))*4))).add 1) fun i18=>zT eG (((pv.add (Int.toNat (x5 - (1:Int))*4))).add 2) fun QR=>zI .u8 eG (((pv.add (Int.toNat (x5 - (1:Int))*4))).add 3) fun i20=>aw eG ⟨[.int .i64 0,.int .u8 0,S [],.int .u8 0]⟩ 77 fun a21 mB=>bc a21 [.int .i64 i17,.int .u8 i18,S QR,.int .u8 i20] 0 mB fun qu=>zC 226 [.pointer x0,(.int .i64 (x6+(x5+(1:Int))))] qu fun v24 iF=>aL .i64 v24 fun i26=>ae x0 fun yp=>zP iF (yp.add 0) fun p28=>zI .i64 iF (a21.add 0) fun i29=>zI .u8 iF (a21.add 1) fun i30=>zT iF (a21.add 2) fun s31=>zI .u8 iF (a21.add 3) fun i32=>zC 54 [.pointer p28,(.agg ⟨[.int .i64 i29,.int .u8 i30,S s31,.int .u8 i32]⟩)] iF fun Ot tY=>ni Ot fun l35=>aG l35 fun e36 l37=>aL .i64 e36 fun i38=>aG l37 fun e39 l40=>aL .i64 e39 fun i41=>cW l40 (ae x0 fun QU=>zP tY (QU.add 0) fun p43=>ae p43 fun a44=>zP tY (a44.add 0) fun p45=>zC 65 [.pointer p45,.int .i64 i38,.int .i64 i41,.int .i64 i26] tY fun v46 EW=>au v46 fun b48=>cond b48 (zC 227 [.pointer x0] EW fun v49 YK=>Kr true YK) (zC 227 [.pointer x0] EW fun v51 h52=>Kr true h52)))))))
abbrev n6 (x0:OA) (x1 x5 x6:Int) (Kn Kr:T0) (h:H):Prop:=
 aA L4 (fun K1=>aM (x6<(0:Int)) (ae x0 fun a53=>zP h (a53.add 0) fun p54=>zC 57 [.pointer p54,.int .i64 x5] h fun v55 h56=>zC 223 [.pointer x0,.int .i64 x1] h56 fun v57 h58=>Kr false h58) (K1 x0 x5 x6 h)) fun x0 x5 x6 h=>n7 x0 x5 x6 Kn Kr h
abbrev n5 (x0:OA) (x1 x5:Int) (Kn Kr:T0) (h:H):Prop:=
 aA L3 (fun K2=>ae x0 fun a59=>zP h (a59.add 0) fun p60=>ae p60 fun Ql=>zS h (Ql.add 1) fun Wh Jw Q6=>bd .i64 (x5+(1:Int))/\((0<=(x5+(1:Int))/\(x5+(1:Int))<=(Jw:Int)/\(Jw:Int)<=(Q6:Int))/\(zC 183 [(.slice (if Q6=Int.toNat (x5+(1:Int)) then Wh else Option.map (fun q=>q.add (Int.toNat (x5+(1:Int))*4)) Wh) (Int.toNat (Jw:Int) - Int.toNat (x5+(1:Int))) (Q6 - Int.toNat (x5+(1:Int)))),(.func (.func 225) ⟨[]⟩ ⟨[]⟩)] h fun v63 h64=>aL .i64 v63 fun i65=>K2 x0 x1 x5 i65 h64))) fun x0 x1 x5 x6 h=>n6 x0 x1 x5 x6 Kn Kr h
abbrev n4 (x0:OA) (x1 x5:Int) (Kn Kr:T0) (h:H):Prop:=
 aA L2 (fun K3=>aM (x5<(0:Int)) (zC 223 [.pointer x0,.int .i64 x1] h fun v66 h67=>Kr false h67) (zC 224 [.pointer x0,.int .i64 x5] h fun v68 Wi=>au v68 fun b70=>cond b70 (K3 x0 x1 x5 Wi) (Kr false Wi))) fun x0 x1 x5 h=>n5 x0 x1 x5 Kn Kr h
abbrev n3 (x0:OA) (x1:Int) (Kn Kr:T0) (h:H):Prop:=
 aA L2 (fun K4=>ae x0 fun a71=>zI .i64 h (a71.add 2) fun i72=>zC 222 [.pointer x0,.int .i64 i72] h fun Xr SR=>aL .i64 Xr fun i75=>K4 x0 x1 i75 SR) fun x0 x1 x5 h=>n4 x0 x1 x5 Kn Kr h
abbrev n2 (x0:OA) (x1:Int) (Kn Kr:T0) (h:H):Prop:=
 aA L1 (fun K5=>ae x0 fun a76=>zP h (a76.add 0) fun p77=>ae p77 fun a78=>zS h (a78.add 2) fun Wk Wl aaZ=>(0<=x1/\x1<(Wl:Int))/\(ae Wk fun a80=>zI .i64 h ((a80.add (Int.toNat x1*3)).add 0) fun i81=>ae x0 fun a82=>bc (a82.add 2) [.int .i64 i81] 0 h fun h83=>ae x0 fun a84=>bc (a84.add 7) [.int .i64 x1] 0 h83 fun S0=>K5 x0 x1 S0)) fun x0 x1 h=>n3 x0 x1 Kn Kr h
abbrev n1 (x0:OA) (x1:Int) (Kn Kr:T0) (h:H):Prop:=
 aA L1 (fun K6=>K6 x0 x1 h) fun x0 x1 h=>n2 x0 x1 Kn Kr h
variable (K:KV) (h:H)
abbrev asks:Prop:=cF L0 (fun Kr=>n1 x0 x1 Kr Kr h) fun y4 h=>K (.bool y4) h
theorem ok (q:asks x0 x1 K h):zC 202 [.pointer x0,.int .i64 x1] h K:=
 cl Tryz.func202 q (fun p q=>sq (l:=L1) p q fun p q=>sq (l:=L1) p q fun p q=>sq (l:=L2) p q fun p q=>sq (l:=L2) p q fun p q=>sq (l:=L3) p q fun p q=>sq (l:=L4) p q fun p q=>lf p q) fun p q=>rt p q
end Xag
namespace Xah
abbrev L0:=[Zb 2]
abbrev T0:=TK L0
variable (cE cG:Int) (eu:List UInt8) (eP:Int)
abbrev n1 (Kn Kr:T0) (h:H):Prop:=
 aw h ⟨[.int .i64 cE,.int .u8 cG,S eu,.int .u8 eP]⟩ 77 fun a1 h2=>zI .u8 h2 (a1.add 1) fun i3=>zT h2 (a1.add 2) fun s4=>zC 162 [.int .u8 i3,S s4] h2 fun v5 h6=>au v5 fun b7=>cond b7 (Kr true h6) (Kr false h6)
variable (K:KV) (h:H)
abbrev asks:Prop:=cF L0 (fun Kr=>n1 cE cG eu eP Kr Kr h) fun y2 h=>K (.bool y2) h
theorem ok (q:asks cE cG eu eP K h):zC 225 [(.agg ⟨[.int .i64 cE,.int .u8 cG,S eu,.int .u8 eP]⟩)] h K:=
 cl Tryz.func225 q (fun p q=>lf p q) fun p q=>rt p q
end Xah
namespace Xac
abbrev L0:=[Z6 4]
abbrev T0:=TK L0
variable (x0:OA) (x1:Int)
abbrev n1 (Kn Kr:T0) (h:H):Prop:=
 aw h #[.int .i64 x1] 3 fun a1 h2=>ae x0 fun a3=>zP h2 (a3.add 0) fun p4=>ae p4 fun a5=>zS h2 (a5.add 1) fun lO gV mM=>zC 183 [.slice lO gV mM,(.func (.func 236) ⟨[]⟩ ⟨[.pointer (some a1)]⟩)] h2 fun v7 h8=>aL .i64 v7 fun i9=>Kr i9 h8
variable (K:KV) (h:H)
abbrev asks:Prop:=cF L0 (fun Kr=>n1 x0 x1 Kr Kr h) fun y4 h=>K (.int .i64 y4) h
theorem ok (q:asks x0 x1 K h):zC 222 [.pointer x0,.int .i64 x1] h K:=
 cl Tryz.func222 q (fun p q=>lf p q) fun p q=>rt p q
end Xac
namespace Xad
abbrev L0:=[Zb 3]
abbrev T0:=TK L0
variable (cE cG:Int) (eu:List UInt8) (eP:Int) (x1:Addr)
abbrev n1 (Kn Kr:T0) (h:H):Prop:=
 aw h ⟨[.int .i64 cE,.int .u8 cG,S eu,.int .u8 eP]⟩ 77 fun a1 h2=>zI .i64 h2 (a1.add 0) fun i3=>zI .i64 h2 x1 fun i4=>aM (i3=i4) (Kr true h2) (Kr false h2)
variable (K:KV) (h:H)
abbrev asks:Prop:=cF L0 (fun Kr=>n1 cE cG eu eP x1 Kr Kr h) fun y3 h=>K (.bool y3) h
theorem ok (q:asks cE cG eu eP x1 K h):zC 236 [(.agg ⟨[.int .i64 cE,.int .u8 cG,S eu,.int .u8 eP]⟩),.pointer (some x1)] h K:=
 cl Tryz.func236 q (fun p q=>lf p q) fun p q=>rt p q
end Xad
namespace Xaj
abbrev L0:List Sl:=[]
abbrev L1:=[Zp 0,Z6 1]
abbrev T0:=TK L0
variable (x0:OA) (x1:Int)
abbrev n2 (Kn Kr:T0) (h:H):Prop:=
 ae x0 fun a1=>zI .i64 h (a1.add 7) fun i2=>aM (x1<i2) (ae x0 fun a3=>zI .i64 h (a3.add 7) fun i4=>bd .i64 (i4 - (1:Int))/\(ae x0 fun a5=>bc (a5.add 7) [.int .i64 (i4 - (1:Int))] 0 h fun h6=>Kn h6)) (Kn h)
abbrev n1 (x0:OA) (x1:Int) (Kn Kr:T0) (h:H):Prop:=
 aA L1 (fun K1=>(ae x0 fun a7=>ae x0 fun a8=>zP h (a8.add 0) fun p9=>ae p9 fun jB=>zS h (jB.add 2) fun mN kZ lR=>bd .i64 (x1+(1:Int))/\(zC 63 [.slice mN kZ lR] h fun v12 fI=>aB v12 fun xT xU xV=>bG h fI/\(zC 237 [.slice xT xU xV,.int .i64 x1,.int .i64 (x1+(1:Int))] fI fun vd gZ=>aB vd fun qx oB qy=>zP gZ (a7.add 0) fun p18=>ae p18 fun jh=>bc (jh.add 2) [.slice qx oB qy] 0 gZ fun gm=>K1 x0 x1 gm)))/\(ae x0 fun a21=>zP h (a21.add 0) fun p22=>ae x0 fun a23=>zP h (a23.add 0) fun p24=>ae p24 fun a25=>zS h (a25.add 2) fun AQ AR AT=>bd .i64 (x1+(1:Int))/\(zC 63 [.slice AQ AR AT] h fun zY lY=>aB zY fun DU BH DV=>bG h lY/\(zC 237 [.slice DU BH DV,.int .i64 x1,.int .i64 (x1+(1:Int))] lY fun v30 yh=>aB v30 fun za xQ xR=>ae p22 fun EF=>bc (EF.add 2) [.slice za xQ xR] 0 yh fun tY=>K1 x0 x1 tY)))) fun x0 x1 h=>n2 x0 x1 Kn Kr h
variable (K:KV) (h:H)
abbrev asks:Prop:=cF L0 (fun Kr=>n1 x0 x1 Kr Kr h) fun h=>K (.tuple ⟨[]⟩) h
theorem ok (q:asks x0 x1 K h):zC 223 [.pointer x0,.int .i64 x1] h K:=
 cl Tryz.func223 q (fun p q=>sq (l:=L1) p q fun p q=>lf p q) fun p q=>rt p q
end Xaj
namespace Xai
abbrev L0:=[Zb 4]
abbrev L2:List Sl:=[]
abbrev L3:=[Zl 17,Z6 18,Z6 19]
abbrev L1:=[Zp 0,Z6 1]
abbrev T0:=TK L0
abbrev T2:=TK L2
abbrev T3:=TK L3
variable (x0:OA) (x1:Int)
abbrev n3 (Kn Kr:T0) (h:H):Prop:=
 Kr true h
abbrev bU (Kn Ke0:T2) (Kr:T0):T3->T3:=fun K2 Q7 Q8 Wm qC pZ h=>aM (pZ<qC) ((0<=pZ/\pZ<(Q8:Int))/\(ae Q7 fun a1=>zI .i64 h (((a1.add (Int.toNat pZ*4))).add 0) fun i2=>zI .u8 h (((a1.add (Int.toNat pZ*4))).add 1) fun i3=>zT h (((a1.add (Int.toNat pZ*4))).add 2) fun s4=>zI .u8 h (((a1.add (Int.toNat pZ*4))).add 3) fun i5=>aw h ⟨[.int .i64 0,.int .u8 0,S [],.int .u8 0]⟩ 77 fun a6 h7=>bc a6 [.int .i64 i2,.int .u8 i3,S s4,.int .u8 i5] 0 h7 fun h8=>zI .i64 h8 (a6.add 0) fun i9=>zI .u8 h8 (a6.add 1) fun i10=>zT h8 (a6.add 2) fun ve=>zI .u8 h8 (a6.add 3) fun i12=>aw h8 #[.int .i64 0,.int .u8 0,S [42],.int .u8 0,.int .i64 i9,.int .u8 i10,S ve,.int .u8 i12] 77 fun oE dx=>aw dx #[S [42]] 9 fun oF gZ=>zC 191 [.slice (some oE) 2 2,.int .u8 0,.slice (some oF) 1 1] gZ fun EI gI=>au EI fun b19=>cond b19 (bd .i64 (pZ+(1:Int))/\(K2 Q7 Q8 Wm qC (pZ+(1:Int)) gI)) (Kr false gI))) (Ke0 h)
abbrev cQ (Kn Ke0:T2) (Kr:T0):Nat->T3:=LP L3 (bU Kn Ke0 Kr)
abbrev n4 (Kn:T2) (Kr:T0) (h:H):Prop:=
 aA L3 (fun K3=>ae x0 fun a20=>zP h (a20.add 0) fun p21=>ae p21 fun a22=>zS h (a22.add 1) fun vu sR vz=>bd .i64 (x1+(1:Int))/\((0<=(x1+(1:Int))/\(x1+(1:Int))<=(sR:Int)/\(sR:Int)<=(vz:Int))/\(K3 (if vz=Int.toNat (x1+(1:Int)) then vu else Option.map (fun q=>q.add (Int.toNat (x1+(1:Int))*4)) vu) (Int.toNat (sR:Int) - Int.toNat (x1+(1:Int))) (vz - Int.toNat (x1+(1:Int))) (((Int.toNat (sR:Int) - Int.toNat (x1+(1:Int))):Nat):Int) 0 h))) fun Q7 Q8 Wm qC pZ h=>iy L3 (bU Kn Kn Kr) fun K2=>K2 Q7 Q8 Wm qC pZ h
abbrev n2 (Kn Kr:T0) (h:H):Prop:=
 aA L2 (fun K1=>n4 x0 x1 K1 Kr h) fun h=>n3 Kn Kr h
abbrev n1 (x0:OA) (x1:Int) (Kn Kr:T0) (h:H):Prop:=
 aA L1 (fun K4=>K4 x0 x1 h) fun x0 x1 h=>n2 x0 x1 Kn Kr h
variable (K:KV) (h:H)
abbrev asks:Prop:=cF L0 (fun Kr=>n1 x0 x1 Kr Kr h) fun y4 h=>K (.bool y4) h
theorem ok (q:asks x0 x1 K h):zC 224 [.pointer x0,.int .i64 x1] h K:=
 cl Tryz.func224 q (fun p q=>sq (l:=L1) p q fun p q=>sc (l:=L2) q (fun q=>sq (l:=L3) p q fun p q=>bl (b:=0) (lp p q fun p q=>lf p q)) fun p q=>lf p q) fun p q=>rt p q
end Xai
namespace GF
abbrev L0:=[Z6 4]
abbrev L3:=[Z6 5]
abbrev L2:=[Zp 0,Z6 1,Z6 5,Z6 6]
abbrev L7:=[Zp 0,Z6 1,Z6 5,Z6 6,Z6 9]
abbrev L6:=[Zp 0,Z6 1,Z6 5,Z6 6,Z6 8,Z6 9]
abbrev L5:=[Zp 0,Z6 1,Z6 5,Z6 6,Za 7,Z6 8]
abbrev L4:=[Zp 0,Z6 1,Z6 5,Z6 6,Za 7]
abbrev L1:=[Zp 0,Z6 1]
abbrev T0:=TK L0
abbrev T3:=TK L3
abbrev T2:=TK L2
variable (x0:OA) (x1 x5 x6:Int) (x7:Addr) (x8 x9:Int)
abbrev n6 (Kn Kr:T0) (h:H):Prop:=
 Kr x5 h
abbrev n20 (Kn Ke1:T2) (Ke0:T3) (Kr:T0) (h:H):Prop:=
 ae x0 fun a1=>zP h (a1.add 0) fun p2=>ae p2 fun a3=>zP h (a3.add 0) fun p4=>zC 65 [.pointer p4,.int .i64 x9,.int .i64 (-1),.int .i64 x5] h fun v5 h6=>au v5 fun b7=>cond b7 (Kn x0 x1 x9 x6 h6) (Kn x0 x1 x9 x6 h6)
abbrev n19 (x0:OA) (x1 x5 x6 x8 x9:Int) (Kn Ke1:T2) (Ke0:T3) (Kr:T0) (h:H):Prop:=
 aA L7 (fun K3=>ae x0 fun a8=>zI .i64 h ((a8.add 3).add 0) fun i9=>aM (x5=i9) (bd .i64 (x8+(1:Int))/\(ae x0 fun jB=>bc (jB.add 7) [.int .i64 (x8+(1:Int))] 0 h fun eG=>K3 x0 x1 x5 x6 x9 eG)) (K3 x0 x1 x5 x6 x9 h)) fun x0 x1 x5 x6 x9 h=>n20 x0 x1 x5 x6 x9 Kn Ke1 Ke0 Kr h
abbrev n18 (x0:OA) (x1 x5 x6 x8 x9:Int) (Kn Ke1:T2) (Ke0:T3) (Kr:T0) (h:H):Prop:=
 aA L6 (fun K4=>ae x0 fun a12=>zP h (a12.add 0) fun Va=>ae Va fun lE=>zS h (lE.add 1) fun kH kX oz=>ae x0 fun pv=>zP h (pv.add 0) fun p17=>ae p17 fun sJ=>zS h (sJ.add 2) fun qw pw pz=>(0<=x1/\x1<(kX:Int))/\(ae kH fun a20=>bc ((a20.add (Int.toNat x1*4)).add 0) [.int .i64 x9] 0 h fun qt=>(0<=x8/\x8<(pw:Int))/\(ae qw fun a22=>bc ((a22.add (Int.toNat x8*3)).add 0) [.int .i64 x9] 0 qt fun qu=>K4 x0 x1 x5 x6 x8 x9 qu))) fun x0 x1 x5 x6 x8 x9 h=>n19 x0 x1 x5 x6 x8 x9 Kn Ke1 Ke0 Kr h
abbrev n17 (x0:OA) (x1 x5 x6:Int) (x7:Addr) (x8:Int) (Kn Ke1:T2) (Ke0:T3) (Kr:T0) (h:H):Prop:=
 aA L6 (fun K5=>ae x0 fun a24=>zP h (a24.add 0) fun p25=>ae p25 fun a26=>zP h (a26.add 0) fun QT=>zI .i64 h (x7.add 0) fun i28=>zC 238 [.pointer QT,.int .i64 i28] h fun Od u3=>aL .i64 Od fun i31=>K5 x0 x1 x5 x6 x8 i31 u3) fun x0 x1 x5 x6 x8 x9 h=>n18 x0 x1 x5 x6 x8 x9 Kn Ke1 Ke0 Kr h
abbrev n16 (x0:OA) (x1 x5 x6:Int) (x7:Addr) (x8:Int) (Kn Ke1:T2) (Ke0:T3) (Kr:T0) (h:H):Prop:=
 aA L5 (fun K6=>aM (x8<(0:Int)) (ae x0 fun tw=>zP h (tw.add 0) fun p33=>zI .i64 h (x7.add 0) fun i34=>zC 155 [.pointer p33,.int .i64 i34] h fun Kj uq=>Ke1 x0 x1 x5 x6 uq) (K6 x0 x1 x5 x6 x7 x8 h)) fun x0 x1 x5 x6 x7 x8 h=>n17 x0 x1 x5 x6 x7 x8 Kn Ke1 Ke0 Kr h
abbrev n15 (x0:OA) (x1 x5 x6:Int) (x7:Addr) (x8:Int) (Kn Ke1:T2) (Ke0:T3) (Kr:T0) (h:H):Prop:=
 aA L5 (fun K7=>aM (x8 ≥ 0) (aM (x6>(3:Int)) (zC 223 [.pointer x0,.int .i64 x8] h fun v37 Cd=>K7 x0 x1 x5 x6 x7 (-1) Cd) (K7 x0 x1 x5 x6 x7 x8 h)) (K7 x0 x1 x5 x6 x7 x8 h)) fun x0 x1 x5 x6 x7 x8 h=>n16 x0 x1 x5 x6 x7 x8 Kn Ke1 Ke0 Kr h
abbrev JD (x0:OA) (x1 x5 x6:Int) (x7:Addr) (Kn Ke1:T2) (Ke0:T3) (Kr:T0) (h:H):Prop:=
 aA L5 (fun K8=>ae x0 fun VD=>zP h (VD.add 0) fun p40=>ae p40 fun VE=>zS h (VE.add 2) fun QM Jk QN=>zI .i64 h (x7.add 0) fun i43=>zC 201 [.slice QM Jk QN,.int .i64 i43] h fun I8 uO=>aL .i64 I8 fun i46=>K8 x0 x1 x5 x6 x7 i46 uO) fun x0 x1 x5 x6 x7 x8 h=>n15 x0 x1 x5 x6 x7 x8 Kn Ke1 Ke0 Kr h
abbrev JW (x0:OA) (x1 x5 x6:Int) (x7:Addr) (Kn Ke1:T2) (Ke0:T3) (Kr:T0) (h:H):Prop:=
 aA L4 (fun K9=>zI .i64 h (x7.add 0) fun i47=>ae x0 fun Nr=>zI .i64 h (Nr.add 2) fun i49=>aM (i47=i49) (Ke0 x5 h) (K9 x0 x1 x5 x6 x7 h)) fun x0 x1 x5 x6 x7 h=>JD x0 x1 x5 x6 x7 Kn Ke1 Ke0 Kr h
abbrev ui (x0:OA) (x1 x5 x6:Int) (Kn Ke1:T2) (Ke0:T3) (Kr:T0) (h:H):Prop:=
 aA L4 (fun lV=>ae x0 fun OC=>zP h (OC.add 0) fun p51=>ae p51 fun a52=>zS h (a52.add 1) fun Wn Wo ahU=>(0<=x1/\x1<(Wo:Int))/\(ae Wn fun SS=>zI .i64 h (((SS.add (Int.toNat x1*4))).add 0) fun i55=>zI .u8 h (((SS.add (Int.toNat x1*4))).add 1) fun i56=>zT h (((SS.add (Int.toNat x1*4))).add 2) fun s57=>zI .u8 h (((SS.add (Int.toNat x1*4))).add 3) fun i58=>aw h ⟨[.int .i64 0,.int .u8 0,S [],.int .u8 0]⟩ 77 fun a59 Eu=>bc a59 [.int .i64 i55,.int .u8 i56,S s57,.int .u8 i58] 0 Eu fun h61=>lV x0 x1 x5 x6 a59 h61)) fun x0 x1 x5 x6 x7 h=>JW x0 x1 x5 x6 x7 Kn Ke1 Ke0 Kr h
abbrev Ar (x0:OA) (x1 x5 x6:Int) (Kn Ke1:T2) (Ke0:T3) (Kr:T0) (h:H):Prop:=
 aA L2 (fun re=>bd .i64 (x6+(1:Int))/\(re x0 x1 x5 (x6+(1:Int)) h)) fun x0 x1 x5 x6 h=>ui x0 x1 x5 x6 Kn Ke1 Ke0 Kr h
abbrev rZ (x0:OA) (x1 x5 x6:Int) (Kn Ke1:T2) (Ke0:T3) (Kr:T0) (h:H):Prop:=
 aA L2 (fun zb=>bd .i64 (x1 - (1:Int))/\(zb x0 (x1 - (1:Int)) x5 x6 h)) fun x0 x1 x5 x6 h=>Ar x0 x1 x5 x6 Kn Ke1 Ke0 Kr h
abbrev iq (Kn Ke0:T3) (Kr:T0):T2->T2:=fun K2 x0 x1 x5 x6 h=>rZ x0 x1 x5 x6 K2 K2 Ke0 Kr h
abbrev gz (Kn Ke0:T3) (Kr:T0):Nat->T2:=LP L2 (iq Kn Ke0 Kr)
abbrev n5 (x0:OA) (x1 x5 x6:Int) (Kn Kr:T0) (h:H):Prop:=
 aA L3 (fun K1=>iy L2 (iq K1 K1 Kr) fun K2=>K2 x0 x1 x5 x6 h) fun x5 h=>n6 x5 Kn Kr h
abbrev n4 (x0:OA) (x1 x5 x6:Int) (Kn Kr:T0) (h:H):Prop:=
 aA L2 (fun xS=>xS x0 x1 x5 x6 h) fun x0 x1 x5 x6 h=>n5 x0 x1 x5 x6 Kn Kr h
abbrev n3 (x0:OA) (x1:Int) (Kn Kr:T0) (h:H):Prop:=
 aA L2 (fun yw=>ae x0 fun a62=>zI .i64 h ((a62.add 3).add 0) fun i63=>yw x0 x1 i63 0 h) fun x0 x1 x5 x6 h=>n4 x0 x1 x5 x6 Kn Kr h
abbrev n1 (x0:OA) (x1:Int) (Kn Kr:T0) (h:H):Prop:=
 aA L1 (fun Cf=>Cf x0 x1 h) fun x0 x1 h=>n3 x0 x1 Kn Kr h
variable (K:KV) (h:H)
abbrev asks:Prop:=cF L0 (fun Kr=>n1 x0 x1 Kr Kr h) fun y4 h=>K (.int .i64 y4) h
theorem ok (q:asks x0 x1 K h):zC 226 [.pointer x0,.int .i64 x1] h K:=
 cl Tryz.func226 q (fun p q=>sq (l:=L1) p q fun p q=>so (sq (l:=L2) p q fun p q=>sq (l:=L2) p q fun p q=>sc (l:=L3) q (fun q=>bl (b:=0) (lp p q fun p q=>bl (b:=1) (sq (l:=L2) p q fun p q=>sq (l:=L2) p q fun p q=>sq (l:=L4) p q fun p q=>sq (l:=L4) p q fun p q=>sq (l:=L5) p q fun p q=>sq (l:=L5) p q fun p q=>sq (l:=L5) p q fun p q=>sq (l:=L6) p q fun p q=>sq (l:=L6) p q fun p q=>sq (l:=L7) p q fun p q=>lf p q))) fun p q=>lf p q)) fun p q=>rt p q
end GF
namespace Oh
abbrev L0:List Sl:=[]
abbrev L6:=[Zp 0,Z6 2,Za 5]
abbrev L2:=[Zp 0,Z6 2]
abbrev L5:=[Zp 0,Z6 2,Za 4]
abbrev L4:=[Zp 0,Z6 2,Z6 3,Za 4]
abbrev L3:=[Zp 0,Z6 2,Z6 3]
abbrev T0:=TK L0
variable (x0:OA) (x2 x3:Int) (x4 x5:Addr)
abbrev rZ (Kn Kr:T0) (h:H):Prop:=
 bc (x5.add 0) [.int .i64 x2] 0 h fun h1=>ae x0 fun a2=>zP h1 (a2.add 0) fun p3=>ae x0 fun a4=>zI .i64 h1 (a4.add 2) fun i5=>zC 155 [.pointer p3,.int .i64 i5] h1 fun v6 h7=>((ae x0 fun a8=>ae x0 fun a9=>zP h7 (a9.add 0) fun p10=>ae p10 fun jC=>zS h7 (jC.add 1) fun pB lS pC=>ae x0 fun oE=>zI .i64 h7 ((oE.add 3).add 0) fun i14=>zI .i64 h7 (x5.add 0) fun i15=>zI .u8 h7 (x5.add 1) fun i16=>zT h7 (x5.add 2) fun OB=>zI .u8 h7 (x5.add 3) fun i18=>zC 222 [.pointer x0,.int .i64 i14] h7 fun xv gm=>aL .i64 xv fun i21=>bG h7 gm/\(bd .i64 (i21+(1:Int))/\(aw gm #[.int .i64 i15,.int .u8 i16,S OB,.int .u8 i18] 77 fun a22 qu=>bG gm qu/\(zC 241 [.slice pB lS pC,.int .i64 (i21+(1:Int)),.slice (some a22) 1 1] qu fun v24 iF=>aB v24 fun AQ AR AT=>zP iF (a8.add 0) fun QT=>ae QT fun a28=>bc (a28.add 1) [.slice AQ AR AT] 0 iF fun uW=>Kn uW))))/\(ae x0 fun ES=>ae x0 fun a31=>zP h7 (a31.add 0) fun p32=>ae p32 fun EF=>zS h7 (EF.add 1) fun xx xy yV=>ae x0 fun NI=>zI .i64 h7 ((NI.add 3).add 0) fun i36=>zI .i64 h7 (x5.add 0) fun i37=>zI .u8 h7 (x5.add 1) fun i38=>zT h7 (x5.add 2) fun s39=>zI .u8 h7 (x5.add 3) fun i40=>aw h7 #[.int .i64 i37,.int .u8 i38,S s39,.int .u8 i40] 77 fun VE I9=>bG h7 I9/\(zC 222 [.pointer x0,.int .i64 i36] I9 fun OM yf=>aL .i64 OM fun i45=>bG I9 yf/\(bd .i64 (i45+(1:Int))/\(zC 241 [.slice xx xy yV,.int .i64 (i45+(1:Int)),.slice (some VE) 1 1] yf fun v46 EW=>aB v46 fun ahW ahX ahY=>zP EW (ES.add 0) fun p49=>ae p49 fun OC=>bc (OC.add 1) [.slice ahW ahX ahY] 0 EW fun BV=>Kn BV)))))/\((ae x0 fun a52=>zP h7 (a52.add 0) fun p53=>ae x0 fun SS=>zP h7 (SS.add 0) fun p55=>ae p55 fun a56=>zS h7 (a56.add 1) fun NU NV NW=>ae x0 fun a58=>zI .i64 h7 ((a58.add 3).add 0) fun i59=>zI .i64 h7 (x5.add 0) fun i60=>zI .u8 h7 (x5.add 1) fun i61=>zT h7 (x5.add 2) fun s62=>zI .u8 h7 (x5.add 3) fun i63=>zC 222 [.pointer x0,.int .i64 i59] h7 fun Yj QQ=>aL .i64 Yj fun i66=>bG h7 QQ/\(bd .i64 (i66+(1:Int))/\(aw QQ #[.int .i64 i60,.int .u8 i61,S s62,.int .u8 i63] 77 fun a67 h68=>bG QQ h68/\(zC 241 [.slice NU NV NW,.int .i64 (i66+(1:Int)),.slice (some a67) 1 1] h68 fun v69 h70=>aB v69 fun ai1 ai2 ai3=>ae p53 fun a72=>bc (a72.add 1) [.slice ai1 ai2 ai3] 0 h70 fun Ub=>Kn Ub))))/\(ae x0 fun a74=>zP h7 (a74.add 0) fun p75=>ae x0 fun a76=>zP h7 (a76.add 0) fun p77=>ae p77 fun a78=>zS h7 (a78.add 1) fun Wk Wl aaZ=>ae x0 fun a80=>zI .i64 h7 ((a80.add 3).add 0) fun i81=>zI .i64 h7 (x5.add 0) fun i82=>zI .u8 h7 (x5.add 1) fun i83=>zT h7 (x5.add 2) fun s84=>zI .u8 h7 (x5.add 3) fun i85=>aw h7 #[.int .i64 i82,.int .u8 i83,S s84,.int .u8 i85] 77 fun a86 EG=>bG h7 EG/\(zC 222 [.pointer x0,.int .i64 i81] EG fun v88 SU=>aL .i64 v88 fun i90=>bG EG SU/\(bd .i64 (i90+(1:Int))/\(zC 241 [.slice Wk Wl aaZ,.int .i64 (i90+(1:Int)),.slice (some a86) 1 1] SU fun v91 h92=>aB v91 fun ai6 ai7 ai8=>ae p75 fun a94=>bc (a94.add 1) [.slice ai6 ai7 ai8] 0 h92 fun h95=>Kn h95)))))
abbrev n9 (x0:OA) (x2:Int) (Kn Kr:T0) (h:H):Prop:=
 aA L6 (fun K1=>(ae x0 fun a96=>zP h (a96.add 0) fun p97=>ae p97 fun a98=>zS h (a98.add 1) fun VV VW aaA=>ae x0 fun Ge=>zI .i64 h (Ge.add 2) fun i101=>zC 222 [.pointer x0,.int .i64 i101] h fun Nv vC=>aL .i64 Nv fun i104=>bG h vC/\((0<=i104/\i104<(VW:Int))/\(ae VV fun a105=>zI .i64 vC (((a105.add (Int.toNat i104*4))).add 0) fun i106=>zI .u8 vC (((a105.add (Int.toNat i104*4))).add 1) fun i107=>zT vC (((a105.add (Int.toNat i104*4))).add 2) fun aib=>zI .u8 vC (((a105.add (Int.toNat i104*4))).add 3) fun i109=>aw vC ⟨[.int .i64 0,.int .u8 0,S [],.int .u8 0]⟩ 77 fun Q9 abc=>bG vC abc/\(bc Q9 [.int .i64 i106,.int .u8 i107,S aib,.int .u8 i109] 0 abc fun Wq=>K1 x0 x2 Q9 Wq))))/\(ae x0 fun aic=>zP h (aic.add 0) fun aid=>ae aid fun aie=>zS h (aie.add 1) fun abd abe apY=>ae x0 fun a117=>zI .i64 h (a117.add 2) fun i118=>aw h ⟨[.int .i64 0,.int .u8 0,S [],.int .u8 0]⟩ 77 fun a119 Ep=>bG h Ep/\(zC 222 [.pointer x0,.int .i64 i118] Ep fun aif Jx=>aL .i64 aif fun i123=>bG Ep Jx/\((0<=i123/\i123<(abe:Int))/\(ae abd fun a124=>zI .i64 Jx (((a124.add (Int.toNat i123*4))).add 0) fun i125=>zI .u8 Jx (((a124.add (Int.toNat i123*4))).add 1) fun i126=>zT Jx (((a124.add (Int.toNat i123*4))).add 2) fun aih=>zI .u8 Jx (((a124.add (Int.toNat i123*4))).add 3) fun i128=>bc a119 [.int .i64 i125,.int .u8 i126,S aih,.int .u8 i128] 0 Jx fun A8=>K1 x0 x2 a119 A8))))) fun x0 x2 x5 h=>rZ x0 x2 x5 Kn Kr h
abbrev n8 (x0:OA) (x2:Int) (x4:Addr) (Kn Kr:T0) (h:H):Prop:=
 aA L2 (fun K2=>(ae x0 fun a130=>ae x0 fun a131=>zP h (a131.add 0) fun NX=>ae NX fun NY=>zS h (NY.add 2) fun abf abg abh=>ae x0 fun Wr=>zI .i64 h (Wr.add 7) fun i136=>zI .i64 h (x4.add 0) fun i137=>zT h (x4.add 1) fun aii=>zS h (x4.add 2) fun abi abj abk=>aw h #[.int .i64 i137,S aii,.slice abi abj abk] 79 fun TM KM=>bG h KM/\(zC 240 [.slice abf abg abh,.int .i64 i136,.slice (some TM) 1 1] KM fun It AP=>aB It fun KN KO KP=>zP AP (a130.add 0) fun Ws=>ae Ws fun a146=>bc (a146.add 2) [.slice KN KO KP] 0 AP fun Ed=>K2 x0 x2 Ed))/\(ae x0 fun a148=>zP h (a148.add 0) fun aij=>ae x0 fun Vy=>zP h (Vy.add 0) fun aik=>ae aik fun a152=>zS h (a152.add 2) fun abl abm abn=>ae x0 fun a154=>zI .i64 h (a154.add 7) fun i155=>zI .i64 h (x4.add 0) fun i156=>zT h (x4.add 1) fun ail=>zS h (x4.add 2) fun abo abp abq=>aw h #[.int .i64 i156,S ail,.slice abo abp abq] 79 fun a159 Ra=>bG h Ra/\(zC 240 [.slice abl abm abn,.int .i64 i155,.slice (some a159) 1 1] Ra fun aim NZ=>aB aim fun abr abt abu=>ae aij fun a164=>bc (a164.add 2) [.slice abr abt abu] 0 NZ fun Rb=>K2 x0 x2 Rb))) fun x0 x2 h=>n9 x0 x2 Kn Kr h
abbrev n7 (x0:OA) (x2 x3:Int) (x4:Addr) (Kn Kr:T0) (h:H):Prop:=
 aA L5 (fun K3=>zC 223 [.pointer x0,.int .i64 x3] h fun abv Wt=>K3 x0 x2 x4 Wt) fun x0 x2 x4 h=>n8 x0 x2 x4 Kn Kr h
abbrev n6 (x0:OA) (x2 x3:Int) (x4:Addr) (Kn Kr:T0) (h:H):Prop:=
 aA L4 (fun K4=>bc (x4.add 0) [.int .i64 x2] 0 h fun ain=>K4 x0 x2 x3 x4 ain) fun x0 x2 x3 x4 h=>n7 x0 x2 x3 x4 Kn Kr h
abbrev n5 (x0:OA) (x2 x3:Int) (Kn Kr:T0) (h:H):Prop:=
 aA L4 (fun K5=>ae x0 fun aio=>zP h (aio.add 0) fun aip=>ae aip fun a171=>zS h (a171.add 2) fun abw abx apZ=>(0<=x3/\x3<(abx:Int))/\(ae abw fun a173=>zI .i64 h (((a173.add (Int.toNat x3*3))).add 0) fun i174=>zT h (((a173.add (Int.toNat x3*3))).add 1) fun aiq=>zS h (((a173.add (Int.toNat x3*3))).add 2) fun N0 N1 N3=>aw h ⟨[.int .i64 0,S [],.slice none 0 0]⟩ 79 fun Rc Jy=>bc Rc [.int .i64 i174,S aiq,.slice N0 N1 N3] 0 Jy fun air=>K5 x0 x2 x3 Rc air)) fun x0 x2 x3 x4 h=>n6 x0 x2 x3 x4 Kn Kr h
abbrev n4 (x0:OA) (x2:Int) (Kn Kr:T0) (h:H):Prop:=
 aA L3 (fun K6=>ae x0 fun ais=>zP h (ais.add 0) fun ait=>ae ait fun a182=>zS h (a182.add 2) fun aby abz abA=>ae x0 fun aiu=>zI .i64 h (aiu.add 2) fun i185=>zC 201 [.slice aby abz abA,.int .i64 i185] h fun aiv aiw=>aL .i64 aiv fun i188=>K6 x0 x2 i188 aiw) fun x0 x2 x3 h=>n5 x0 x2 x3 Kn Kr h
abbrev n3 (x0:OA) (x2:Int) (Kn Kr:T0) (h:H):Prop:=
 aA L2 (fun K7=>ae x0 fun Wu=>zP h (Wu.add 0) fun Wv=>ae Wv fun aix=>zP h (aix.add 0) fun aiy=>ae x0 fun a193=>zI .i64 h ((a193.add 3).add 0) fun i194=>zC 65 [.pointer aiy,.int .i64 i194,.int .i64 (-1),.int .i64 x2] h fun aiz abB=>au aiz fun aiA=>cond aiA (K7 x0 x2 abB) (K7 x0 x2 abB)) fun x0 x2 h=>n4 x0 x2 Kn Kr h
abbrev n2 (x0:OA) (x2:Int) (Kn Kr:T0) (h:H):Prop:=
 aA L2 (fun K8=>ae x0 fun a198=>zP h (a198.add 0) fun Ww=>ae Ww fun aiB=>zP h (aiB.add 0) fun aiC=>ae x0 fun aiD=>zI .i64 h ((aiD.add 3).add 0) fun i203=>zC 239 [.pointer aiC,.int .i64 i203,.int .i64 x2] h fun aiE Re=>au aiE fun aiF=>cond aiF (K8 x0 x2 Re) (K8 x0 x2 Re)) fun x0 x2 h=>n3 x0 x2 Kn Kr h
abbrev n1 (x0:OA) (Kn Kr:T0) (h:H):Prop:=
 aA L2 (fun K9=>ae x0 fun Wx=>zP h (Wx.add 0) fun aiG=>ae aiG fun aiH=>zP h (aiH.add 0) fun aiI=>ae x0 fun aiJ=>zI .i64 h (aiJ.add 2) fun i212=>zC 238 [.pointer aiI,.int .i64 i212] h fun aiK aiL=>aL .i64 aiK fun i215=>K9 x0 i215 aiL) fun x0 x2 h=>n2 x0 x2 Kn Kr h
variable (K:KV) (h:H)
abbrev asks:Prop:=cF L0 (fun Kr=>n1 x0 Kr Kr h) fun h=>K (.tuple ⟨[]⟩) h
theorem ok (q:asks x0 K h):zC 227 [.pointer x0] h K:=
 cl Tryz.func227 q (fun p q=>sq (l:=L2) p q fun p q=>sq (l:=L2) p q fun p q=>sq (l:=L2) p q fun p q=>sq (l:=L3) p q fun p q=>sq (l:=L4) p q fun p q=>sq (l:=L4) p q fun p q=>sq (l:=L5) p q fun p q=>sq (l:=L2) p q fun p q=>sq (l:=L6) p q fun p q=>lf p q) fun p q=>rt p q
end Oh
namespace JP
abbrev L2:=[Zp 0,Zs 1,Z6 4]
abbrev L0:List Sl:=[]
abbrev L3:=[Zp 0,Zs 1,Z6 4,Za 5]
abbrev L4:=[Zp 0,Zs 1,Z6 4,Za 5,Zb 31]
abbrev T2:=TK L2
abbrev T0:=TK L0
abbrev T3:=TK L3
variable (x0:OA) (x1:List UInt8) (x4:Int) (x5:Addr) (V8:Bool)
abbrev n6 (Kn:T2) (Ke0 Kr:T0) (h:H):Prop:=
 bd .i64 (x4 - (1:Int))/\(Kn x0 x1 (x4 - (1:Int)) h)
abbrev rZ (Kn Ke1:T2) (Ke0 Kr:T0) (h:H):Prop:=
 zI .u8 h (x5.add 1) fun i1=>zT h (x5.add 2) fun s2=>zC 177 [.int .u8 i1,S s2] h fun v3 h4=>au v3 fun b5=>cond b5 (Kr h4) (Kn x0 x1 x4 h4)
abbrev ui (Kn:T3) (Ke1:T2) (Ke0 Kr:T0) (h:H):Prop:=
 cond V8 (ae x0 fun a6=>zS h (a6.add 1) fun yU Ab yt=>zC 169 [.slice yU Ab yt,S x1] h fun v8 h9=>aL .i64 v8 fun i10=>bd .i64 (x4+(1:Int))/\(zC 61 [.pointer x0,(.int .i64 (if(x4+(1:Int))>i10 then(x4+(1:Int)) else i10))] h9 fun v11 eL=>zC 61 [.pointer x0,.int .i64 x4] eL fun mu dx=>Kr dx)) (Kn x0 x1 x4 x5 h)
abbrev Ar (x0:OA) (x1:List UInt8) (x4:Int) (x5:Addr) (Kn:T3) (Ke1:T2) (Ke0 Kr:T0) (h:H):Prop:=
 aA L4 (fun K4=>zI .u8 h (x5.add 1) fun i15=>aM (i15=(0:Int)) (zT h (x5.add 2) fun MC=>aM (MC=x1) (K4 x0 x1 x4 x5 true h) (K4 x0 x1 x4 x5 false h)) (K4 x0 x1 x4 x5 false h)) fun x0 x1 x4 x5 V8 h=>ui x0 x1 x4 x5 V8 Kn Ke1 Ke0 Kr h
abbrev n9 (x0:OA) (x1:List UInt8) (x4:Int) (x5:Addr) (Kn Ke1:T2) (Ke0 Kr:T0) (h:H):Prop:=
 aA L3 (fun K3=>Ar x0 x1 x4 x5 K3 Ke1 Ke0 Kr h) fun x0 x1 x4 x5 h=>rZ x0 x1 x4 x5 Kn Ke1 Ke0 Kr h
abbrev n8 (x0:OA) (x1:List UInt8) (x4:Int) (Kn Ke1:T2) (Ke0 Kr:T0) (h:H):Prop:=
 aA L3 (fun K5=>ae x0 fun nE=>zS h (nE.add 1) fun gC fw fT=>(0<=x4/\x4<(fw:Int))/\(ae gC fun jh=>zI .i64 h (((jh.add (Int.toNat x4*4))).add 0) fun i20=>zI .u8 h (((jh.add (Int.toNat x4*4))).add 1) fun i21=>zT h (((jh.add (Int.toNat x4*4))).add 2) fun UQ=>zI .u8 h (((jh.add (Int.toNat x4*4))).add 3) fun i23=>aw h ⟨[.int .i64 0,.int .u8 0,S [],.int .u8 0]⟩ 77 fun a24 iF=>bc a24 [.int .i64 i20,.int .u8 i21,S UQ,.int .u8 i23] 0 iF fun od=>K5 x0 x1 x4 a24 od)) fun x0 x1 x4 x5 h=>n9 x0 x1 x4 x5 Kn Ke1 Ke0 Kr h
abbrev n5 (x0:OA) (x1:List UInt8) (x4:Int) (Kn:T2) (Ke0 Kr:T0) (h:H):Prop:=
 aA L2 (fun K2=>n8 x0 x1 x4 K2 K2 Ke0 Kr h) fun x0 x1 x4 h=>n6 x0 x1 x4 Kn Ke0 Kr h
abbrev n4 (x0:OA) (x1:List UInt8) (x4:Int) (Kn:T2) (Ke0 Kr:T0) (h:H):Prop:=
 aA L2 (fun K6=>aM (x4>(0:Int)) (K6 x0 x1 x4 h) (Ke0 h)) fun x0 x1 x4 h=>n5 x0 x1 x4 Kn Ke0 Kr h
abbrev rK (Kn Ke0 Kr:T0):T2->T2:=fun K1 x0 x1 x4 h=>n4 x0 x1 x4 K1 Ke0 Kr h
abbrev tX (Kn Ke0 Kr:T0):Nat->T2:=LP L2 (rK Kn Ke0 Kr)
abbrev n1 (x0:OA) (x1:List UInt8) (Kn Kr:T0) (h:H):Prop:=
 aA L2 (fun K7=>ae x0 fun yp=>zS h (yp.add 1) fun Gx xP Jl=>bd .i64 ((xP:Int) - 1)/\(K7 x0 x1 ((xP:Int) - 1) h)) fun x0 x1 x4 h=>iy L2 (rK Kn Kn Kr) fun K1=>K1 x0 x1 x4 h
variable (K:KV) (h:H)
abbrev asks:Prop:=cF L0 (fun Kr=>n1 x0 x1 Kr Kr h) fun h=>K (.tuple ⟨[]⟩) h
theorem ok (q:asks x0 x1 K h):zC 124 [.pointer x0,S x1] h K:=
 cl Tryz.func124 q (fun p q=>sq (l:=L2) p q fun p q=>bl (b:=0) (lp p q fun p q=>sq (l:=L2) p q fun p q=>sc (l:=L2) q (fun q=>bl (b:=1) (sq (l:=L3) p q fun p q=>sc (l:=L3) q (fun q=>sq (l:=L4) p q fun p q=>lf p q) fun p q=>lf p q)) fun p q=>lf p q)) fun p q=>rt p q
end JP
namespace Wd
abbrev L0:=[Z6 4]
abbrev L2:List Sl:=[]
abbrev L3:=[Zp 0,Z6 1,Z6 5]
abbrev L1:=[Zp 0,Z6 1]
abbrev T0:=TK L0
abbrev T2:=TK L2
abbrev T3:=TK L3
variable (x0:OA) (x1:Int)
abbrev n3 (Kn Kr:T0) (h:H):Prop:=
 Kr (-1) h
abbrev bU (Kn Ke0:T2) (Kr:T0):T3->T3:=fun K2 x0 x1 x5 h=>ae x0 fun a1=>zS h (a1.add 1) fun lN kW oy=>aM (x5<(kW:Int)) (ae x0 fun a3=>zS h (a3.add 1) fun oe oI uP=>(0<=x5/\x5<(oI:Int))/\(ae oe fun a5=>zI .i64 h ((a5.add (Int.toNat x5*4)).add 0) fun i6=>aM (i6=x1) (Kr x5 h) (bd .i64 (x5+(1:Int))/\(K2 x0 x1 (x5+(1:Int)) h)))) (Ke0 h)
abbrev cQ (Kn Ke0:T2) (Kr:T0):Nat->T3:=LP L3 (bU Kn Ke0 Kr)
abbrev n4 (x0:OA) (x1:Int) (Kn:T2) (Kr:T0) (h:H):Prop:=
 aA L3 (fun K3=>K3 x0 x1 0 h) fun x0 x1 x5 h=>iy L3 (bU Kn Kn Kr) fun K2=>K2 x0 x1 x5 h
abbrev n2 (Kn Kr:T0) (h:H):Prop:=
 aA L2 (fun K1=>n4 x0 x1 K1 Kr h) fun h=>n3 Kn Kr h
abbrev n1 (x0:OA) (x1:Int) (Kn Kr:T0) (h:H):Prop:=
 aA L1 (fun K4=>K4 x0 x1 h) fun x0 x1 h=>n2 x0 x1 Kn Kr h
variable (K:KV) (h:H)
abbrev asks:Prop:=cF L0 (fun Kr=>n1 x0 x1 Kr Kr h) fun y4 h=>K (.int .i64 y4) h
theorem ok (q:asks x0 x1 K h):zC 208 [.pointer x0,.int .i64 x1] h K:=
 cl Tryz.func208 q (fun p q=>sq (l:=L1) p q fun p q=>sc (l:=L2) q (fun q=>sq (l:=L3) p q fun p q=>bl (b:=0) (lp p q fun p q=>lf p q)) fun p q=>lf p q) fun p q=>rt p q
end Wd
namespace We
abbrev L0:=[Zb 4]
abbrev L2:List Sl:=[]
abbrev L3:=[Zp 0,Z6 1,Z6 5]
abbrev L6:=[Zp 0,Z6 1,Z6 5,Za 6,Zb 8]
abbrev L5:=[Zp 0,Z6 1,Z6 5,Za 6,Zl 7]
abbrev L4:=[Zp 0,Z6 1,Z6 5,Za 6]
abbrev L1:=[Zp 0,Z6 1]
abbrev T0:=TK L0
abbrev T3:=TK L3
abbrev T2:=TK L2
variable (x0:OA) (x1 x5:Int) (x6:Addr) (vX:OA) (uc Ce:Nat) (x8:Bool)
abbrev n3 (Kn Kr:T0) (h:H):Prop:=
 Kr true h
abbrev n9 (Kn:T3) (Ke0:T2) (Kr:T0) (h:H):Prop:=
 bd .i64 (x5 - (1:Int))/\(Kn x0 x1 (x5 - (1:Int)) h)
abbrev JD (Kn Ke1:T3) (Ke0:T2) (Kr:T0) (h:H):Prop:=
 cond x8 (zI .u8 h (x6.add 1) fun i1=>aM (i1=(0:Int)) (zT h (x6.add 2) fun s2=>aM (s2=[112]) (Kn x0 x1 x5 h) (Kr false h)) (Kr false h)) (Kn x0 x1 x5 h)
abbrev JW (x0:OA) (x1 x5:Int) (x6:Addr) (vX:OA) (uc Ce:Nat) (Kn Ke1:T3) (Ke0:T2) (Kr:T0) (h:H):Prop:=
 aA L6 (fun K4=>(0<=(0:Int)/\0<(uc:Int))/\(ae vX fun a3=>zI .i64 h (((a3.add (Int.toNat (0:Int)*4))).add 0) fun i4=>zI .u8 h (((a3.add (Int.toNat (0:Int)*4))).add 1) fun i5=>zT h (((a3.add (Int.toNat (0:Int)*4))).add 2) fun s6=>zI .u8 h (((a3.add (Int.toNat (0:Int)*4))).add 3) fun i7=>aw h #[.int .i64 0,.int .u8 0,S [112],.int .u8 0,.int .i64 i4,.int .u8 i5,S s6,.int .u8 i7] 77 fun a8 h9=>aw h9 #[S [112]] 9 fun jB eG=>zC 168 [.slice (some a8) 2 2,.int .u8 0,.slice (some jB) 1 1] eG fun v12 fI=>au v12 fun b14=>cond b14 (K4 x0 x1 x5 x6 false fI) (K4 x0 x1 x5 x6 true fI))) fun x0 x1 x5 x6 x8 h=>JD x0 x1 x5 x6 x8 Kn Ke1 Ke0 Kr h
abbrev ui (x0:OA) (x1 x5:Int) (x6:Addr) (Kn Ke1:T3) (Ke0:T2) (Kr:T0) (h:H):Prop:=
 aA L5 (fun K5=>ae x0 fun oF=>zS h (oF.add 1) fun hU hX hZ=>bd .i64 (x5+(1:Int))/\((0<=x5/\x5<=(x5+(1:Int))/\(x5+(1:Int))<=(hZ:Int))/\(K5 x0 x1 x5 x6 (if hZ=Int.toNat x5 then hU else Option.map (fun q=>q.add (Int.toNat x5*4)) hU) (Int.toNat (x5+(1:Int)) - Int.toNat x5) (hZ - Int.toNat x5) h))) fun x0 x1 x5 x6 vX uc Ce h=>JW x0 x1 x5 x6 vX uc Ce Kn Ke1 Ke0 Kr h
abbrev Ar (x0:OA) (x1 x5:Int) (Kn Ke1:T3) (Ke0:T2) (Kr:T0) (h:H):Prop:=
 aA L4 (fun K6=>ae x0 fun nE=>zS h (nE.add 1) fun gC fw fT=>(0<=x5/\x5<(fw:Int))/\(ae gC fun jh=>zI .i64 h (((jh.add (Int.toNat x5*4))).add 0) fun i20=>zI .u8 h (((jh.add (Int.toNat x5*4))).add 1) fun i21=>zT h (((jh.add (Int.toNat x5*4))).add 2) fun UQ=>zI .u8 h (((jh.add (Int.toNat x5*4))).add 3) fun i23=>aw h ⟨[.int .i64 0,.int .u8 0,S [],.int .u8 0]⟩ 77 fun a24 iF=>bc a24 [.int .i64 i20,.int .u8 i21,S UQ,.int .u8 i23] 0 iF fun od=>K6 x0 x1 x5 a24 od)) fun x0 x1 x5 x6 h=>ui x0 x1 x5 x6 Kn Ke1 Ke0 Kr h
abbrev n8 (x0:OA) (x1 x5:Int) (Kn:T3) (Ke0:T2) (Kr:T0) (h:H):Prop:=
 aA L3 (fun K3=>Ar x0 x1 x5 K3 K3 Ke0 Kr h) fun x0 x1 x5 h=>n9 x0 x1 x5 Kn Ke0 Kr h
abbrev n7 (x0:OA) (x1 x5:Int) (Kn:T3) (Ke0:T2) (Kr:T0) (h:H):Prop:=
 aA L3 (fun K7=>aM (x5>x1) (K7 x0 x1 x5 h) (Ke0 h)) fun x0 x1 x5 h=>n8 x0 x1 x5 Kn Ke0 Kr h
abbrev bU (Kn Ke0:T2) (Kr:T0):T3->T3:=fun K2 x0 x1 x5 h=>n7 x0 x1 x5 K2 Ke0 Kr h
abbrev cQ (Kn Ke0:T2) (Kr:T0):Nat->T3:=LP L3 (bU Kn Ke0 Kr)
abbrev n4 (x0:OA) (x1:Int) (Kn:T2) (Kr:T0) (h:H):Prop:=
 aA L3 (fun K8=>ae x0 fun yp=>zS h (yp.add 1) fun Gx xP Jl=>bd .i64 ((xP:Int) - 1)/\(K8 x0 x1 ((xP:Int) - 1) h)) fun x0 x1 x5 h=>iy L3 (bU Kn Kn Kr) fun K2=>K2 x0 x1 x5 h
abbrev n2 (Kn Kr:T0) (h:H):Prop:=
 aA L2 (fun K1=>n4 x0 x1 K1 Kr h) fun h=>n3 Kn Kr h
abbrev n1 (x0:OA) (x1:Int) (Kn Kr:T0) (h:H):Prop:=
 aA L1 (fun K9=>K9 x0 x1 h) fun x0 x1 h=>n2 x0 x1 Kn Kr h
variable (K:KV) (h:H)
abbrev asks:Prop:=cF L0 (fun Kr=>n1 x0 x1 Kr Kr h) fun y4 h=>K (.bool y4) h
theorem ok (q:asks x0 x1 K h):zC 210 [.pointer x0,.int .i64 x1] h K:=
 cl Tryz.func210 q (fun p q=>sq (l:=L1) p q fun p q=>sc (l:=L2) q (fun q=>sq (l:=L3) p q fun p q=>bl (b:=0) (lp p q fun p q=>sq (l:=L3) p q fun p q=>sc (l:=L3) q (fun q=>bl (b:=1) (sq (l:=L4) p q fun p q=>sq (l:=L5) p q fun p q=>sq (l:=L6) p q fun p q=>lf p q)) fun p q=>lf p q)) fun p q=>lf p q) fun p q=>rt p q
end We
namespace Xe0
abbrev L0:=[Zl 4]
abbrev T0:=TK L0
variable (ao:OA) (aj aq:Nat) (x1:Int)
abbrev n1 (Kn Kr:T0) (h:H):Prop:=
 (0<=(0:Int)/\0<=x1/\x1<=(aq:Int))/\(aZ Tryz.prog (Builtin.append_ #[40,40] 40 ⟨[.slice none 0 0,(.slice (if aq=Int.toNat 0 then ao else Option.map (fun q=>q.add (Int.toNat (0:Int)*3)) ao) (Int.toNat x1 - Int.toNat 0) (aq - Int.toNat 0))]⟩) h fun v1 h2=>aB v1 fun Ai uX yv=>bd .i64 (x1+(1:Int))/\((0<=(x1+(1:Int))/\(x1+(1:Int))<=(aj:Int)/\(aj:Int)<=(aq:Int))/\(aZ Tryz.prog (Builtin.append_ #[40,40] 40 ⟨[.slice Ai uX yv,(.slice (if aq=Int.toNat (x1+(1:Int)) then ao else Option.map (fun q=>q.add (Int.toNat (x1+(1:Int))*3)) ao) (Int.toNat (aj:Int) - Int.toNat (x1+(1:Int))) (aq - Int.toNat (x1+(1:Int))))]⟩) h2 fun v4 h5=>aB v4 fun lO gV mM=>Kr lO gV mM h5)))
variable (K:KV) (h:H)
abbrev asks:Prop:=cF L0 (fun Kr=>n1 ao aj aq x1 Kr Kr h) fun fE fF fG h=>K (.slice fE fF fG) h
theorem ok (q:asks ao aj aq x1 K h):zC 209 [.slice ao aj aq,.int .i64 x1] h K:=
 cl Tryz.func209 q (fun p q=>lf p q) fun p q=>rt p q
end Xe0
namespace Xew
abbrev L0:List Sl:=[]
abbrev T0:=TK L0
variable (x0:OA) (x1 nH nI:Int) (BY:List UInt8) (nJ:Int)
abbrev n1 (Kn Kr:T0) (h:H):Prop:=
 aw h ⟨[.int .i64 nH,.int .u8 nI,S BY,.int .u8 nJ]⟩ 77 fun a1 h2=>ae x0 fun a3=>zS h2 (a3.add 1) fun oe oI uP=>bd .i64 (x1+(1:Int))/\((0<=(0:Int)/\0<=(x1+(1:Int))/\(x1+(1:Int))<=(uP:Int))/\(aZ Tryz.prog (Builtin.append_ #[39,39] 39 ⟨[.slice none 0 0,(.slice (if uP=Int.toNat 0 then oe else Option.map (fun q=>q.add (Int.toNat (0:Int)*4)) oe) (Int.toNat (x1+(1:Int)) - Int.toNat 0) (uP - Int.toNat 0))]⟩) h2 fun v5 h6=>aB v5 fun yU Ab yt=>zI .i64 h6 (a1.add 0) fun i8=>zI .u8 h6 (a1.add 1) fun i9=>zT h6 (a1.add 2) fun oY=>zI .u8 h6 (a1.add 3) fun i11=>aw h6 #[.int .i64 i8,.int .u8 i9,S oY,.int .u8 i11] 77 fun a12 fI=>aZ Tryz.prog (Builtin.append_ #[39,39] 39 ⟨[.slice yU Ab yt,.slice (some a12) 1 1]⟩) fI fun qO gA=>aB qO fun hU hX hZ=>ae x0 fun nE=>zS gA (nE.add 1) fun gC fw fT=>bd .i64 (x1+(1:Int))/\((0<=(x1+(1:Int))/\(x1+(1:Int))<=(fw:Int)/\(fw:Int)<=(fT:Int))/\(aZ Tryz.prog (Builtin.append_ #[39,39] 39 ⟨[.slice hU hX hZ,(.slice (if fT=Int.toNat (x1+(1:Int)) then gC else Option.map (fun q=>q.add (Int.toNat (x1+(1:Int))*4)) gC) (Int.toNat (fw:Int) - Int.toNat (x1+(1:Int))) (fT - Int.toNat (x1+(1:Int))))]⟩) gA fun xv gm=>aB xv fun xz vA xA=>ae x0 fun a22=>bc (a22.add 1) [.slice xz vA xA] 0 gm fun qu=>Kn qu))))
variable (K:KV) (h:H)
abbrev asks:Prop:=cF L0 (fun Kr=>n1 x0 x1 nH nI BY nJ Kr Kr h) fun h=>K (.tuple ⟨[]⟩) h
theorem ok (q:asks x0 x1 nH nI BY nJ K h):zC 231 [.pointer x0,.int .i64 x1,(.agg ⟨[.int .i64 nH,.int .u8 nI,S BY,.int .u8 nJ]⟩)] h K:=
 cl Tryz.func231 q (fun p q=>lf p q) fun p q=>rt p q
end Xew
namespace vI
abbrev L0:=[Zb 4]
abbrev L3:List Sl:=[]
abbrev L4:=[Zp 0,Zs 1,Z6 6]
abbrev L9:=[Zp 0,Zs 1,Z6 6,Z6 7,Z6 8,Z6 9,Z6 11]
abbrev yx:=[Zp 0,Zs 1,Z6 6,Z6 8,Z6 9,Z6 11]
abbrev Er:=[Zp 0,Zs 1,Z6 6,Z6 7,Z6 8,Z6 9,Z6 11,Zb 111]
abbrev Ch:=[Zp 0,Zs 1,Z6 6,Z6 7,Z6 8,Z6 9,Z6 11,Z6 12]
abbrev L7:=[Zp 0,Zs 1,Z6 6,Z6 7,Z6 8,Z6 9]
abbrev L8:=[Zp 0,Zs 1,Z6 6,Z6 7,Z6 8,Z6 9,Zb 10]
abbrev L6:=[Zp 0,Zs 1,Z6 6,Z6 7,Z6 8]
abbrev L5:=[Zp 0,Zs 1,Z6 6,Z6 7]
abbrev L1:=[Zp 0,Zs 1]
abbrev Ao:=[Zp 0,Zs 1,Zb 33]
abbrev L2:=[Zp 0,Zs 1,Za 5]
abbrev T0:=TK L0
abbrev T3:=TK L3
abbrev T4:=TK L4
abbrev T9:=TK L9
abbrev R6:=TK yx
abbrev XQ:=TK Ch
abbrev T1:=TK L1
variable (x0:OA) (x1:List UInt8) (x5:Addr) (x6 x7 x8 x9:Int) (bD:Bool) (ck:Int) (Qs Wy:Bool)
abbrev n5 (Kn Kr:T0) (h:H):Prop:=
 Kr true h
abbrev Ar (Kn:T4) (Ke0:T3) (Kr:T0) (h:H):Prop:=
 bd .i64 (x6+(1:Int))/\(Kn x0 x1 (x6+(1:Int)) h)
abbrev n23 (Kn Ke1:T4) (Ke0:T3) (Kr:T0) (h:H):Prop:=
 ae x0 fun a1=>zS h (a1.add 1) fun lN kW oy=>bd .i64 (x9 - (1:Int))/\((0<=(x9 - (1:Int))/\(x9 - (1:Int))<(kW:Int))/\(ae lN fun a3=>zI .i64 h (((a3.add (Int.toNat (x9 - (1:Int))*4))).add 0) fun i4=>zI .u8 h (((a3.add (Int.toNat (x9 - (1:Int))*4))).add 1) fun i5=>zT h (((a3.add (Int.toNat (x9 - (1:Int))*4))).add 2) fun s6=>zI .u8 h (((a3.add (Int.toNat (x9 - (1:Int))*4))).add 3) fun i7=>ae x0 fun a8=>zS h (a8.add 1) fun yu vU BP=>(0<=ck/\ck<(vU:Int))/\(ae yu fun jB=>zI .i64 h (((jB.add (Int.toNat ck*4))).add 0) fun i11=>zI .u8 h (((jB.add (Int.toNat ck*4))).add 1) fun i12=>zT h (((jB.add (Int.toNat ck*4))).add 2) fun RV=>zI .u8 h (((jB.add (Int.toNat ck*4))).add 3) fun i14=>zC 211 [.pointer x0,.int .i64 x8,(.agg ⟨[.int .i64 i4,.int .u8 i5,S s6,.int .u8 i7]⟩),(.agg ⟨[.int .i64 i11,.int .u8 i12,S RV,.int .u8 i14]⟩)] h fun vd gZ=>Kn x0 x1 x6 gZ)))
abbrev n25 (Kn:R6) (Ke1:T4) (Ke0:T3) (Kr:T0) (h:H):Prop:=
 cond Wy (zC 61 [.pointer x0,.int .i64 x9] h fun EI gI=>ae x0 fun jh=>zS gI (jh.add 2) fun qz pA sS=>zC 209 [.slice qz pA sS,.int .i64 x7] gI fun v21 mB=>aB v21 fun vu sR vz=>ae x0 fun a24=>bc (a24.add 2) [.slice vu sR vz] 0 mB fun iF=>Kr true iF) (Kn x0 x1 x6 x8 x9 ck h)
abbrev n24 (x0:OA) (x1:List UInt8) (x6 x7 x8 x9 ck:Int) (Kn:R6) (Ke1:T4) (Ke0:T3) (Kr:T0) (h:H):Prop:=
 aA Er (fun K5=>aM (ck<(0:Int)) (K5 x0 x1 x6 x7 x8 x9 ck true h) (K5 x0 x1 x6 x7 x8 x9 ck false h)) fun x0 x1 x6 x7 x8 x9 ck Wy h=>n25 x0 x1 x6 x7 x8 x9 ck Wy Kn Ke1 Ke0 Kr h
abbrev n22 (x0:OA) (x1:List UInt8) (x6 x7 x8 x9 ck:Int) (Kn Ke1:T4) (Ke0:T3) (Kr:T0) (h:H):Prop:=
 aA yx (fun K4=>n24 x0 x1 x6 x7 x8 x9 ck K4 Ke1 Ke0 Kr h) fun x0 x1 x6 x8 x9 ck h=>n23 x0 x1 x6 x8 x9 ck Kn Ke1 Ke0 Kr h
abbrev GU (Kn qA:T9) (Ke1:T4) (Ke0:T3) (Kr:T0):XQ->XQ:=fun K7 x0 x1 x6 x7 x8 x9 ck gX h=>aM (gX>x9) (ae x0 fun a26=>zS h (a26.add 1) fun Gv Gw Nq=>(0<=gX/\gX<(Gw:Int))/\(ae Gv fun a28=>zI .u8 h ((a28.add (Int.toNat gX*4)).add 1) fun i29=>ae x0 fun ES=>zS h (ES.add 1) fun xw BJ yT=>(0<=gX/\gX<(BJ:Int))/\(ae xw fun tw=>zT h ((tw.add (Int.toNat gX*4)).add 2) fun s33=>zC 177 [.int .u8 i29,S s33] h fun zw qi=>au zw fun b36=>cond b36 (bd .i64 (gX - (1:Int))/\(K7 x0 x1 x6 x7 x8 x9 gX (gX - (1:Int)) qi)) (bd .i64 (gX - (1:Int))/\(K7 x0 x1 x6 x7 x8 x9 ck (gX - (1:Int)) qi))))) (qA x0 x1 x6 x7 x8 x9 ck h)
abbrev Kq (Kn qA:T9) (Ke1:T4) (Ke0:T3) (Kr:T0):Nat->XQ:=LP Ch (GU Kn qA Ke1 Ke0 Kr)
abbrev n26 (x0:OA) (x1:List UInt8) (x6 x7 x8 x9 ck:Int) (Kn:T9) (Ke1:T4) (Ke0:T3) (Kr:T0) (h:H):Prop:=
 aA Ch (fun K8=>ae x0 fun a37=>zS h (a37.add 1) fun Ja BK MB=>bd .i64 ((BK:Int) - 1)/\(K8 x0 x1 x6 x7 x8 x9 ck ((BK:Int) - 1) h)) fun x0 x1 x6 x7 x8 x9 ck gX h=>iy Ch (GU Kn Kn Ke1 Ke0 Kr) fun K7=>K7 x0 x1 x6 x7 x8 x9 ck gX h
abbrev n21 (x0:OA) (x1:List UInt8) (x6 x7 x8 x9 ck:Int) (Kn Ke1:T4) (Ke0:T3) (Kr:T0) (h:H):Prop:=
 aA L9 (fun K6=>n26 x0 x1 x6 x7 x8 x9 ck K6 Ke1 Ke0 Kr h) fun x0 x1 x6 x7 x8 x9 ck h=>n22 x0 x1 x6 x7 x8 x9 ck Kn Ke1 Ke0 Kr h
abbrev n20 (x0:OA) (x1:List UInt8) (x6 x7 x8 x9:Int) (Kn Ke1:T4) (Ke0:T3) (Kr:T0) (h:H):Prop:=
 aA L9 (fun K9=>K9 x0 x1 x6 x7 x8 x9 (-1) h) fun x0 x1 x6 x7 x8 x9 ck h=>n21 x0 x1 x6 x7 x8 x9 ck Kn Ke1 Ke0 Kr h
abbrev n19 (x0:OA) (x1:List UInt8) (x6 x7 x8 x9:Int) (bD:Bool) (Kn Ke1:T4) (Ke0:T3) (Kr:T0) (h:H):Prop:=
 aA L7 (fun lV=>cond bD (lV x0 x1 x6 x7 x8 x9 h) (Kr true h)) fun x0 x1 x6 x7 x8 x9 h=>n20 x0 x1 x6 x7 x8 x9 Kn Ke1 Ke0 Kr h
abbrev n18 (x0:OA) (x1:List UInt8) (x6 x7 x8 x9:Int) (Kn Ke1:T4) (Ke0:T3) (Kr:T0) (h:H):Prop:=
 aA L8 (fun re=>zC 210 [.pointer x0,.int .i64 x9] h fun Qk DW=>au Qk fun Z2=>cond Z2 (re x0 x1 x6 x7 x8 x9 true DW) (re x0 x1 x6 x7 x8 x9 false DW)) fun x0 x1 x6 x7 x8 x9 bD h=>n19 x0 x1 x6 x7 x8 x9 bD Kn Ke1 Ke0 Kr h
abbrev n17 (x0:OA) (x1:List UInt8) (x6 x7 x8 x9:Int) (Kn Ke1:T4) (Ke0:T3) (Kr:T0) (h:H):Prop:=
 aA L7 (fun zb=>aM (x9<(0:Int)) (ae x0 fun QU=>zS h (QU.add 2) fun Jo GC NN=>zC 209 [.slice Jo GC NN,.int .i64 x7] h fun I8 uO=>aB I8 fun aiM aiN aiO=>ae x0 fun a47=>bc (a47.add 2) [.slice aiM aiN aiO] 0 uO fun DT=>Kr true DT) (zb x0 x1 x6 x7 x8 x9 h)) fun x0 x1 x6 x7 x8 x9 h=>n18 x0 x1 x6 x7 x8 x9 Kn Ke1 Ke0 Kr h
abbrev n16 (x0:OA) (x1:List UInt8) (x6 x7 x8:Int) (Kn Ke1:T4) (Ke0:T3) (Kr:T0) (h:H):Prop:=
 aA L7 (fun xS=>zC 208 [.pointer x0,.int .i64 x8] h fun v49 YK=>aL .i64 v49 fun i51=>xS x0 x1 x6 x7 x8 i51 YK) fun x0 x1 x6 x7 x8 x9 h=>n17 x0 x1 x6 x7 x8 x9 Kn Ke1 Ke0 Kr h
abbrev n15 (x0:OA) (x1:List UInt8) (x6 x7:Int) (Kn Ke1:T4) (Ke0:T3) (Kr:T0) (h:H):Prop:=
 aA L6 (fun yw=>ae x0 fun a52=>zS h (a52.add 2) fun Wn Wo ahU=>(0<=x7/\x7<(Wo:Int))/\(ae Wn fun SS=>zI .i64 h ((SS.add (Int.toNat x7*3)).add 0) fun i55=>yw x0 x1 x6 x7 i55 h)) fun x0 x1 x6 x7 x8 h=>n16 x0 x1 x6 x7 x8 Kn Ke1 Ke0 Kr h
abbrev JD (x0:OA) (x1:List UInt8) (x6 x7:Int) (Kn Ke1:T4) (Ke0:T3) (Kr:T0) (h:H):Prop:=
 aA L5 (fun Cf=>aM (x7<(0:Int)) (Kr false h) (Cf x0 x1 x6 x7 h)) fun x0 x1 x6 x7 h=>n15 x0 x1 x6 x7 Kn Ke1 Ke0 Kr h
abbrev JW (x0:OA) (x1:List UInt8) (x6:Int) (Kn Ke1:T4) (Ke0:T3) (Kr:T0) (h:H):Prop:=
 aA L5 (fun OD=>ae x0 fun a56=>zS h (a56.add 2) fun NU NV NW=>zC 170 [.slice NU NV NW,S x1] h fun v58 h59=>aL .i64 v58 fun i60=>OD x0 x1 x6 i60 h59) fun x0 x1 x6 x7 h=>JD x0 x1 x6 x7 Kn Ke1 Ke0 Kr h
abbrev rZ (x0:OA) (x1:List UInt8) (x6:Int) (Kn:T4) (Ke0:T3) (Kr:T0) (h:H):Prop:=
 aA L4 (fun K3=>JW x0 x1 x6 K3 K3 Ke0 Kr h) fun x0 x1 x6 h=>Ar x0 x1 x6 Kn Ke0 Kr h
abbrev n9 (x0:OA) (x1:List UInt8) (x6:Int) (Kn:T4) (Ke0:T3) (Kr:T0) (h:H):Prop:=
 aA L4 (fun Wz=>aM (x6<(8:Int)) (Wz x0 x1 x6 h) (Ke0 h)) fun x0 x1 x6 h=>rZ x0 x1 x6 Kn Ke0 Kr h
abbrev iq (Kn Ke0:T3) (Kr:T0):T4->T4:=fun K2 x0 x1 x6 h=>n9 x0 x1 x6 K2 Ke0 Kr h
abbrev gz (Kn Ke0:T3) (Kr:T0):Nat->T4:=LP L4 (iq Kn Ke0 Kr)
abbrev n6 (x0:OA) (x1:List UInt8) (Kn:T3) (Kr:T0) (h:H):Prop:=
 aA L4 (fun OE=>OE x0 x1 0 h) fun x0 x1 x6 h=>iy L4 (iq Kn Kn Kr) fun K2=>K2 x0 x1 x6 h
abbrev n4 (Kn Kr:T0) (h:H):Prop:=
 aA L3 (fun K1=>n6 x0 x1 K1 Kr h) fun h=>n5 Kn Kr h
abbrev n30 (Kn:T1) (Kr:T0) (h:H):Prop:=
 cond Qs (ae x0 fun Ql=>zS h (Ql.add 1) fun Wh Jw Q6=>bd .i64 ((Jw:Int) - 1)/\(zC 61 [.pointer x0,.int .i64 ((Jw:Int) - 1)] h fun v63 h64=>Kr true h64)) (Kn x0 x1 h)
abbrev n29 (x0:OA) (x1:List UInt8) (x5:Addr) (Kn:T1) (Kr:T0) (h:H):Prop:=
 aA Ao (fun Rf=>zI .u8 h (x5.add 1) fun i65=>aM (i65=(0:Int)) (zT h (x5.add 2) fun s66=>aM (s66=x1) (ae x0 fun a67=>zS h (a67.add 2) fun aiR aiS aiT=>zI .i64 h (x5.add 0) fun i69=>zC 171 [.slice aiR aiS aiT,.int .i64 i69] h fun v70 XS=>aL .i64 v70 fun i72=>aM (i72<(0:Int)) (Rf x0 x1 true XS) (Rf x0 x1 false XS)) (Rf x0 x1 false h)) (Rf x0 x1 false h)) fun x0 x1 Qs h=>n30 x0 x1 Qs Kn Kr h
abbrev n3 (x0:OA) (x1:List UInt8) (x5:Addr) (Kn Kr:T0) (h:H):Prop:=
 aA L1 (fun WA=>n29 x0 x1 x5 WA Kr h) fun x0 x1 h=>n4 x0 x1 Kn Kr h
abbrev n2 (x0:OA) (x1:List UInt8) (Kn Kr:T0) (h:H):Prop:=
 aA L2 (fun K21=>zC 59 [.pointer x0] h fun Xr SR=>kV Xr fun l75=>aG l75 fun e76 l77=>aL .i64 e76 fun i78=>aG l77 fun e79 l80=>aL .u8 e79 fun i81=>aG l80 fun e82 l83=>gL e82 fun s84=>aG l83 fun e85 l86=>aL .u8 e85 fun i87=>cW l86 (aw SR ⟨[.int .i64 0,.int .u8 0,S [],.int .u8 0]⟩ 77 fun a88 SU=>bc a88 [.int .i64 i78,.int .u8 i81,S s84,.int .u8 i87] 0 SU fun OV=>K21 x0 x1 a88 OV)) fun x0 x1 x5 h=>n3 x0 x1 x5 Kn Kr h
abbrev n1 (x0:OA) (x1:List UInt8) (Kn Kr:T0) (h:H):Prop:=
 aA L1 (fun K22=>K22 x0 x1 h) fun x0 x1 h=>n2 x0 x1 Kn Kr h
variable (K:KV) (h:H)
abbrev asks:Prop:=cF L0 (fun Kr=>n1 x0 x1 Kr Kr h) fun y4 h=>K (.bool y4) h
theorem ok (q:asks x0 x1 K h):zC 175 [.pointer x0,S x1] h K:=
 cl Tryz.func175 q (fun p q=>sq (l:=L1) p q fun p q=>sq (l:=L2) p q fun p q=>sc (l:=L1) q (fun q=>sq (l:=Ao) p q fun p q=>lf p q) fun p q=>sc (l:=L3) q (fun q=>sq (l:=L4) p q fun p q=>bl (b:=0) (lp p q fun p q=>sq (l:=L4) p q fun p q=>sc (l:=L4) q (fun q=>bl (b:=1) (sq (l:=L5) p q fun p q=>sq (l:=L5) p q fun p q=>sq (l:=L6) p q fun p q=>sq (l:=L7) p q fun p q=>sq (l:=L7) p q fun p q=>sq (l:=L8) p q fun p q=>sq (l:=L7) p q fun p q=>sq (l:=L9) p q fun p q=>sc (l:=L9) q (fun q=>sq (l:=Ch) p q fun p q=>bl (b:=2) (lp p q fun p q=>lf p q)) fun p q=>sc (l:=yx) q (fun q=>sq (l:=Er) p q fun p q=>lf p q) fun p q=>lf p q)) fun p q=>lf p q)) fun p q=>lf p q) fun p q=>rt p q
end vI
end Go.Proofs
