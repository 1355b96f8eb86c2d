/- Own text. No condition. -/
import Derived.Test.YtijoifkjeamonaaGreatHc
import Derived.Test.YtijoifkjeamonaaGreatShR
import Derived.Test.YtijoifkjeamonaaGreatProg
namespace Go.Proofs
open Go Go.Sh
set_option linter.unusedVariables false
set_option maxRecDepth 100000
namespace Xaa
abbrev L3:=[Za 2,Za 3,Zr 10]
abbrev L0:List Sl:=[]
abbrev L2:=[Za 2,Za 3]
abbrev T0:=TD L0
abbrev n2 (x2 x3:Addr) (ds:List Deferred) (Kn Kr:T0) (h:H):Prop:=
 nQ L3 (fun K1=>zP h x2 fun p25=>ae p25 fun a26=>zS h (a26.add 1) fun Gt Gu Nc=>zC 161 [.slice Gt Gu Nc] h fun v28 u5=>K1 x2 x3 v28 ds u5) fun x2 x3 bD ds h=>Oe Tryz.prog bD 2 [.o 11 (.i .i64),.g 12 [.i .i64,.i .u8,.s,.i .u8]] h (fun Fs Nz NA NB NC Mid Kc Fin h1=>aw h1 ⟨[.int .i64 0,.int .u8 0,S [],.int .u8 0]⟩ 77 fun a1 h2=>aZ a1 [.int .i64 Nz,.int .u8 NA,S NB,.int .u8 NC] 0 h2 fun h3=>Mid h3 fun Ch=>aO (Fs=(0:Int)) (Fin Ch Ch fun h5=>Kr (cr h.size::ds) h5) (zI .u8 Ch (a1.add 1) fun i6=>aO (i6=(0:Int)) (zT Ch (a1.add 2) fun s7=>zT Ch x3 fun s8=>aO (s7=s8) (zP Ch x2 fun p9=>zC 57 [.pointer p9,.int .i64 Fs] Ch fun v10 eF=>Fin Ch eF fun eM=>Kr (cr h.size::ds) eM) (zI .u8 Ch (a1.add 1) fun i13=>zT Ch (a1.add 2) fun Ce=>zC 162 [.int .u8 i13,S Ce] Ch fun tN gX=>au tN fun S7=>cond S7 (Fin Ch gX fun gO=>Kr (cr h.size::ds) gO) (Kc Ch gX))) (zI .u8 Ch (a1.add 1) fun i19=>zT Ch (a1.add 2) fun s20=>zC 162 [.int .u8 i19,S s20] Ch fun v21 lN=>au v21 fun VT=>cond VT (Fin Ch lN fun lX=>Kr (cr h.size::ds) lX) (Kc Ch lN)))) (fun h4=>Kn (cr h.size::ds) h4)
abbrev n1 (x0:OA) (x1:List UInt8) (ds:List Deferred) (Kn Kr:T0) (h:H):Prop:=
 nQ L2 (fun K2=>aw h #[.pointer x0] 35 fun ET yj=>aw yj #[S x1] 9 fun tH mq=>K2 ET tH ds mq) fun x2 x3 ds h=>n2 x2 x3 ds Kn Kr h
abbrev asks (x0:OA) (x1:List UInt8) (K:KV) (h:H):Prop:=nQ L0 (fun Kr=>n1 x0 x1 [] Kr Kr h) fun ds h=>dE ds h fun h=>K (.tuple ⟨[]⟩) h
theorem ok (x0:OA) (x1:List UInt8) (K:KV) (h:H) (hS:asks x0 x1 K h):zC 101 [.pointer x0,S x1] h K:=
 P3 Tryz.func101 hS (fun hg hS=>BC (l:=L2) hg hS fun hg hS=>BC (l:=L3) hg hS fun hg hS=>bl (b:=0) (P4 (.tmp 10) #[11,12] hg hS)) fun hg hS=>P6 hg hS
end Xaa
namespace N8
abbrev L0:=[Zb 4]
abbrev L3:List Sl:=[]
abbrev L4:=[Zp 0,Zs 1,Zp 6,Z6 41]
abbrev L5:=[Zp 0,Zs 1,Zp 6,Z6 41,Zb 42]
abbrev L2:=[Zp 0,Zs 1,Zp 6]
abbrev L1:=[Zp 0,Zs 1]
abbrev L7:=[Zp 0,Zs 1,Zb 28]
abbrev L6:=[Zp 0,Zs 1,Za 5]
abbrev T0:=TK L0
abbrev T3:=TK L3
abbrev T4:=TK L4
abbrev T1:=TK L1
variable (x0:OA) (x1:List UInt8) (x5:Addr) (x6:OA) (HR:Bool) (DZ:Int) (EB:Bool)
abbrev n5 (Kn Kr:T0) (h:H):Prop:=
 Kr true h
abbrev sg (Kn:T4) (Ke0:T3) (Kr:T0) (h:H):Prop:=
 cond EB (ae x0 fun a1=>zS h (a1.add 2) fun ma lx oM=>zC 152 [.slice ma lx oM,S x1] h fun v3 h4=>aL .i64 v3 fun i5=>aO (i5<(0:Int)) (Kr false h4) (zC 202 [.pointer x6,.int .i64 i5] h4 fun v6 h7=>au v6 fun b8=>cond b8 (bc .i64 (DZ+(1:Int))/\(Kn x0 x1 x6 (DZ+(1:Int)) h7)) (Ke0 h7))) (Ke0 h)
abbrev n9 (x0:OA) (x1:List UInt8) (x6:OA) (DZ:Int) (Kn:T4) (Ke0:T3) (Kr:T0) (h:H):Prop:=
 aB L5 (fun K3=>aO (DZ<(8:Int)) (K3 x0 x1 x6 DZ true h) (K3 x0 x1 x6 DZ false h)) fun x0 x1 x6 DZ EB h=>sg x0 x1 x6 DZ EB Kn Ke0 Kr h
abbrev ix (Kn Ke0:T3) (Kr:T0):T4->T4:=fun K2 x0 x1 x6 DZ h=>n9 x0 x1 x6 DZ K2 Ke0 Kr h
abbrev gJ (Kn Ke0:T3) (Kr:T0):Nat->T4:=LP L4 (ix Kn Ke0 Kr)
abbrev n6 (x0:OA) (x1:List UInt8) (x6:OA) (Kn:T3) (Kr:T0) (h:H):Prop:=
 aB L4 (fun K4=>K4 x0 x1 x6 0 h) fun x0 x1 x6 DZ h=>il L4 (ix Kn Kn Kr) fun K2=>K2 x0 x1 x6 DZ h
abbrev n4 (Kn Kr:T0) (h:H):Prop:=
 aB L3 (fun K1=>n6 x0 x1 x6 K1 Kr h) fun h=>n5 Kn Kr h
abbrev n3 (x0:OA) (x1:List UInt8) (Kn Kr:T0) (h:H):Prop:=
 aB L2 (fun K5=>aw h ⟨[.pointer x0,S x1,.int .i64 0,.int .i64 0,.int .u8 0,S [],.int .u8 0,.int .i64 0]⟩ 168 fun a9 cS=>K5 x0 x1 (some a9) cS) fun x0 x1 x6 h=>n4 x0 x1 x6 Kn Kr h
abbrev JR (Kn:T1) (Kr:T0) (h:H):Prop:=
 cond HR (ae x0 fun lk=>zS h (lk.add 1) fun rO nX rP=>bc .i64 ((nX:Int) - 1)/\(zC 57 [.pointer x0,.int .i64 ((nX:Int) - 1)] h fun np dA=>Kr true dA)) (Kn x0 x1 h)
abbrev uy (x0:OA) (x1:List UInt8) (x5:Addr) (Kn:T1) (Kr:T0) (h:H):Prop:=
 aB L7 (fun K7=>zI .u8 h (x5.add 1) fun i15=>aO (i15=(0:Int)) (zT h (x5.add 2) fun Mv=>aO (Mv=x1) (ae x0 fun oO=>zS h (oO.add 2) fun gL fA fW=>zI .i64 h (x5.add 0) fun i19=>zC 201 [.slice gL fA fW,.int .i64 i19] h fun v20 qC=>aL .i64 v20 fun i22=>aO (i22<(0:Int)) (K7 x0 x1 true qC) (K7 x0 x1 false qC)) (K7 x0 x1 false h)) (K7 x0 x1 false h)) fun x0 x1 HR h=>JR x0 x1 HR Kn Kr h
abbrev Ao (x0:OA) (x1:List UInt8) (Kn:T1) (Kr:T0) (h:H):Prop:=
 aB L6 (fun K8=>zC 55 [.pointer x0] h fun v23 lX=>lv v23 fun l25=>aH l25 fun e26 l27=>aL .i64 e26 fun i28=>aH l27 fun e29 l30=>aL .u8 e29 fun i31=>aH l30 fun e32 l33=>gU e32 fun s34=>aH l33 fun e35 l36=>aL .u8 e35 fun i37=>dc l36 (aw lX ⟨[.int .i64 0,.int .u8 0,S [],.int .u8 0]⟩ 77 fun Ny yr=>aZ Ny [.int .i64 i28,.int .u8 i31,S s34,.int .u8 i37] 0 yr fun DV=>K8 x0 x1 Ny DV)) fun x0 x1 x5 h=>uy x0 x1 x5 Kn Kr h
abbrev n2 (x0:OA) (x1:List UInt8) (Kn Kr:T0) (h:H):Prop:=
 aB L1 (fun K6=>Ao x0 x1 K6 Kr h) fun x0 x1 h=>n3 x0 x1 Kn Kr h
abbrev n1 (x0:OA) (x1:List UInt8) (Kn Kr:T0) (h:H):Prop:=
 aB L1 (fun K9=>K9 x0 x1 h) fun x0 x1 h=>n2 x0 x1 Kn Kr h
variable (K:KV) (h:H)
abbrev asks:Prop:=cF L0 (fun Kr=>n1 x0 x1 Kr Kr h) fun y4 h=>K (.bool y4) h
theorem ok (q:asks x0 x1 K h):zC 160 [.pointer x0,S x1] h K:=
 cl Tryz.func160 q (fun p q=>sq (l:=L1) p q fun p q=>sc (l:=L1) q (fun q=>sq (l:=L6) p q fun p q=>sq (l:=L7) p q fun p q=>lf p q) fun p q=>sq (l:=L2) p q fun p q=>sc (l:=L3) q (fun q=>sq (l:=L4) p q fun p q=>bl (b:=0) (lp p q fun p q=>sq (l:=L5) p q fun p q=>lf p q)) fun p q=>lf p q) fun p q=>rt p q
end N8
namespace Xag
abbrev L0:=[Zb 4]
abbrev L4:=[Zp 0,Z6 5,Z6 6]
abbrev L3:=[Zp 0,Z6 1,Z6 5,Z6 6]
abbrev L2:=[Zp 0,Z6 1,Z6 5]
abbrev L1:=[Zp 0,Z6 1]
abbrev T0:=TK L0
variable (x0:OA) (x1 x5 x6:Int)
abbrev n7 (Kn Kr:T0) (h:H):Prop:=
 bc .i64 (x5+(1:Int))/\(bc .i64 (x6+(x5+(1:Int)))/\(ae x0 fun a1=>zP h (a1.add 0) fun p2=>ae p2 fun a3=>zS h (a3.add 1) fun mB mC sB=>(0<=(x6+(x5+(1:Int)))/\(x6+(x5+(1:Int)))<(mC:Int))/\(ae mB fun a5=>zI .i64 h (((a5.add (Int.toNat (x6+(x5+(1:Int)))*4))).add 0) fun i6=>zI .u8 h (((a5.add (Int.toNat (x6+(x5+(1:Int)))*4))).add 1) fun i7=>zT h (((a5.add (Int.toNat (x6+(x5+(1:Int)))*4))).add 2) fun s8=>zI .u8 h (((a5.add (Int.toNat (x6+(x5+(1:Int)))*4))).add 3) fun i9=>ae x0 fun jJ=>aZ (jJ.add 3) [.int .i64 i6,.int .u8 i7,S s8,.int .u8 i9] 0 h fun eF=>ae x0 fun a12=>zP eF (a12.add 0) fun U4=>ae U4 fun lS=>zS eF (lS.add 1) fun kR ly oN=>bc .i64 (x5 - (1:Int))/\((0<=(x5 - (1:Int))/\(x5 - (1:Int))<(ly:Int))/\(ae kR fun pM=>zI .i64 eF (((pM.add (Int.toNat (x5 - (1:Int))*4))).add 0) fun i17=>zI .u8 eF (((pM.add (Int.toNat (x5 - (1:Int))*4))).add 1) fun i18=>zT eF (((pM.add (Int.toNat (x5 - (1:Int))*4))).add 2) fun QI=>zI .u8 eF (((pM.add (Int.toNat (x5 - (1:Int))*4))).add 3) fun i20=>aw eF ⟨[.int .i64 0,.int .u8 0,S [],.int .u8 0]⟩ 77 fun a21 lN=>aZ a21 [.int .i64 i17,.int .u8 i18,S QI,.int .u8 i20] 0 lN fun qD=>zC 226 [.pointer x0,(.int .i64 (x6+(x5+(1:Int))))] qD fun v24 iG=>aL .i64 v24 fun i26=>ae x0 fun zU=>zP iG (zU.add 0) fun p28=>zI .i64 iG (a21.add 0) fun i29=>zI .u8 iG (a21.add 1) fun i30=>zT iG (a21.add 2) fun s31=>zI .u8 iG (a21.add 3) fun i32=>zC 54 [.pointer p28,(.agg ⟨[.int .i64 i29,.int .u8 i30,S s31,.int .u8 i32]⟩)] iG fun Sd zZ=>oI Sd fun l35=>aH l35 fun e36 l37=>aL .i64 e36 fun i38=>aH l37 fun e39 l40=>aL .i64 e39 fun i41=>dc l40 (ae x0 fun VU=>zP zZ (VU.add 0) fun p43=>ae p43 fun a44=>zP zZ (a44.add 0) fun p45=>zC 65 [.pointer p45,.int .i64 i38,.int .i64 i41,.int .i64 i26] zZ fun v46 Fb=>au v46 fun b48=>cond b48 (zC 227 [.pointer x0] Fb fun v49 Yk=>Kr true Yk) (zC 227 [.pointer x0] Fb fun v51 h52=>Kr true h52)))))))
abbrev n6 (x0:OA) (x1 x5 x6:Int) (Kn Kr:T0) (h:H):Prop:=
 aB L4 (fun K1=>aO (x6<(0:Int)) (ae x0 fun a53=>zP h (a53.add 0) fun p54=>zC 57 [.pointer p54,.int .i64 x5] h fun v55 h56=>zC 223 [.pointer x0,.int .i64 x1] h56 fun v57 h58=>Kr false h58) (K1 x0 x5 x6 h)) fun x0 x5 x6 h=>n7 x0 x5 x6 Kn Kr h
abbrev n5 (x0:OA) (x1 x5:Int) (Kn Kr:T0) (h:H):Prop:=
 aB L3 (fun K2=>ae x0 fun a59=>zP h (a59.add 0) fun p60=>ae p60 fun Qb=>zS h (Qb.add 1) fun V5 Jq QV=>bc .i64 (x5+(1:Int))/\((0<=(x5+(1:Int))/\(x5+(1:Int))<=(Jq:Int)/\(Jq:Int)<=(QV:Int))/\(zC 183 [(.slice (if QV=Int.toNat (x5+(1:Int)) then V5 else Option.map (fun q=>q.add (Int.toNat (x5+(1:Int))*4)) V5) (Int.toNat (Jq:Int) - Int.toNat (x5+(1:Int))) (QV - Int.toNat (x5+(1:Int)))),(.func (.func 225) ⟨[]⟩ ⟨[]⟩)] h fun v63 h64=>aL .i64 v63 fun i65=>K2 x0 x1 x5 i65 h64))) fun x0 x1 x5 x6 h=>n6 x0 x1 x5 x6 Kn Kr h
abbrev n4 (x0:OA) (x1 x5:Int) (Kn Kr:T0) (h:H):Prop:=
 aB L2 (fun K3=>aO (x5<(0:Int)) (zC 223 [.pointer x0,.int .i64 x1] h fun v66 h67=>Kr false h67) (zC 224 [.pointer x0,.int .i64 x5] h fun v68 V6=>au v68 fun b70=>cond b70 (K3 x0 x1 x5 V6) (Kr false V6))) fun x0 x1 x5 h=>n5 x0 x1 x5 Kn Kr h
abbrev n3 (x0:OA) (x1:Int) (Kn Kr:T0) (h:H):Prop:=
 aB L2 (fun K4=>ae x0 fun a71=>zI .i64 h (a71.add 2) fun i72=>zC 222 [.pointer x0,.int .i64 i72] h fun WX SF=>aL .i64 WX fun i75=>K4 x0 x1 i75 SF) fun x0 x1 x5 h=>n4 x0 x1 x5 Kn Kr h
abbrev n2 (x0:OA) (x1:Int) (Kn Kr:T0) (h:H):Prop:=
 aB L1 (fun K5=>ae x0 fun a76=>zP h (a76.add 0) fun p77=>ae p77 fun a78=>zS h (a78.add 2) fun V7 V8 aav=>(0<=x1/\x1<(V8:Int))/\(ae V7 fun a80=>zI .i64 h ((a80.add (Int.toNat x1*3)).add 0) fun i81=>ae x0 fun a82=>aZ (a82.add 2) [.int .i64 i81] 0 h fun h83=>ae x0 fun a84=>aZ (a84.add 7) [.int .i64 x1] 0 h83 fun SY=>K5 x0 x1 SY)) fun x0 x1 h=>n3 x0 x1 Kn Kr h
abbrev n1 (x0:OA) (x1:Int) (Kn Kr:T0) (h:H):Prop:=
 aB L1 (fun K6=>K6 x0 x1 h) fun x0 x1 h=>n2 x0 x1 Kn Kr h
variable (K:KV) (h:H)
abbrev asks:Prop:=cF L0 (fun Kr=>n1 x0 x1 Kr Kr h) fun y4 h=>K (.bool y4) h
theorem ok (q:asks x0 x1 K h):zC 202 [.pointer x0,.int .i64 x1] h K:=
 cl Tryz.func202 q (fun p q=>sq (l:=L1) p q fun p q=>sq (l:=L1) p q fun p q=>sq (l:=L2) p q fun p q=>sq (l:=L2) p q fun p q=>sq (l:=L3) p q fun p q=>sq (l:=L4) p q fun p q=>lf p q) fun p q=>rt p q
end Xag
namespace Xah
abbrev L0:=[Zb 2]
abbrev T0:=TK L0
variable (cz cD:Int) (eA:List UInt8) (eQ:Int)
abbrev n1 (Kn Kr:T0) (h:H):Prop:=
 aw h ⟨[.int .i64 cz,.int .u8 cD,S eA,.int .u8 eQ]⟩ 77 fun a1 h2=>zI .u8 h2 (a1.add 1) fun i3=>zT h2 (a1.add 2) fun s4=>zC 162 [.int .u8 i3,S s4] h2 fun v5 h6=>au v5 fun b7=>cond b7 (Kr true h6) (Kr false h6)
variable (K:KV) (h:H)
abbrev asks:Prop:=cF L0 (fun Kr=>n1 cz cD eA eQ Kr Kr h) fun y2 h=>K (.bool y2) h
theorem ok (q:asks cz cD eA eQ K h):zC 225 [(.agg ⟨[.int .i64 cz,.int .u8 cD,S eA,.int .u8 eQ]⟩)] h K:=
 cl Tryz.func225 q (fun p q=>lf p q) fun p q=>rt p q
end Xah
namespace Xac
abbrev L0:=[Z6 4]
abbrev T0:=TK L0
variable (x0:OA) (x1:Int)
abbrev n1 (Kn Kr:T0) (h:H):Prop:=
 aw h #[.int .i64 x1] 3 fun a1 h2=>ae x0 fun a3=>zP h2 (a3.add 0) fun p4=>ae p4 fun a5=>zS h2 (a5.add 1) fun jH gn lj=>zC 183 [.slice jH gn lj,(.func (.func 236) ⟨[]⟩ ⟨[.pointer (some a1)]⟩)] h2 fun v7 h8=>aL .i64 v7 fun i9=>Kr i9 h8
variable (K:KV) (h:H)
abbrev asks:Prop:=cF L0 (fun Kr=>n1 x0 x1 Kr Kr h) fun y4 h=>K (.int .i64 y4) h
theorem ok (q:asks x0 x1 K h):zC 222 [.pointer x0,.int .i64 x1] h K:=
 cl Tryz.func222 q (fun p q=>lf p q) fun p q=>rt p q
end Xac
namespace Xad
abbrev L0:=[Zb 3]
abbrev T0:=TK L0
variable (cz cD:Int) (eA:List UInt8) (eQ:Int) (x1:Addr)
abbrev n1 (Kn Kr:T0) (h:H):Prop:=
 aw h ⟨[.int .i64 cz,.int .u8 cD,S eA,.int .u8 eQ]⟩ 77 fun a1 h2=>zI .i64 h2 (a1.add 0) fun i3=>zI .i64 h2 x1 fun i4=>aO (i3=i4) (Kr true h2) (Kr false h2)
variable (K:KV) (h:H)
abbrev asks:Prop:=cF L0 (fun Kr=>n1 cz cD eA eQ x1 Kr Kr h) fun y3 h=>K (.bool y3) h
theorem ok (q:asks cz cD eA eQ x1 K h):zC 236 [(.agg ⟨[.int .i64 cz,.int .u8 cD,S eA,.int .u8 eQ]⟩),.pointer (some x1)] h K:=
 cl Tryz.func236 q (fun p q=>lf p q) fun p q=>rt p q
end Xad
namespace Xaj
abbrev L0:List Sl:=[]
abbrev L1:=[Zp 0,Z6 1]
abbrev T0:=TK L0
variable (x0:OA) (x1:Int)
abbrev n2 (Kn Kr:T0) (h:H):Prop:=
 ae x0 fun a1=>zI .i64 h (a1.add 7) fun i2=>aO (x1<i2) (ae x0 fun a3=>zI .i64 h (a3.add 7) fun i4=>bc .i64 (i4 - (1:Int))/\(ae x0 fun a5=>aZ (a5.add 7) [.int .i64 (i4 - (1:Int))] 0 h fun h6=>Kn h6)) (Kn h)
abbrev n1 (x0:OA) (x1:Int) (Kn Kr:T0) (h:H):Prop:=
 aB L1 (fun K1=>(ae x0 fun a7=>ae x0 fun a8=>zP h (a8.add 0) fun p9=>ae p9 fun jJ=>zS h (jJ.add 2) fun mX lz mg=>bc .i64 (x1+(1:Int))/\(zC 63 [.slice mX lz mg] h fun v12 fi=>aA v12 fun xV xW xX=>bH h fi/\(zC 237 [.slice xV xW xX,.int .i64 x1,.int .i64 (x1+(1:Int))] fi fun tN gX=>aA tN fun oP mY oQ=>zP gX (a7.add 0) fun p18=>ae p18 fun jK=>aZ (jK.add 2) [.slice oP mY oQ] 0 gX fun gx=>K1 x0 x1 gx)))/\(ae x0 fun a21=>zP h (a21.add 0) fun p22=>ae x0 fun a23=>zP h (a23.add 0) fun p24=>ae p24 fun a25=>zS h (a25.add 2) fun AO AP AQ=>bc .i64 (x1+(1:Int))/\(zC 63 [.slice AO AP AQ] h fun zV lK=>aA zV fun DT BD DU=>bH h lK/\(zC 237 [.slice DT BD DU,.int .i64 x1,.int .i64 (x1+(1:Int))] lK fun v30 yj=>aA v30 fun Ee BR BS=>ae p22 fun EC=>aZ (EC.add 2) [.slice Ee BR BS] 0 yj fun zZ=>K1 x0 x1 zZ)))) fun x0 x1 h=>n2 x0 x1 Kn Kr h
variable (K:KV) (h:H)
abbrev asks:Prop:=cF L0 (fun Kr=>n1 x0 x1 Kr Kr h) fun h=>K (.tuple ⟨[]⟩) h
theorem ok (q:asks x0 x1 K h):zC 223 [.pointer x0,.int .i64 x1] h K:=
 cl Tryz.func223 q (fun p q=>sq (l:=L1) p q fun p q=>lf p q) fun p q=>rt p q
end Xaj
namespace Xai
abbrev L0:=[Zb 4]
abbrev L2:List Sl:=[]
abbrev L3:=[Zl 17,Z6 18,Z6 19]
abbrev L1:=[Zp 0,Z6 1]
abbrev T0:=TK L0
abbrev T2:=TK L2
abbrev T3:=TK L3
variable (x0:OA) (x1:Int)
abbrev n3 (Kn Kr:T0) (h:H):Prop:=
 Kr true h
abbrev bS (Kn Ke0:T2) (Kr:T0):T3->T3:=fun K2 QW QY V9 qK qu h=>aO (qu<qK) ((0<=qu/\qu<(QY:Int))/\(ae QW fun a1=>zI .i64 h (((a1.add (Int.toNat qu*4))).add 0) fun i2=>zI .u8 h (((a1.add (Int.toNat qu*4))).add 1) fun i3=>zT h (((a1.add (Int.toNat qu*4))).add 2) fun s4=>zI .u8 h (((a1.add (Int.toNat qu*4))).add 3) fun i5=>aw h ⟨[.int .i64 0,.int .u8 0,S [],.int .u8 0]⟩ 77 fun a6 h7=>aZ a6 [.int .i64 i2,.int .u8 i3,S s4,.int .u8 i5] 0 h7 fun h8=>zI .i64 h8 (a6.add 0) fun i9=>zI .u8 h8 (a6.add 1) fun i10=>zT h8 (a6.add 2) fun vl=>zI .u8 h8 (a6.add 3) fun i12=>aw h8 #[.int .i64 0,.int .u8 0,S [42],.int .u8 0,.int .i64 i9,.int .u8 i10,S vl,.int .u8 i12] 77 fun pU dA=>aw dA #[S [42]] 9 fun pV gX=>zC 191 [.slice (some pU) 2 2,.int .u8 0,.slice (some pV) 1 1] gX fun EG gO=>au EG fun b19=>cond b19 (bc .i64 (qu+(1:Int))/\(K2 QW QY V9 qK (qu+(1:Int)) gO)) (Kr false gO))) (Ke0 h)
abbrev cR (Kn Ke0:T2) (Kr:T0):Nat->T3:=LP L3 (bS Kn Ke0 Kr)
abbrev n4 (Kn:T2) (Kr:T0) (h:H):Prop:=
 aB L3 (fun K3=>ae x0 fun a20=>zP h (a20.add 0) fun p21=>ae p21 fun a22=>zS h (a22.add 1) fun vB te vC=>bc .i64 (x1+(1:Int))/\((0<=(x1+(1:Int))/\(x1+(1:Int))<=(te:Int)/\(te:Int)<=(vC:Int))/\(K3 (if vC=Int.toNat (x1+(1:Int)) then vB else Option.map (fun q=>q.add (Int.toNat (x1+(1:Int))*4)) vB) (Int.toNat (te:Int) - Int.toNat (x1+(1:Int))) (vC - Int.toNat (x1+(1:Int))) (((Int.toNat (te:Int) - Int.toNat (x1+(1:Int))):Nat):Int) 0 h))) fun QW QY V9 qK qu h=>il L3 (bS Kn Kn Kr) fun K2=>K2 QW QY V9 qK qu h
abbrev n2 (Kn Kr:T0) (h:H):Prop:=
 aB L2 (fun K1=>n4 x0 x1 K1 Kr h) fun h=>n3 Kn Kr h
abbrev n1 (x0:OA) (x1:Int) (Kn Kr:T0) (h:H):Prop:=
 aB L1 (fun K4=>K4 x0 x1 h) fun x0 x1 h=>n2 x0 x1 Kn Kr h
variable (K:KV) (h:H)
abbrev asks:Prop:=cF L0 (fun Kr=>n1 x0 x1 Kr Kr h) fun y4 h=>K (.bool y4) h
theorem ok (q:asks x0 x1 K h):zC 224 [.pointer x0,.int .i64 x1] h K:=
 cl Tryz.func224 q (fun p q=>sq (l:=L1) p q fun p q=>sc (l:=L2) q (fun q=>sq (l:=L3) p q fun p q=>bl (b:=0) (lp p q fun p q=>lf p q)) fun p q=>lf p q) fun p q=>rt p q
end Xai
namespace Gz
abbrev L0:=[Z6 4]
abbrev L3:=[Z6 5]
abbrev L2:=[Zp 0,Z6 1,Z6 5,Z6 6]
abbrev L7:=[Zp 0,Z6 1,Z6 5,Z6 6,Z6 9]
abbrev L6:=[Zp 0,Z6 1,Z6 5,Z6 6,Z6 8,Z6 9]
abbrev L5:=[Zp 0,Z6 1,Z6 5,Z6 6,Za 7,Z6 8]
abbrev L4:=[Zp 0,Z6 1,Z6 5,Z6 6,Za 7]
abbrev L1:=[Zp 0,Z6 1]
abbrev T0:=TK L0
abbrev T3:=TK L3
abbrev T2:=TK L2
variable (x0:OA) (x1 x5 x6:Int) (x7:Addr) (x8 x9:Int)
abbrev n6 (Kn Kr:T0) (h:H):Prop:=
 Kr x5 h
abbrev n20 (Kn Ke1:T2) (Ke0:T3) (Kr:T0) (h:H):Prop:=
 ae x0 fun a1=>zP h (a1.add 0) fun p2=>ae p2 fun a3=>zP h (a3.add 0) fun p4=>zC 65 [.pointer p4,.int .i64 x9,.int .i64 (-1),.int .i64 x5] h fun v5 h6=>au v5 fun b7=>cond b7 (Kn x0 x1 x9 x6 h6) (Kn x0 x1 x9 x6 h6)
abbrev n19 (x0:OA) (x1 x5 x6 x8 x9:Int) (Kn Ke1:T2) (Ke0:T3) (Kr:T0) (h:H):Prop:=
 aB L7 (fun K3=>ae x0 fun a8=>zI .i64 h ((a8.add 3).add 0) fun i9=>aO (x5=i9) (bc .i64 (x8+(1:Int))/\(ae x0 fun jJ=>aZ (jJ.add 7) [.int .i64 (x8+(1:Int))] 0 h fun eF=>K3 x0 x1 x5 x6 x9 eF)) (K3 x0 x1 x5 x6 x9 h)) fun x0 x1 x5 x6 x9 h=>n20 x0 x1 x5 x6 x9 Kn Ke1 Ke0 Kr h
abbrev n18 (x0:OA) (x1 x5 x6 x8 x9:Int) (Kn Ke1:T2) (Ke0:T3) (Kr:T0) (h:H):Prop:=
 aB L6 (fun K4=>ae x0 fun a12=>zP h (a12.add 0) fun U4=>ae U4 fun lS=>zS h (lS.add 1) fun kR ly oN=>ae x0 fun pM=>zP h (pM.add 0) fun p17=>ae p17 fun sS=>zS h (sS.add 2) fun qG pN pO=>(0<=x1/\x1<(ly:Int))/\(ae kR fun a20=>aZ ((a20.add (Int.toNat x1*4)).add 0) [.int .i64 x9] 0 h fun qC=>(0<=x8/\x8<(pN:Int))/\(ae qG fun a22=>aZ ((a22.add (Int.toNat x8*3)).add 0) [.int .i64 x9] 0 qC fun qD=>K4 x0 x1 x5 x6 x8 x9 qD))) fun x0 x1 x5 x6 x8 x9 h=>n19 x0 x1 x5 x6 x8 x9 Kn Ke1 Ke0 Kr h
abbrev n17 (x0:OA) (x1 x5 x6:Int) (x7:Addr) (x8:Int) (Kn Ke1:T2) (Ke0:T3) (Kr:T0) (h:H):Prop:=
 aB L6 (fun K5=>ae x0 fun a24=>zP h (a24.add 0) fun p25=>ae p25 fun a26=>zP h (a26.add 0) fun QJ=>zI .i64 h (x7.add 0) fun i28=>zC 238 [.pointer QJ,.int .i64 i28] h fun Jv tO=>aL .i64 Jv fun i31=>K5 x0 x1 x5 x6 x8 i31 tO) fun x0 x1 x5 x6 x8 x9 h=>n18 x0 x1 x5 x6 x8 x9 Kn Ke1 Ke0 Kr h
abbrev n16 (x0:OA) (x1 x5 x6:Int) (x7:Addr) (x8:Int) (Kn Ke1:T2) (Ke0:T3) (Kr:T0) (h:H):Prop:=
 aB L5 (fun K6=>aO (x8<(0:Int)) (ae x0 fun tH=>zP h (tH.add 0) fun p33=>zI .i64 h (x7.add 0) fun i34=>zC 155 [.pointer p33,.int .i64 i34] h fun Kb uC=>Ke1 x0 x1 x5 x6 uC) (K6 x0 x1 x5 x6 x7 x8 h)) fun x0 x1 x5 x6 x7 x8 h=>n17 x0 x1 x5 x6 x7 x8 Kn Ke1 Ke0 Kr h
abbrev n15 (x0:OA) (x1 x5 x6:Int) (x7:Addr) (x8:Int) (Kn Ke1:T2) (Ke0:T3) (Kr:T0) (h:H):Prop:=
 aB L5 (fun K7=>aO (x8 ≥ 0) (aO (x6>(3:Int)) (zC 223 [.pointer x0,.int .i64 x8] h fun v37 Cf=>K7 x0 x1 x5 x6 x7 (-1) Cf) (K7 x0 x1 x5 x6 x7 x8 h)) (K7 x0 x1 x5 x6 x7 x8 h)) fun x0 x1 x5 x6 x7 x8 h=>n16 x0 x1 x5 x6 x7 x8 Kn Ke1 Ke0 Kr h
abbrev Ju (x0:OA) (x1 x5 x6:Int) (x7:Addr) (Kn Ke1:T2) (Ke0:T3) (Kr:T0) (h:H):Prop:=
 aB L5 (fun K8=>ae x0 fun Vq=>zP h (Vq.add 0) fun p40=>ae p40 fun Vr=>zS h (Vr.add 2) fun QB Jh QC=>zI .i64 h (x7.add 0) fun i43=>zC 201 [.slice QB Jh QC,.int .i64 i43] h fun Mr Ex=>aL .i64 Mr fun i46=>K8 x0 x1 x5 x6 x7 i46 Ex) fun x0 x1 x5 x6 x7 x8 h=>n15 x0 x1 x5 x6 x7 x8 Kn Ke1 Ke0 Kr h
abbrev JR (x0:OA) (x1 x5 x6:Int) (x7:Addr) (Kn Ke1:T2) (Ke0:T3) (Kr:T0) (h:H):Prop:=
 aB L4 (fun K9=>zI .i64 h (x7.add 0) fun i47=>ae x0 fun Nf=>zI .i64 h (Nf.add 2) fun i49=>aO (i47=i49) (Ke0 x5 h) (K9 x0 x1 x5 x6 x7 h)) fun x0 x1 x5 x6 x7 h=>Ju x0 x1 x5 x6 x7 Kn Ke1 Ke0 Kr h
abbrev uy (x0:OA) (x1 x5 x6:Int) (Kn Ke1:T2) (Ke0:T3) (Kr:T0) (h:H):Prop:=
 aB L4 (fun ng=>ae x0 fun Ok=>zP h (Ok.add 0) fun p51=>ae p51 fun a52=>zS h (a52.add 1) fun Wa Wc ahv=>(0<=x1/\x1<(Wc:Int))/\(ae Wa fun SG=>zI .i64 h (((SG.add (Int.toNat x1*4))).add 0) fun i55=>zI .u8 h (((SG.add (Int.toNat x1*4))).add 1) fun i56=>zT h (((SG.add (Int.toNat x1*4))).add 2) fun s57=>zI .u8 h (((SG.add (Int.toNat x1*4))).add 3) fun i58=>aw h ⟨[.int .i64 0,.int .u8 0,S [],.int .u8 0]⟩ 77 fun a59 H5=>aZ a59 [.int .i64 i55,.int .u8 i56,S s57,.int .u8 i58] 0 H5 fun h61=>ng x0 x1 x5 x6 a59 h61)) fun x0 x1 x5 x6 x7 h=>JR x0 x1 x5 x6 x7 Kn Ke1 Ke0 Kr h
abbrev Ao (x0:OA) (x1 x5 x6:Int) (Kn Ke1:T2) (Ke0:T3) (Kr:T0) (h:H):Prop:=
 aB L2 (fun rZ=>bc .i64 (x6+(1:Int))/\(rZ x0 x1 x5 (x6+(1:Int)) h)) fun x0 x1 x5 x6 h=>uy x0 x1 x5 x6 Kn Ke1 Ke0 Kr h
abbrev sg (x0:OA) (x1 x5 x6:Int) (Kn Ke1:T2) (Ke0:T3) (Kr:T0) (h:H):Prop:=
 aB L2 (fun BU=>bc .i64 (x1 - (1:Int))/\(BU x0 (x1 - (1:Int)) x5 x6 h)) fun x0 x1 x5 x6 h=>Ao x0 x1 x5 x6 Kn Ke1 Ke0 Kr h
abbrev ix (Kn Ke0:T3) (Kr:T0):T2->T2:=fun K2 x0 x1 x5 x6 h=>sg x0 x1 x5 x6 K2 K2 Ke0 Kr h
abbrev gJ (Kn Ke0:T3) (Kr:T0):Nat->T2:=LP L2 (ix Kn Ke0 Kr)
abbrev n5 (x0:OA) (x1 x5 x6:Int) (Kn Kr:T0) (h:H):Prop:=
 aB L3 (fun K1=>il L2 (ix K1 K1 Kr) fun K2=>K2 x0 x1 x5 x6 h) fun x5 h=>n6 x5 Kn Kr h
abbrev n4 (x0:OA) (x1 x5 x6:Int) (Kn Kr:T0) (h:H):Prop:=
 aB L2 (fun za=>za x0 x1 x5 x6 h) fun x0 x1 x5 x6 h=>n5 x0 x1 x5 x6 Kn Kr h
abbrev n3 (x0:OA) (x1:Int) (Kn Kr:T0) (h:H):Prop:=
 aB L2 (fun Ah=>ae x0 fun a62=>zI .i64 h ((a62.add 3).add 0) fun i63=>Ah x0 x1 i63 0 h) fun x0 x1 x5 x6 h=>n4 x0 x1 x5 x6 Kn Kr h
abbrev n1 (x0:OA) (x1:Int) (Kn Kr:T0) (h:H):Prop:=
 aB L1 (fun EE=>EE x0 x1 h) fun x0 x1 h=>n3 x0 x1 Kn Kr h
variable (K:KV) (h:H)
abbrev asks:Prop:=cF L0 (fun Kr=>n1 x0 x1 Kr Kr h) fun y4 h=>K (.int .i64 y4) h
theorem ok (q:asks x0 x1 K h):zC 226 [.pointer x0,.int .i64 x1] h K:=
 cl Tryz.func226 q (fun p q=>sq (l:=L1) p q fun p q=>so (sq (l:=L2) p q fun p q=>sq (l:=L2) p q fun p q=>sc (l:=L3) q (fun q=>bl (b:=0) (lp p q fun p q=>bl (b:=1) (sq (l:=L2) p q fun p q=>sq (l:=L2) p q fun p q=>sq (l:=L4) p q fun p q=>sq (l:=L4) p q fun p q=>sq (l:=L5) p q fun p q=>sq (l:=L5) p q fun p q=>sq (l:=L5) p q fun p q=>sq (l:=L6) p q fun p q=>sq (l:=L6) p q fun p q=>sq (l:=L7) p q fun p q=>lf p q))) fun p q=>lf p q)) fun p q=>rt p q
end Gz
namespace N7
abbrev L0:List Sl:=[]
abbrev L6:=[Zp 0,Z6 2,Za 5]
abbrev L2:=[Zp 0,Z6 2]
abbrev L5:=[Zp 0,Z6 2,Za 4]
abbrev L4:=[Zp 0,Z6 2,Z6 3,Za 4]
abbrev L3:=[Zp 0,Z6 2,Z6 3]
abbrev T0:=TK L0
variable (x0:OA) (x2 x3:Int) (x4 x5:Addr)
abbrev sg (Kn Kr:T0) (h:H):Prop:=
 aZ (x5.add 0) [.int .i64 x2] 0 h fun h1=>ae x0 fun a2=>zP h1 (a2.add 0) fun p3=>ae x0 fun a4=>zI .i64 h1 (a4.add 2) fun i5=>zC 155 [.pointer p3,.int .i64 i5] h1 fun v6 h7=>((ae x0 fun a8=>ae x0 fun a9=>zP h7 (a9.add 0) fun p10=>ae p10 fun lk=>zS h7 (lk.add 1) fun rO nX rP=>ae x0 fun pU=>zI .i64 h7 ((pU.add 3).add 0) fun i14=>zI .i64 h7 (x5.add 0) fun i15=>zI .u8 h7 (x5.add 1) fun i16=>zT h7 (x5.add 2) fun Oj=>zI .u8 h7 (x5.add 3) fun i18=>zC 222 [.pointer x0,.int .i64 i14] h7 fun xA gx=>aL .i64 xA fun i21=>bH h7 gx/\(bc .i64 (i21+(1:Int))/\(aw gx #[.int .i64 i15,.int .u8 i16,S Oj,.int .u8 i18] 77 fun a22 qD=>bH gx qD/\(zC 241 [.slice rO nX rP,.int .i64 (i21+(1:Int)),.slice (some a22) 1 1] qD fun v24 iG=>aA v24 fun AO AP AQ=>zP iG (a8.add 0) fun QJ=>ae QJ fun a28=>aZ (a28.add 1) [.slice AO AP AQ] 0 iG fun u5=>Kn u5))))/\(ae x0 fun ET=>ae x0 fun a31=>zP h7 (a31.add 0) fun p32=>ae p32 fun EC=>zS h7 (EC.add 1) fun xC xD yU=>ae x0 fun Nx=>zI .i64 h7 ((Nx.add 3).add 0) fun i36=>zI .i64 h7 (x5.add 0) fun i37=>zI .u8 h7 (x5.add 1) fun i38=>zT h7 (x5.add 2) fun s39=>zI .u8 h7 (x5.add 3) fun i40=>aw h7 #[.int .i64 i37,.int .u8 i38,S s39,.int .u8 i40] 77 fun Vr I7=>bH h7 I7/\(zC 222 [.pointer x0,.int .i64 i36] I7 fun OF yh=>aL .i64 OF fun i45=>bH I7 yh/\(bc .i64 (i45+(1:Int))/\(zC 241 [.slice xC xD yU,.int .i64 (i45+(1:Int)),.slice (some Vr) 1 1] yh fun v46 Fb=>aA v46 fun ahx ahy ahz=>zP Fb (ET.add 0) fun p49=>ae p49 fun Ok=>aZ (Ok.add 1) [.slice ahx ahy ahz] 0 Fb fun BT=>Kn BT)))))/\((ae x0 fun a52=>zP h7 (a52.add 0) fun p53=>ae x0 fun SG=>zP h7 (SG.add 0) fun p55=>ae p55 fun a56=>zS h7 (a56.add 1) fun NM NN NO=>ae x0 fun a58=>zI .i64 h7 ((a58.add 3).add 0) fun i59=>zI .i64 h7 (x5.add 0) fun i60=>zI .u8 h7 (x5.add 1) fun i61=>zT h7 (x5.add 2) fun s62=>zI .u8 h7 (x5.add 3) fun i63=>zC 222 [.pointer x0,.int .i64 i59] h7 fun XX QG=>aL .i64 XX fun i66=>bH h7 QG/\(bc .i64 (i66+(1:Int))/\(aw QG #[.int .i64 i60,.int .u8 i61,S s62,.int .u8 i63] 77 fun a67 h68=>bH QG h68/\(zC 241 [.slice NM NN NO,.int .i64 (i66+(1:Int)),.slice (some a67) 1 1] h68 fun v69 h70=>aA v69 fun ahC ahD ahE=>ae p53 fun a72=>aZ (a72.add 1) [.slice ahC ahD ahE] 0 h70 fun TX=>Kn TX))))/\(ae x0 fun a74=>zP h7 (a74.add 0) fun p75=>ae x0 fun a76=>zP h7 (a76.add 0) fun p77=>ae p77 fun a78=>zS h7 (a78.add 1) fun V7 V8 aav=>ae x0 fun a80=>zI .i64 h7 ((a80.add 3).add 0) fun i81=>zI .i64 h7 (x5.add 0) fun i82=>zI .u8 h7 (x5.add 1) fun i83=>zT h7 (x5.add 2) fun s84=>zI .u8 h7 (x5.add 3) fun i85=>aw h7 #[.int .i64 i82,.int .u8 i83,S s84,.int .u8 i85] 77 fun a86 QH=>bH h7 QH/\(zC 222 [.pointer x0,.int .i64 i81] QH fun v88 SH=>aL .i64 v88 fun i90=>bH QH SH/\(bc .i64 (i90+(1:Int))/\(zC 241 [.slice V7 V8 aav,.int .i64 (i90+(1:Int)),.slice (some a86) 1 1] SH fun v91 h92=>aA v91 fun ahI ahJ ahK=>ae p75 fun a94=>aZ (a94.add 1) [.slice ahI ahJ ahK] 0 h92 fun h95=>Kn h95)))))
abbrev n9 (x0:OA) (x2:Int) (Kn Kr:T0) (h:H):Prop:=
 aB L6 (fun K1=>(ae x0 fun a96=>zP h (a96.add 0) fun p97=>ae p97 fun a98=>zS h (a98.add 1) fun VI VJ aa7=>ae x0 fun MV=>zI .i64 h (MV.add 2) fun i101=>zC 222 [.pointer x0,.int .i64 i101] h fun Ng vF=>aL .i64 Ng fun i104=>bH h vF/\((0<=i104/\i104<(VJ:Int))/\(ae VI fun a105=>zI .i64 vF (((a105.add (Int.toNat i104*4))).add 0) fun i106=>zI .u8 vF (((a105.add (Int.toNat i104*4))).add 1) fun i107=>zT vF (((a105.add (Int.toNat i104*4))).add 2) fun ahN=>zI .u8 vF (((a105.add (Int.toNat i104*4))).add 3) fun i109=>aw vF ⟨[.int .i64 0,.int .u8 0,S [],.int .u8 0]⟩ 77 fun aaA aaB=>bH vF aaB/\(aZ aaA [.int .i64 i106,.int .u8 i107,S ahN,.int .u8 i109] 0 aaB fun Wd=>K1 x0 x2 aaA Wd))))/\(ae x0 fun ahO=>zP h (ahO.add 0) fun ahP=>ae ahP fun ahQ=>zS h (ahQ.add 1) fun aaC aaD aoW=>ae x0 fun a117=>zI .i64 h (a117.add 2) fun i118=>aw h ⟨[.int .i64 0,.int .u8 0,S [],.int .u8 0]⟩ 77 fun a119 Em=>bH h Em/\(zC 222 [.pointer x0,.int .i64 i118] Em fun ahR Jr=>aL .i64 ahR fun i123=>bH Em Jr/\((0<=i123/\i123<(aaD:Int))/\(ae aaC fun a124=>zI .i64 Jr (((a124.add (Int.toNat i123*4))).add 0) fun i125=>zI .u8 Jr (((a124.add (Int.toNat i123*4))).add 1) fun i126=>zT Jr (((a124.add (Int.toNat i123*4))).add 2) fun ahS=>zI .u8 Jr (((a124.add (Int.toNat i123*4))).add 3) fun i128=>aZ a119 [.int .i64 i125,.int .u8 i126,S ahS,.int .u8 i128] 0 Jr fun Iv=>K1 x0 x2 a119 Iv))))) fun x0 x2 x5 h=>sg x0 x2 x5 Kn Kr h
abbrev n8 (x0:OA) (x2:Int) (x4:Addr) (Kn Kr:T0) (h:H):Prop:=
 aB L2 (fun K2=>(ae x0 fun a130=>ae x0 fun a131=>zP h (a131.add 0) fun NP=>ae NP fun We=>zS h (We.add 2) fun aaE aaF aaG=>ae x0 fun Wf=>zI .i64 h (Wf.add 7) fun i136=>zI .i64 h (x4.add 0) fun i137=>zT h (x4.add 1) fun ahT=>zS h (x4.add 2) fun aaH aaI aaJ=>aw h #[.int .i64 i137,S ahT,.slice aaH aaI aaJ] 79 fun TI KA=>bH h KA/\(zC 240 [.slice aaE aaF aaG,.int .i64 i136,.slice (some TI) 1 1] KA fun OX Ir=>aA OX fun KC KD KG=>zP Ir (a130.add 0) fun Wg=>ae Wg fun a146=>aZ (a146.add 2) [.slice KC KD KG] 0 Ir fun Ec=>K2 x0 x2 Ec))/\(ae x0 fun a148=>zP h (a148.add 0) fun ahU=>ae x0 fun Vo=>zP h (Vo.add 0) fun ahV=>ae ahV fun a152=>zS h (a152.add 2) fun aaK aaL aaM=>ae x0 fun a154=>zI .i64 h (a154.add 7) fun i155=>zI .i64 h (x4.add 0) fun i156=>zT h (x4.add 1) fun ahW=>zS h (x4.add 2) fun aaN aaO aaP=>aw h #[.int .i64 i156,S ahW,.slice aaN aaO aaP] 79 fun a159 aaQ=>bH h aaQ/\(zC 240 [.slice aaK aaL aaM,.int .i64 i155,.slice (some a159) 1 1] aaQ fun ahX NQ=>aA ahX fun aaR aaS aaT=>ae ahU fun a164=>aZ (a164.add 2) [.slice aaR aaS aaT] 0 NQ fun ahY=>K2 x0 x2 ahY))) fun x0 x2 h=>n9 x0 x2 Kn Kr h
abbrev n7 (x0:OA) (x2 x3:Int) (x4:Addr) (Kn Kr:T0) (h:H):Prop:=
 aB L5 (fun K3=>zC 223 [.pointer x0,.int .i64 x3] h fun aaU Wh=>K3 x0 x2 x4 Wh) fun x0 x2 x4 h=>n8 x0 x2 x4 Kn Kr h
abbrev n6 (x0:OA) (x2 x3:Int) (x4:Addr) (Kn Kr:T0) (h:H):Prop:=
 aB L4 (fun K4=>aZ (x4.add 0) [.int .i64 x2] 0 h fun ahZ=>K4 x0 x2 x3 x4 ahZ) fun x0 x2 x3 x4 h=>n7 x0 x2 x3 x4 Kn Kr h
abbrev n5 (x0:OA) (x2 x3:Int) (Kn Kr:T0) (h:H):Prop:=
 aB L4 (fun K5=>ae x0 fun ai0=>zP h (ai0.add 0) fun ai1=>ae ai1 fun a171=>zS h (a171.add 2) fun aaV aaW aoX=>(0<=x3/\x3<(aaW:Int))/\(ae aaV fun a173=>zI .i64 h (((a173.add (Int.toNat x3*3))).add 0) fun i174=>zT h (((a173.add (Int.toNat x3*3))).add 1) fun ai2=>zS h (((a173.add (Int.toNat x3*3))).add 2) fun NR NS NT=>aw h ⟨[.int .i64 0,S [],.slice none 0 0]⟩ 79 fun QZ Q0=>aZ QZ [.int .i64 i174,S ai2,.slice NR NS NT] 0 Q0 fun ai3=>K5 x0 x2 x3 QZ ai3)) fun x0 x2 x3 x4 h=>n6 x0 x2 x3 x4 Kn Kr h
abbrev n4 (x0:OA) (x2:Int) (Kn Kr:T0) (h:H):Prop:=
 aB L3 (fun K6=>ae x0 fun ai4=>zP h (ai4.add 0) fun ai5=>ae ai5 fun a182=>zS h (a182.add 2) fun aaX aaY aaZ=>ae x0 fun ai6=>zI .i64 h (ai6.add 2) fun i185=>zC 201 [.slice aaX aaY aaZ,.int .i64 i185] h fun ai7 ai8=>aL .i64 ai7 fun i188=>K6 x0 x2 i188 ai8) fun x0 x2 x3 h=>n5 x0 x2 x3 Kn Kr h
abbrev n3 (x0:OA) (x2:Int) (Kn Kr:T0) (h:H):Prop:=
 aB L2 (fun K7=>ae x0 fun ai9=>zP h (ai9.add 0) fun aia=>ae aia fun aib=>zP h (aib.add 0) fun aic=>ae x0 fun a193=>zI .i64 h ((a193.add 3).add 0) fun i194=>zC 65 [.pointer aic,.int .i64 i194,.int .i64 (-1),.int .i64 x2] h fun aid ab0=>au aid fun aie=>cond aie (K7 x0 x2 ab0) (K7 x0 x2 ab0)) fun x0 x2 h=>n4 x0 x2 Kn Kr h
abbrev n2 (x0:OA) (x2:Int) (Kn Kr:T0) (h:H):Prop:=
 aB L2 (fun K8=>ae x0 fun a198=>zP h (a198.add 0) fun aif=>ae aif fun aih=>zP h (aih.add 0) fun aii=>ae x0 fun aij=>zI .i64 h ((aij.add 3).add 0) fun i203=>zC 239 [.pointer aii,.int .i64 i203,.int .i64 x2] h fun aik Q1=>au aik fun ail=>cond ail (K8 x0 x2 Q1) (K8 x0 x2 Q1)) fun x0 x2 h=>n3 x0 x2 Kn Kr h
abbrev n1 (x0:OA) (Kn Kr:T0) (h:H):Prop:=
 aB L2 (fun K9=>ae x0 fun Wi=>zP h (Wi.add 0) fun aim=>ae aim fun ain=>zP h (ain.add 0) fun aio=>ae x0 fun aip=>zI .i64 h (aip.add 2) fun i212=>zC 238 [.pointer aio,.int .i64 i212] h fun aiq air=>aL .i64 aiq fun i215=>K9 x0 i215 air) fun x0 x2 h=>n2 x0 x2 Kn Kr h
variable (K:KV) (h:H)
abbrev asks:Prop:=cF L0 (fun Kr=>n1 x0 Kr Kr h) fun h=>K (.tuple ⟨[]⟩) h
theorem ok (q:asks x0 K h):zC 227 [.pointer x0] h K:=
 cl Tryz.func227 q (fun p q=>sq (l:=L2) p q fun p q=>sq (l:=L2) p q fun p q=>sq (l:=L2) p q fun p q=>sq (l:=L3) p q fun p q=>sq (l:=L4) p q fun p q=>sq (l:=L4) p q fun p q=>sq (l:=L5) p q fun p q=>sq (l:=L2) p q fun p q=>sq (l:=L6) p q fun p q=>lf p q) fun p q=>rt p q
end N7
namespace JG
abbrev L2:=[Zp 0,Zs 1,Z6 4]
abbrev L0:List Sl:=[]
abbrev L3:=[Zp 0,Zs 1,Z6 4,Za 5]
abbrev L4:=[Zp 0,Zs 1,Z6 4,Za 5,Zb 31]
abbrev T2:=TK L2
abbrev T0:=TK L0
abbrev T3:=TK L3
variable (x0:OA) (x1:List UInt8) (x4:Int) (x5:Addr) (VW:Bool)
abbrev n6 (Kn:T2) (Ke0 Kr:T0) (h:H):Prop:=
 bc .i64 (x4 - (1:Int))/\(Kn x0 x1 (x4 - (1:Int)) h)
abbrev sg (Kn Ke1:T2) (Ke0 Kr:T0) (h:H):Prop:=
 zI .u8 h (x5.add 1) fun i1=>zT h (x5.add 2) fun s2=>zC 177 [.int .u8 i1,S s2] h fun v3 h4=>au v3 fun b5=>cond b5 (Kr h4) (Kn x0 x1 x4 h4)
abbrev uy (Kn:T3) (Ke1:T2) (Ke0 Kr:T0) (h:H):Prop:=
 cond VW (ae x0 fun a6=>zS h (a6.add 1) fun yT zY yu=>zC 169 [.slice yT zY yu,S x1] h fun v8 h9=>aL .i64 v8 fun i10=>bc .i64 (x4+(1:Int))/\(zC 61 [.pointer x0,(.int .i64 (if(x4+(1:Int))>i10 then(x4+(1:Int)) else i10))] h9 fun v11 eM=>zC 61 [.pointer x0,.int .i64 x4] eM fun np dA=>Kr dA)) (Kn x0 x1 x4 x5 h)
abbrev Ao (x0:OA) (x1:List UInt8) (x4:Int) (x5:Addr) (Kn:T3) (Ke1:T2) (Ke0 Kr:T0) (h:H):Prop:=
 aB L4 (fun K4=>zI .u8 h (x5.add 1) fun i15=>aO (i15=(0:Int)) (zT h (x5.add 2) fun Mv=>aO (Mv=x1) (K4 x0 x1 x4 x5 true h) (K4 x0 x1 x4 x5 false h)) (K4 x0 x1 x4 x5 false h)) fun x0 x1 x4 x5 VW h=>uy x0 x1 x4 x5 VW Kn Ke1 Ke0 Kr h
abbrev n9 (x0:OA) (x1:List UInt8) (x4:Int) (x5:Addr) (Kn Ke1:T2) (Ke0 Kr:T0) (h:H):Prop:=
 aB L3 (fun K3=>Ao x0 x1 x4 x5 K3 Ke1 Ke0 Kr h) fun x0 x1 x4 x5 h=>sg x0 x1 x4 x5 Kn Ke1 Ke0 Kr h
abbrev n8 (x0:OA) (x1:List UInt8) (x4:Int) (Kn Ke1:T2) (Ke0 Kr:T0) (h:H):Prop:=
 aB L3 (fun K5=>ae x0 fun oO=>zS h (oO.add 1) fun gL fA fW=>(0<=x4/\x4<(fA:Int))/\(ae gL fun jK=>zI .i64 h (((jK.add (Int.toNat x4*4))).add 0) fun i20=>zI .u8 h (((jK.add (Int.toNat x4*4))).add 1) fun i21=>zT h (((jK.add (Int.toNat x4*4))).add 2) fun Zx=>zI .u8 h (((jK.add (Int.toNat x4*4))).add 3) fun i23=>aw h ⟨[.int .i64 0,.int .u8 0,S [],.int .u8 0]⟩ 77 fun a24 iG=>aZ a24 [.int .i64 i20,.int .u8 i21,S Zx,.int .u8 i23] 0 iG fun oC=>K5 x0 x1 x4 a24 oC)) fun x0 x1 x4 x5 h=>n9 x0 x1 x4 x5 Kn Ke1 Ke0 Kr h
abbrev n5 (x0:OA) (x1:List UInt8) (x4:Int) (Kn:T2) (Ke0 Kr:T0) (h:H):Prop:=
 aB L2 (fun K2=>n8 x0 x1 x4 K2 K2 Ke0 Kr h) fun x0 x1 x4 h=>n6 x0 x1 x4 Kn Ke0 Kr h
abbrev n4 (x0:OA) (x1:List UInt8) (x4:Int) (Kn:T2) (Ke0 Kr:T0) (h:H):Prop:=
 aB L2 (fun K6=>aO (x4>(0:Int)) (K6 x0 x1 x4 h) (Ke0 h)) fun x0 x1 x4 h=>n5 x0 x1 x4 Kn Ke0 Kr h
abbrev mA (Kn Ke0 Kr:T0):T2->T2:=fun K1 x0 x1 x4 h=>n4 x0 x1 x4 K1 Ke0 Kr h
abbrev nv (Kn Ke0 Kr:T0):Nat->T2:=LP L2 (mA Kn Ke0 Kr)
abbrev n1 (x0:OA) (x1:List UInt8) (Kn Kr:T0) (h:H):Prop:=
 aB L2 (fun K7=>ae x0 fun zU=>zS h (zU.add 1) fun Nd BQ QD=>bc .i64 ((BQ:Int) - 1)/\(K7 x0 x1 ((BQ:Int) - 1) h)) fun x0 x1 x4 h=>il L2 (mA Kn Kn Kr) fun K1=>K1 x0 x1 x4 h
variable (K:KV) (h:H)
abbrev asks:Prop:=cF L0 (fun Kr=>n1 x0 x1 Kr Kr h) fun h=>K (.tuple ⟨[]⟩) h
theorem ok (q:asks x0 x1 K h):zC 124 [.pointer x0,S x1] h K:=
 cl Tryz.func124 q (fun p q=>sq (l:=L2) p q fun p q=>bl (b:=0) (lp p q fun p q=>sq (l:=L2) p q fun p q=>sc (l:=L2) q (fun q=>bl (b:=1) (sq (l:=L3) p q fun p q=>sc (l:=L3) q (fun q=>sq (l:=L4) p q fun p q=>lf p q) fun p q=>lf p q)) fun p q=>lf p q)) fun p q=>rt p q
end JG
namespace V1
abbrev L0:=[Z6 4]
abbrev L2:List Sl:=[]
abbrev L3:=[Zp 0,Z6 1,Z6 5]
abbrev L1:=[Zp 0,Z6 1]
abbrev T0:=TK L0
abbrev T2:=TK L2
abbrev T3:=TK L3
variable (x0:OA) (x1:Int)
abbrev n3 (Kn Kr:T0) (h:H):Prop:=
 Kr (-1) h
abbrev bS (Kn Ke0:T2) (Kr:T0):T3->T3:=fun K2 x0 x1 x5 h=>ae x0 fun a1=>zS h (a1.add 1) fun ma lx oM=>aO (x5<(lx:Int)) (ae x0 fun a3=>zS h (a3.add 1) fun mB mC sB=>(0<=x5/\x5<(mC:Int))/\(ae mB fun a5=>zI .i64 h ((a5.add (Int.toNat x5*4)).add 0) fun i6=>aO (i6=x1) (Kr x5 h) (bc .i64 (x5+(1:Int))/\(K2 x0 x1 (x5+(1:Int)) h)))) (Ke0 h)
abbrev cR (Kn Ke0:T2) (Kr:T0):Nat->T3:=LP L3 (bS Kn Ke0 Kr)
abbrev n4 (x0:OA) (x1:Int) (Kn:T2) (Kr:T0) (h:H):Prop:=
 aB L3 (fun K3=>K3 x0 x1 0 h) fun x0 x1 x5 h=>il L3 (bS Kn Kn Kr) fun K2=>K2 x0 x1 x5 h
abbrev n2 (Kn Kr:T0) (h:H):Prop:=
 aB L2 (fun K1=>n4 x0 x1 K1 Kr h) fun h=>n3 Kn Kr h
abbrev n1 (x0:OA) (x1:Int) (Kn Kr:T0) (h:H):Prop:=
 aB L1 (fun K4=>K4 x0 x1 h) fun x0 x1 h=>n2 x0 x1 Kn Kr h
variable (K:KV) (h:H)
abbrev asks:Prop:=cF L0 (fun Kr=>n1 x0 x1 Kr Kr h) fun y4 h=>K (.int .i64 y4) h
theorem ok (q:asks x0 x1 K h):zC 208 [.pointer x0,.int .i64 x1] h K:=
 cl Tryz.func208 q (fun p q=>sq (l:=L1) p q fun p q=>sc (l:=L2) q (fun q=>sq (l:=L3) p q fun p q=>bl (b:=0) (lp p q fun p q=>lf p q)) fun p q=>lf p q) fun p q=>rt p q
end V1
namespace V2
abbrev L0:=[Zb 4]
abbrev L2:List Sl:=[]
abbrev L3:=[Zp 0,Z6 1,Z6 5]
abbrev L6:=[Zp 0,Z6 1,Z6 5,Za 6,Zb 8]
abbrev L5:=[Zp 0,Z6 1,Z6 5,Za 6,Zl 7]
abbrev L4:=[Zp 0,Z6 1,Z6 5,Za 6]
abbrev L1:=[Zp 0,Z6 1]
abbrev T0:=TK L0
abbrev T3:=TK L3
abbrev T2:=TK L2
variable (x0:OA) (x1 x5:Int) (x6:Addr) (we:OA) (uo Cg:Nat) (x8:Bool)
abbrev n3 (Kn Kr:T0) (h:H):Prop:=
 Kr true h
abbrev n9 (Kn:T3) (Ke0:T2) (Kr:T0) (h:H):Prop:=
 bc .i64 (x5 - (1:Int))/\(Kn x0 x1 (x5 - (1:Int)) h)
abbrev Ju (Kn Ke1:T3) (Ke0:T2) (Kr:T0) (h:H):Prop:=
 cond x8 (zI .u8 h (x6.add 1) fun i1=>aO (i1=(0:Int)) (zT h (x6.add 2) fun s2=>aO (s2=[112]) (Kn x0 x1 x5 h) (Kr false h)) (Kr false h)) (Kn x0 x1 x5 h)
abbrev JR (x0:OA) (x1 x5:Int) (x6:Addr) (we:OA) (uo Cg:Nat) (Kn Ke1:T3) (Ke0:T2) (Kr:T0) (h:H):Prop:=
 aB L6 (fun K4=>(0<=(0:Int)/\0<(uo:Int))/\(ae we fun a3=>zI .i64 h (((a3.add (Int.toNat (0:Int)*4))).add 0) fun i4=>zI .u8 h (((a3.add (Int.toNat (0:Int)*4))).add 1) fun i5=>zT h (((a3.add (Int.toNat (0:Int)*4))).add 2) fun s6=>zI .u8 h (((a3.add (Int.toNat (0:Int)*4))).add 3) fun i7=>aw h #[.int .i64 0,.int .u8 0,S [112],.int .u8 0,.int .i64 i4,.int .u8 i5,S s6,.int .u8 i7] 77 fun a8 h9=>aw h9 #[S [112]] 9 fun jJ eF=>zC 168 [.slice (some a8) 2 2,.int .u8 0,.slice (some jJ) 1 1] eF fun v12 fi=>au v12 fun b14=>cond b14 (K4 x0 x1 x5 x6 false fi) (K4 x0 x1 x5 x6 true fi))) fun x0 x1 x5 x6 x8 h=>Ju x0 x1 x5 x6 x8 Kn Ke1 Ke0 Kr h
abbrev uy (x0:OA) (x1 x5:Int) (x6:Addr) (Kn Ke1:T3) (Ke0:T2) (Kr:T0) (h:H):Prop:=
 aB L5 (fun K5=>ae x0 fun pV=>zS h (pV.add 1) fun gQ gR gS=>bc .i64 (x5+(1:Int))/\((0<=x5/\x5<=(x5+(1:Int))/\(x5+(1:Int))<=(gS:Int))/\(K5 x0 x1 x5 x6 (if gS=Int.toNat x5 then gQ else Option.map (fun q=>q.add (Int.toNat x5*4)) gQ) (Int.toNat (x5+(1:Int)) - Int.toNat x5) (gS - Int.toNat x5) h))) fun x0 x1 x5 x6 we uo Cg h=>JR x0 x1 x5 x6 we uo Cg Kn Ke1 Ke0 Kr h
abbrev Ao (x0:OA) (x1 x5:Int) (Kn Ke1:T3) (Ke0:T2) (Kr:T0) (h:H):Prop:=
 aB L4 (fun K6=>ae x0 fun oO=>zS h (oO.add 1) fun gL fA fW=>(0<=x5/\x5<(fA:Int))/\(ae gL fun jK=>zI .i64 h (((jK.add (Int.toNat x5*4))).add 0) fun i20=>zI .u8 h (((jK.add (Int.toNat x5*4))).add 1) fun i21=>zT h (((jK.add (Int.toNat x5*4))).add 2) fun Zx=>zI .u8 h (((jK.add (Int.toNat x5*4))).add 3) fun i23=>aw h ⟨[.int .i64 0,.int .u8 0,S [],.int .u8 0]⟩ 77 fun a24 iG=>aZ a24 [.int .i64 i20,.int .u8 i21,S Zx,.int .u8 i23] 0 iG fun oC=>K6 x0 x1 x5 a24 oC)) fun x0 x1 x5 x6 h=>uy x0 x1 x5 x6 Kn Ke1 Ke0 Kr h
abbrev n8 (x0:OA) (x1 x5:Int) (Kn:T3) (Ke0:T2) (Kr:T0) (h:H):Prop:=
 aB L3 (fun K3=>Ao x0 x1 x5 K3 K3 Ke0 Kr h) fun x0 x1 x5 h=>n9 x0 x1 x5 Kn Ke0 Kr h
abbrev n7 (x0:OA) (x1 x5:Int) (Kn:T3) (Ke0:T2) (Kr:T0) (h:H):Prop:=
 aB L3 (fun K7=>aO (x5>x1) (K7 x0 x1 x5 h) (Ke0 h)) fun x0 x1 x5 h=>n8 x0 x1 x5 Kn Ke0 Kr h
abbrev bS (Kn Ke0:T2) (Kr:T0):T3->T3:=fun K2 x0 x1 x5 h=>n7 x0 x1 x5 K2 Ke0 Kr h
abbrev cR (Kn Ke0:T2) (Kr:T0):Nat->T3:=LP L3 (bS Kn Ke0 Kr)
abbrev n4 (x0:OA) (x1:Int) (Kn:T2) (Kr:T0) (h:H):Prop:=
 aB L3 (fun K8=>ae x0 fun zU=>zS h (zU.add 1) fun Nd BQ QD=>bc .i64 ((BQ:Int) - 1)/\(K8 x0 x1 ((BQ:Int) - 1) h)) fun x0 x1 x5 h=>il L3 (bS Kn Kn Kr) fun K2=>K2 x0 x1 x5 h
abbrev n2 (Kn Kr:T0) (h:H):Prop:=
 aB L2 (fun K1=>n4 x0 x1 K1 Kr h) fun h=>n3 Kn Kr h
abbrev n1 (x0:OA) (x1:Int) (Kn Kr:T0) (h:H):Prop:=
 aB L1 (fun K9=>K9 x0 x1 h) fun x0 x1 h=>n2 x0 x1 Kn Kr h
variable (K:KV) (h:H)
abbrev asks:Prop:=cF L0 (fun Kr=>n1 x0 x1 Kr Kr h) fun y4 h=>K (.bool y4) h
theorem ok (q:asks x0 x1 K h):zC 210 [.pointer x0,.int .i64 x1] h K:=
 cl Tryz.func210 q (fun p q=>sq (l:=L1) p q fun p q=>sc (l:=L2) q (fun q=>sq (l:=L3) p q fun p q=>bl (b:=0) (lp p q fun p q=>sq (l:=L3) p q fun p q=>sc (l:=L3) q (fun q=>bl (b:=1) (sq (l:=L4) p q fun p q=>sq (l:=L5) p q fun p q=>sq (l:=L6) p q fun p q=>lf p q)) fun p q=>lf p q)) fun p q=>lf p q) fun p q=>rt p q
end V2
namespace Xe2
abbrev L0:=[Zl 4]
abbrev T0:=TK L0
variable (ao:OA) (aj aq:Nat) (x1:Int)
abbrev n1 (Kn Kr:T0) (h:H):Prop:=
 (0<=(0:Int)/\0<=x1/\x1<=(aq:Int))/\(bf Tryz.prog (Builtin.append_ #[40,40] 40 ⟨[.slice none 0 0,(.slice (if aq=Int.toNat 0 then ao else Option.map (fun q=>q.add (Int.toNat (0:Int)*3)) ao) (Int.toNat x1 - Int.toNat 0) (aq - Int.toNat 0))]⟩) h fun v1 h2=>aA v1 fun wg r8 u6=>bc .i64 (x1+(1:Int))/\((0<=(x1+(1:Int))/\(x1+(1:Int))<=(aj:Int)/\(aj:Int)<=(aq:Int))/\(bf Tryz.prog (Builtin.append_ #[40,40] 40 ⟨[.slice wg r8 u6,(.slice (if aq=Int.toNat (x1+(1:Int)) then ao else Option.map (fun q=>q.add (Int.toNat (x1+(1:Int))*3)) ao) (Int.toNat (aj:Int) - Int.toNat (x1+(1:Int))) (aq - Int.toNat (x1+(1:Int))))]⟩) h2 fun v4 h5=>aA v4 fun jH gn lj=>Kr jH gn lj h5)))
variable (K:KV) (h:H)
abbrev asks:Prop:=cF L0 (fun Kr=>n1 ao aj aq x1 Kr Kr h) fun fJ fK fL h=>K (.slice fJ fK fL) h
theorem ok (q:asks ao aj aq x1 K h):zC 209 [.slice ao aj aq,.int .i64 x1] h K:=
 cl Tryz.func209 q (fun p q=>lf p q) fun p q=>rt p q
end Xe2
namespace Xey
abbrev L0:List Sl:=[]
abbrev T0:=TK L0
variable (x0:OA) (x1 nT nU:Int) (BX:List UInt8) (nV:Int)
abbrev n1 (Kn Kr:T0) (h:H):Prop:=
 aw h ⟨[.int .i64 nT,.int .u8 nU,S BX,.int .u8 nV]⟩ 77 fun a1 h2=>ae x0 fun a3=>zS h2 (a3.add 1) fun mB mC sB=>bc .i64 (x1+(1:Int))/\((0<=(0:Int)/\0<=(x1+(1:Int))/\(x1+(1:Int))<=(sB:Int))/\(bf Tryz.prog (Builtin.append_ #[39,39] 39 ⟨[.slice none 0 0,(.slice (if sB=Int.toNat 0 then mB else Option.map (fun q=>q.add (Int.toNat (0:Int)*4)) mB) (Int.toNat (x1+(1:Int)) - Int.toNat 0) (sB - Int.toNat 0))]⟩) h2 fun v5 h6=>aA v5 fun yT zY yu=>zI .i64 h6 (a1.add 0) fun i8=>zI .u8 h6 (a1.add 1) fun i9=>zT h6 (a1.add 2) fun pv=>zI .u8 h6 (a1.add 3) fun i11=>aw h6 #[.int .i64 i8,.int .u8 i9,S pv,.int .u8 i11] 77 fun a12 fi=>bf Tryz.prog (Builtin.append_ #[39,39] 39 ⟨[.slice yT zY yu,.slice (some a12) 1 1]⟩) fi fun oU fZ=>aA oU fun gQ gR gS=>ae x0 fun oO=>zS fZ (oO.add 1) fun gL fA fW=>bc .i64 (x1+(1:Int))/\((0<=(x1+(1:Int))/\(x1+(1:Int))<=(fA:Int)/\(fA:Int)<=(fW:Int))/\(bf Tryz.prog (Builtin.append_ #[39,39] 39 ⟨[.slice gQ gR gS,(.slice (if fW=Int.toNat (x1+(1:Int)) then gL else Option.map (fun q=>q.add (Int.toNat (x1+(1:Int))*4)) gL) (Int.toNat (fA:Int) - Int.toNat (x1+(1:Int))) (fW - Int.toNat (x1+(1:Int))))]⟩) fZ fun xA gx=>aA xA fun xE vD xF=>ae x0 fun a22=>aZ (a22.add 1) [.slice xE vD xF] 0 gx fun qD=>Kn qD))))
variable (K:KV) (h:H)
abbrev asks:Prop:=cF L0 (fun Kr=>n1 x0 x1 nT nU BX nV Kr Kr h) fun h=>K (.tuple ⟨[]⟩) h
theorem ok (q:asks x0 x1 nT nU BX nV K h):zC 231 [.pointer x0,.int .i64 x1,(.agg ⟨[.int .i64 nT,.int .u8 nU,S BX,.int .u8 nV]⟩)] h K:=
 cl Tryz.func231 q (fun p q=>lf p q) fun p q=>rt p q
end Xey
namespace vP
abbrev L0:=[Zb 4]
abbrev L3:List Sl:=[]
abbrev L4:=[Zp 0,Zs 1,Z6 6]
abbrev L9:=[Zp 0,Zs 1,Z6 6,Z6 7,Z6 8,Z6 9,Z6 11]
abbrev yv:=[Zp 0,Zs 1,Z6 6,Z6 8,Z6 9,Z6 11]
abbrev En:=[Zp 0,Zs 1,Z6 6,Z6 7,Z6 8,Z6 9,Z6 11,Zb 111]
abbrev Ci:=[Zp 0,Zs 1,Z6 6,Z6 7,Z6 8,Z6 9,Z6 11,Z6 12]
abbrev L7:=[Zp 0,Zs 1,Z6 6,Z6 7,Z6 8,Z6 9]
abbrev L8:=[Zp 0,Zs 1,Z6 6,Z6 7,Z6 8,Z6 9,Zb 10]
abbrev L6:=[Zp 0,Zs 1,Z6 6,Z6 7,Z6 8]
abbrev L5:=[Zp 0,Zs 1,Z6 6,Z6 7]
abbrev L1:=[Zp 0,Zs 1]
abbrev Ak:=[Zp 0,Zs 1,Zb 33]
abbrev L2:=[Zp 0,Zs 1,Za 5]
abbrev T0:=TK L0
abbrev T3:=TK L3
abbrev T4:=TK L4
abbrev T9:=TK L9
abbrev RM:=TK yv
abbrev Xr:=TK Ci
abbrev T1:=TK L1
variable (x0:OA) (x1:List UInt8) (x5:Addr) (x6 x7 x8 x9:Int) (bD:Bool) (cg:Int) (Qk Wk:Bool)
abbrev n5 (Kn Kr:T0) (h:H):Prop:=
 Kr true h
abbrev Ao (Kn:T4) (Ke0:T3) (Kr:T0) (h:H):Prop:=
 bc .i64 (x6+(1:Int))/\(Kn x0 x1 (x6+(1:Int)) h)
abbrev n23 (Kn Ke1:T4) (Ke0:T3) (Kr:T0) (h:H):Prop:=
 ae x0 fun a1=>zS h (a1.add 1) fun ma lx oM=>bc .i64 (x9 - (1:Int))/\((0<=(x9 - (1:Int))/\(x9 - (1:Int))<(lx:Int))/\(ae ma fun a3=>zI .i64 h (((a3.add (Int.toNat (x9 - (1:Int))*4))).add 0) fun i4=>zI .u8 h (((a3.add (Int.toNat (x9 - (1:Int))*4))).add 1) fun i5=>zT h (((a3.add (Int.toNat (x9 - (1:Int))*4))).add 2) fun s6=>zI .u8 h (((a3.add (Int.toNat (x9 - (1:Int))*4))).add 3) fun i7=>ae x0 fun a8=>zS h (a8.add 1) fun wa uX yV=>(0<=cg/\cg<(uX:Int))/\(ae wa fun jJ=>zI .i64 h (((jJ.add (Int.toNat cg*4))).add 0) fun i11=>zI .u8 h (((jJ.add (Int.toNat cg*4))).add 1) fun i12=>zT h (((jJ.add (Int.toNat cg*4))).add 2) fun Rn=>zI .u8 h (((jJ.add (Int.toNat cg*4))).add 3) fun i14=>zC 211 [.pointer x0,.int .i64 x8,(.agg ⟨[.int .i64 i4,.int .u8 i5,S s6,.int .u8 i7]⟩),(.agg ⟨[.int .i64 i11,.int .u8 i12,S Rn,.int .u8 i14]⟩)] h fun tN gX=>Kn x0 x1 x6 gX)))
abbrev n25 (Kn:RM) (Ke1:T4) (Ke0:T3) (Kr:T0) (h:H):Prop:=
 cond Wk (zC 61 [.pointer x0,.int .i64 x9] h fun EG gO=>ae x0 fun jK=>zS gO (jK.add 2) fun oR nS qH=>zC 209 [.slice oR nS qH,.int .i64 x7] gO fun v21 lN=>aA v21 fun vB te vC=>ae x0 fun a24=>aZ (a24.add 2) [.slice vB te vC] 0 lN fun iG=>Kr true iG) (Kn x0 x1 x6 x8 x9 cg h)
abbrev n24 (x0:OA) (x1:List UInt8) (x6 x7 x8 x9 cg:Int) (Kn:RM) (Ke1:T4) (Ke0:T3) (Kr:T0) (h:H):Prop:=
 aB En (fun K5=>aO (cg<(0:Int)) (K5 x0 x1 x6 x7 x8 x9 cg true h) (K5 x0 x1 x6 x7 x8 x9 cg false h)) fun x0 x1 x6 x7 x8 x9 cg Wk h=>n25 x0 x1 x6 x7 x8 x9 cg Wk Kn Ke1 Ke0 Kr h
abbrev n22 (x0:OA) (x1:List UInt8) (x6 x7 x8 x9 cg:Int) (Kn Ke1:T4) (Ke0:T3) (Kr:T0) (h:H):Prop:=
 aB yv (fun K4=>n24 x0 x1 x6 x7 x8 x9 cg K4 Ke1 Ke0 Kr h) fun x0 x1 x6 x8 x9 cg h=>n23 x0 x1 x6 x8 x9 cg Kn Ke1 Ke0 Kr h
abbrev GR (Kn qI:T9) (Ke1:T4) (Ke0:T3) (Kr:T0):Xr->Xr:=fun K7 x0 x1 x6 x7 x8 x9 cg ia h=>aO (ia>x9) (ae x0 fun a26=>zS h (a26.add 1) fun Gt Gu Nc=>(0<=ia/\ia<(Gu:Int))/\(ae Gt fun a28=>zI .u8 h ((a28.add (Int.toNat ia*4)).add 1) fun i29=>ae x0 fun ET=>zS h (ET.add 1) fun xB BE yS=>(0<=ia/\ia<(BE:Int))/\(ae xB fun tH=>zT h ((tH.add (Int.toNat ia*4)).add 2) fun s33=>zC 177 [.int .u8 i29,S s33] h fun zt qz=>au zt fun b36=>cond b36 (bc .i64 (ia - (1:Int))/\(K7 x0 x1 x6 x7 x8 x9 ia (ia - (1:Int)) qz)) (bc .i64 (ia - (1:Int))/\(K7 x0 x1 x6 x7 x8 x9 cg (ia - (1:Int)) qz))))) (qI x0 x1 x6 x7 x8 x9 cg h)
abbrev Ki (Kn qI:T9) (Ke1:T4) (Ke0:T3) (Kr:T0):Nat->Xr:=LP Ci (GR Kn qI Ke1 Ke0 Kr)
abbrev n26 (x0:OA) (x1:List UInt8) (x6 x7 x8 x9 cg:Int) (Kn:T9) (Ke1:T4) (Ke0:T3) (Kr:T0) (h:H):Prop:=
 aB Ci (fun K8=>ae x0 fun a37=>zS h (a37.add 1) fun I8 BF Mu=>bc .i64 ((BF:Int) - 1)/\(K8 x0 x1 x6 x7 x8 x9 cg ((BF:Int) - 1) h)) fun x0 x1 x6 x7 x8 x9 cg ia h=>il Ci (GR Kn Kn Ke1 Ke0 Kr) fun K7=>K7 x0 x1 x6 x7 x8 x9 cg ia h
abbrev n21 (x0:OA) (x1:List UInt8) (x6 x7 x8 x9 cg:Int) (Kn Ke1:T4) (Ke0:T3) (Kr:T0) (h:H):Prop:=
 aB L9 (fun K6=>n26 x0 x1 x6 x7 x8 x9 cg K6 Ke1 Ke0 Kr h) fun x0 x1 x6 x7 x8 x9 cg h=>n22 x0 x1 x6 x7 x8 x9 cg Kn Ke1 Ke0 Kr h
abbrev n20 (x0:OA) (x1:List UInt8) (x6 x7 x8 x9:Int) (Kn Ke1:T4) (Ke0:T3) (Kr:T0) (h:H):Prop:=
 aB L9 (fun K9=>K9 x0 x1 x6 x7 x8 x9 (-1) h) fun x0 x1 x6 x7 x8 x9 cg h=>n21 x0 x1 x6 x7 x8 x9 cg Kn Ke1 Ke0 Kr h
abbrev n19 (x0:OA) (x1:List UInt8) (x6 x7 x8 x9:Int) (bD:Bool) (Kn Ke1:T4) (Ke0:T3) (Kr:T0) (h:H):Prop:=
 aB L7 (fun ng=>cond bD (ng x0 x1 x6 x7 x8 x9 h) (Kr true h)) fun x0 x1 x6 x7 x8 x9 h=>n20 x0 x1 x6 x7 x8 x9 Kn Ke1 Ke0 Kr h
abbrev n18 (x0:OA) (x1:List UInt8) (x6 x7 x8 x9:Int) (Kn Ke1:T4) (Ke0:T3) (Kr:T0) (h:H):Prop:=
 aB L8 (fun rZ=>zC 210 [.pointer x0,.int .i64 x9] h fun P9 DV=>au P9 fun ZA=>cond ZA (rZ x0 x1 x6 x7 x8 x9 true DV) (rZ x0 x1 x6 x7 x8 x9 false DV)) fun x0 x1 x6 x7 x8 x9 bD h=>n19 x0 x1 x6 x7 x8 x9 bD Kn Ke1 Ke0 Kr h
abbrev n17 (x0:OA) (x1:List UInt8) (x6 x7 x8 x9:Int) (Kn Ke1:T4) (Ke0:T3) (Kr:T0) (h:H):Prop:=
 aB L7 (fun BU=>aO (x9<(0:Int)) (ae x0 fun VU=>zS h (VU.add 2) fun QK NF VV=>zC 209 [.slice QK NF VV,.int .i64 x7] h fun Mr Ex=>aA Mr fun ais ait aiu=>ae x0 fun a47=>aZ (a47.add 2) [.slice ais ait aiu] 0 Ex fun DS=>Kr true DS) (BU x0 x1 x6 x7 x8 x9 h)) fun x0 x1 x6 x7 x8 x9 h=>n18 x0 x1 x6 x7 x8 x9 Kn Ke1 Ke0 Kr h
abbrev n16 (x0:OA) (x1:List UInt8) (x6 x7 x8:Int) (Kn Ke1:T4) (Ke0:T3) (Kr:T0) (h:H):Prop:=
 aB L7 (fun za=>zC 208 [.pointer x0,.int .i64 x8] h fun v49 Yk=>aL .i64 v49 fun i51=>za x0 x1 x6 x7 x8 i51 Yk) fun x0 x1 x6 x7 x8 x9 h=>n17 x0 x1 x6 x7 x8 x9 Kn Ke1 Ke0 Kr h
abbrev n15 (x0:OA) (x1:List UInt8) (x6 x7:Int) (Kn Ke1:T4) (Ke0:T3) (Kr:T0) (h:H):Prop:=
 aB L6 (fun Ah=>ae x0 fun a52=>zS h (a52.add 2) fun Wa Wc ahv=>(0<=x7/\x7<(Wc:Int))/\(ae Wa fun SG=>zI .i64 h ((SG.add (Int.toNat x7*3)).add 0) fun i55=>Ah x0 x1 x6 x7 i55 h)) fun x0 x1 x6 x7 x8 h=>n16 x0 x1 x6 x7 x8 Kn Ke1 Ke0 Kr h
abbrev Ju (x0:OA) (x1:List UInt8) (x6 x7:Int) (Kn Ke1:T4) (Ke0:T3) (Kr:T0) (h:H):Prop:=
 aB L5 (fun EE=>aO (x7<(0:Int)) (Kr false h) (EE x0 x1 x6 x7 h)) fun x0 x1 x6 x7 h=>n15 x0 x1 x6 x7 Kn Ke1 Ke0 Kr h
abbrev JR (x0:OA) (x1:List UInt8) (x6:Int) (Kn Ke1:T4) (Ke0:T3) (Kr:T0) (h:H):Prop:=
 aB L5 (fun Ol=>ae x0 fun a56=>zS h (a56.add 2) fun NM NN NO=>zC 170 [.slice NM NN NO,S x1] h fun v58 h59=>aL .i64 v58 fun i60=>Ol x0 x1 x6 i60 h59) fun x0 x1 x6 x7 h=>Ju x0 x1 x6 x7 Kn Ke1 Ke0 Kr h
abbrev sg (x0:OA) (x1:List UInt8) (x6:Int) (Kn:T4) (Ke0:T3) (Kr:T0) (h:H):Prop:=
 aB L4 (fun K3=>JR x0 x1 x6 K3 K3 Ke0 Kr h) fun x0 x1 x6 h=>Ao x0 x1 x6 Kn Ke0 Kr h
abbrev n9 (x0:OA) (x1:List UInt8) (x6:Int) (Kn:T4) (Ke0:T3) (Kr:T0) (h:H):Prop:=
 aB L4 (fun Wl=>aO (x6<(8:Int)) (Wl x0 x1 x6 h) (Ke0 h)) fun x0 x1 x6 h=>sg x0 x1 x6 Kn Ke0 Kr h
abbrev ix (Kn Ke0:T3) (Kr:T0):T4->T4:=fun K2 x0 x1 x6 h=>n9 x0 x1 x6 K2 Ke0 Kr h
abbrev gJ (Kn Ke0:T3) (Kr:T0):Nat->T4:=LP L4 (ix Kn Ke0 Kr)
abbrev n6 (x0:OA) (x1:List UInt8) (Kn:T3) (Kr:T0) (h:H):Prop:=
 aB L4 (fun Om=>Om x0 x1 0 h) fun x0 x1 x6 h=>il L4 (ix Kn Kn Kr) fun K2=>K2 x0 x1 x6 h
abbrev n4 (Kn Kr:T0) (h:H):Prop:=
 aB L3 (fun K1=>n6 x0 x1 K1 Kr h) fun h=>n5 Kn Kr h
abbrev n30 (Kn:T1) (Kr:T0) (h:H):Prop:=
 cond Qk (ae x0 fun Qb=>zS h (Qb.add 1) fun V5 Jq QV=>bc .i64 ((Jq:Int) - 1)/\(zC 61 [.pointer x0,.int .i64 ((Jq:Int) - 1)] h fun v63 h64=>Kr true h64)) (Kn x0 x1 h)
abbrev n29 (x0:OA) (x1:List UInt8) (x5:Addr) (Kn:T1) (Kr:T0) (h:H):Prop:=
 aB Ak (fun Q2=>zI .u8 h (x5.add 1) fun i65=>aO (i65=(0:Int)) (zT h (x5.add 2) fun s66=>aO (s66=x1) (ae x0 fun a67=>zS h (a67.add 2) fun aiw aix aiy=>zI .i64 h (x5.add 0) fun i69=>zC 171 [.slice aiw aix aiy,.int .i64 i69] h fun v70 Xs=>aL .i64 v70 fun i72=>aO (i72<(0:Int)) (Q2 x0 x1 true Xs) (Q2 x0 x1 false Xs)) (Q2 x0 x1 false h)) (Q2 x0 x1 false h)) fun x0 x1 Qk h=>n30 x0 x1 Qk Kn Kr h
abbrev n3 (x0:OA) (x1:List UInt8) (x5:Addr) (Kn Kr:T0) (h:H):Prop:=
 aB L1 (fun Wm=>n29 x0 x1 x5 Wm Kr h) fun x0 x1 h=>n4 x0 x1 Kn Kr h
abbrev n2 (x0:OA) (x1:List UInt8) (Kn Kr:T0) (h:H):Prop:=
 aB L2 (fun K21=>zC 59 [.pointer x0] h fun WX SF=>lv WX fun l75=>aH l75 fun e76 l77=>aL .i64 e76 fun i78=>aH l77 fun e79 l80=>aL .u8 e79 fun i81=>aH l80 fun e82 l83=>gU e82 fun s84=>aH l83 fun e85 l86=>aL .u8 e85 fun i87=>dc l86 (aw SF ⟨[.int .i64 0,.int .u8 0,S [],.int .u8 0]⟩ 77 fun a88 SH=>aZ a88 [.int .i64 i78,.int .u8 i81,S s84,.int .u8 i87] 0 SH fun OO=>K21 x0 x1 a88 OO)) fun x0 x1 x5 h=>n3 x0 x1 x5 Kn Kr h
abbrev n1 (x0:OA) (x1:List UInt8) (Kn Kr:T0) (h:H):Prop:=
 aB L1 (fun K22=>K22 x0 x1 h) fun x0 x1 h=>n2 x0 x1 Kn Kr h
variable (K:KV) (h:H)
abbrev asks:Prop:=cF L0 (fun Kr=>n1 x0 x1 Kr Kr h) fun y4 h=>K (.bool y4) h
theorem ok (q:asks x0 x1 K h):zC 175 [.pointer x0,S x1] h K:=
 cl Tryz.func175 q (fun p q=>sq (l:=L1) p q fun p q=>sq (l:=L2) p q fun p q=>sc (l:=L1) q (fun q=>sq (l:=Ak) p q fun p q=>lf p q) fun p q=>sc (l:=L3) q (fun q=>sq (l:=L4) p q fun p q=>bl (b:=0) (lp p q fun p q=>sq (l:=L4) p q fun p q=>sc (l:=L4) q (fun q=>bl (b:=1) (sq (l:=L5) p q fun p q=>sq (l:=L5) p q fun p q=>sq (l:=L6) p q fun p q=>sq (l:=L7) p q fun p q=>sq (l:=L7) p q fun p q=>sq (l:=L8) p q fun p q=>sq (l:=L7) p q fun p q=>sq (l:=L9) p q fun p q=>sc (l:=L9) q (fun q=>sq (l:=Ci) p q fun p q=>bl (b:=2) (lp p q fun p q=>lf p q)) fun p q=>sc (l:=yv) q (fun q=>sq (l:=En) p q fun p q=>lf p q) fun p q=>lf p q)) fun p q=>lf p q)) fun p q=>lf p q) fun p q=>rt p q
end vP
end Go.Proofs
