/- Own text. No condition. -/
import Derived.Test.YtijoifkjeamonaaGreatHc
import Derived.Test.YtijoifkjeamonaaGreatShR
import Derived.Test.YtijoifkjeamonaaGreatProg
namespace Go.Proofs
open Go Go.Sh
set_option linter.unusedVariables false
set_option maxRecDepth 100000
namespace Xek
abbrev L0:=[Zp 0]
variable (K:KV) (h:H)
abbrev asks:Prop:=cF L0 (fun Kr=>zC 52 [] h fun v1 h2=>kt v1 fun p3=>aw h2 #[.int .i64 0,.int .u8 0,S [104,116,109,108],.int .u8 0] 77 fun a4 h5=>aw h5 ⟨[.pointer p3,.slice (some a4) 1 1,.slice none 0 0,.bool false,.int .i64 1]⟩ 58 fun a6 h7=>Kr (some a6) h7) fun y0 h=>K (.pointer y0) h
theorem ok (q:asks K h):zC 34 [] h K:=
 cl Tryz.func34 q (fun p q=>lf p q) fun p q=>rt p q
end Xek
namespace Xeo
abbrev L0:=[Z6 6]
abbrev L5:=[Zp 0,Z8 1,Za 5,Z6 9]
abbrev L4:=[Zp 0,Z8 1,Za 5,Z6 7,Z6 8,Z6 9]
abbrev L3:=[Zp 0,Z8 1,Za 5,Z6 7,Z6 8]
abbrev L2:=[Zp 0,Z8 1,Za 5]
abbrev T0:=TK L0
variable (x0:OA) (x1 nH:Int) (nI:List UInt8) (sX:OA) (sY sZ:Nat) (nJ:Bool) (BO:List UInt8) (x5:Addr) (x9:Int)
abbrev n5 (Kn Kr:T0) (h:H):Prop:=
 ae x0 fun a1=>zS h (a1.add 1) fun lN kW oy=>zT h (x5.add 1) fun s3=>zI .u8 h (x5.add 0) fun i4=>zT h (x5.add 1) fun s5=>zS h (x5.add 2) fun lO gV mM=>zB h (x5.add 3) fun b7=>zT h (x5.add 4) fun s8=>zC 163 [.int .u8 x1,(.agg ⟨[.int .u8 i4,S s5,.slice lO gV mM,.bool b7,S s8]⟩)] h fun v9 df=>aL .u8 v9 fun i11=>bG h df/\(aw df #[.int .i64 x9,.int .u8 x1,S s3,.int .u8 i11] 77 fun a12 fI=>bG df fI/\(aZ Tryz.prog (Builtin.append_ #[39,39] 39 ⟨[.slice lN kW oy,.slice (some a12) 1 1]⟩) fI fun qO gA=>aB qO fun hU hX hZ=>ae x0 fun nE=>bc (nE.add 1) [.slice hU hX hZ] 0 gA fun gI=>ae x0 fun jh=>zI .i64 gI (jh.add 4) fun i20=>ae x0 fun a21=>zS gI (a21.add 1) fun lP iE lQ=>ae x0 fun a23=>bc (a23.add 4) [.int .i64 (if(iE:Int)>i20 then(iE:Int) else i20)] 0 gI fun mC=>Kr x9 mC))
variable (K:KV) (h:H)
abbrev asks (x0:OA) (x1 nH:Int) (nI:List UInt8) (sX:OA) (sY sZ:Nat) (nJ:Bool) (BO:List UInt8) (K:KV) (h:H):Prop:=cF L0 (fun Kr=>aA L2 (fun K4=>aw h ⟨[.int .u8 nH,S nI,.slice sX sY sZ,.bool nJ,S BO]⟩ 45 fun Ql U6=>K4 x0 x1 Ql U6) fun x0 x1 x5 h=>aA L3 (fun K3=>zC 59 [.pointer x0] h fun v37 Cd=>kV v37 fun l39=>aG l39 fun e40 l41=>aL .i64 e40 fun i42=>aG l41 fun e43 l44=>aL .u8 e43 fun i45=>aG l44 fun e46 l47=>gL e46 fun s48=>aG l47 fun e49 l50=>aL .u8 e49 fun i51=>cW l50 (zC 58 [.pointer x0,(.agg ⟨[.int .i64 i42,.int .u8 i45,S s48,.int .u8 i51]⟩)] Cd fun Z5 Oq=>ni Z5 fun l54=>aG l54 fun e55 l56=>aL .i64 e55 fun i57=>aG l56 fun e58 l59=>aL .i64 e58 fun i60=>cW l59 (K3 x0 x1 x5 i57 i60 Oq))) fun x0 x1 x5 x7 x8 h=>aA L4 (fun K2=>ae x0 fun ES=>zP h (ES.add 0) fun U7=>zT h (x5.add 1) fun Z7=>zS h (x5.add 2) fun MD ME MF=>zC 105 [.pointer U7,(.agg ⟨[.int .u8 1,.int .u8 x1,S Z7,.slice MD ME MF,S [],.slice none 0 0]⟩)] h fun zw qi=>aL .i64 zw fun i36=>K2 x0 x1 x5 x7 x8 i36 qi) fun x0 x1 x5 x7 x8 x9 h=>aA L5 (fun K1=>ae x0 fun a25=>zP h (a25.add 0) fun Jb=>zC 104 [.pointer Jb,.int .i64 x7,.int .i64 x8,.int .i64 x9] h fun zY lY=>au zY fun Jc=>cond Jc (K1 x0 x1 x5 x9 lY) (K1 x0 x1 x5 x9 lY)) fun x0 x1 x5 x9 h=>n5 x0 x1 x5 x9 Kr Kr h) fun y6 h=>K (.int .i64 y6) h
theorem ok (q:asks x0 x1 nH nI sX sY sZ nJ BO K h):zC 103 [.pointer x0,.int .u8 x1,(.agg ⟨[.int .u8 nH,S nI,.slice sX sY sZ,.bool nJ,S BO]⟩)] h K:=
 cl Tryz.func103 q (fun p q=>sq (l:=L2) p q fun p q=>sq (l:=L3) p q fun p q=>sq (l:=L4) p q fun p q=>sq (l:=L5) p q fun p q=>lf p q) fun p q=>rt p q
end Xeo
namespace Xem
abbrev L0:=[Za 2]
variable (x0:OA)
variable (K:KV) (h:H)
abbrev asks:Prop:=cF L0 (fun Kr=>aw h ⟨[.int .i64 0,.int .u8 0,S [],.int .u8 0]⟩ 77 fun a1 h2=>ae x0 fun a3=>zS h2 (a3.add 1) fun oe oI uP=>ae x0 fun a5=>zS h2 (a5.add 1) fun lO gV mM=>bd .i64 ((gV:Int) - 1)/\((0<=((gV:Int) - 1)/\((gV:Int) - 1)<(oI:Int))/\(ae oe fun a7=>zI .i64 h2 (((a7.add (Int.toNat ((gV:Int) - 1)*4))).add 0) fun i8=>zI .u8 h2 (((a7.add (Int.toNat ((gV:Int) - 1)*4))).add 1) fun i9=>zT h2 (((a7.add (Int.toNat ((gV:Int) - 1)*4))).add 2) fun oY=>zI .u8 h2 (((a7.add (Int.toNat ((gV:Int) - 1)*4))).add 3) fun i11=>bc a1 [.int .i64 i8,.int .u8 i9,S oY,.int .u8 i11] 0 h2 fun eL=>Kr a1 eL))) fun y2 h=>zI .i64 h ((y2).add 0) fun i13=>zI .u8 h ((y2).add 1) fun i14=>zT h ((y2).add 2) fun Ex=>zI .u8 h ((y2).add 3) fun i16=>K (.agg ⟨[.int .i64 i13,.int .u8 i14,S Ex,.int .u8 i16]⟩) h
theorem ok (q:asks x0 K h):zC 59 [.pointer x0] h K:=
 cl Tryz.func59 q (fun p q=>lf p q) fun p q=>rt p q
end Xem
namespace Xes
abbrev L0:List Sl:=[]
variable (x0:OA) (x1:List UInt8)
variable (K:KV) (h:H)
abbrev asks:Prop:=cF L0 (fun Kr=>zC 59 [.pointer x0] h fun v1 h2=>kV v1 fun l3=>aG l3 fun e4 l5=>aL .i64 e4 fun i6=>aG l5 fun e7 l8=>aL .u8 e7 fun i9=>aG l8 fun Sv U8=>gL Sv fun jU=>aG U8 fun Og Qm=>aL .u8 Og fun i15=>cW Qm (zC 58 [.pointer x0,(.agg ⟨[.int .i64 i6,.int .u8 i9,S jU,.int .u8 i15]⟩)] h2 fun oD fh=>ni oD fun U9=>aG U9 fun Qn Qo=>aL .i64 Qn fun i21=>aG Qo fun Qp Qq=>aL .i64 Qp fun i24=>cW Qq (ae x0 fun a25=>zP fh (a25.add 0) fun Jb=>zC 60 [.pointer Jb,.int .i64 i21,.int .i64 i24,S x1] fh fun zY lY=>au zY fun Jc=>cond Jc (Kr lY) (Kr lY)))) fun h=>K (.tuple ⟨[]⟩) h
theorem ok (q:asks x0 x1 K h):zC 38 [.pointer x0,S x1] h K:=
 cl Tryz.func38 q (fun p q=>lf p q) fun p q=>rt p q
end Xes
namespace Xep
abbrev L0:List Sl:=[]
variable (x0:OA) (x1:List UInt8)
variable (K:KV) (h:H)
abbrev asks:Prop:=cF L0 (fun Kr=>zC 59 [.pointer x0] h fun v1 h2=>kV v1 fun l3=>aG l3 fun e4 l5=>aL .i64 e4 fun i6=>aG l5 fun e7 l8=>aL .u8 e7 fun i9=>aG l8 fun Sv U8=>gL Sv fun jU=>aG U8 fun Og Qm=>aL .u8 Og fun i15=>cW Qm (zC 58 [.pointer x0,(.agg ⟨[.int .i64 i6,.int .u8 i9,S jU,.int .u8 i15]⟩)] h2 fun oD fh=>ni oD fun U9=>aG U9 fun Qn Qo=>aL .i64 Qn fun i21=>aG Qo fun Qp Qq=>aL .i64 Qp fun i24=>cW Qq ((ae x0 fun a25=>ae x0 fun a26=>zP fh (a26.add 0) fun QT=>zC 105 [.pointer QT,(.agg ⟨[.int .u8 3,.int .u8 0,S [],.slice none 0 0,S x1,.slice none 0 0]⟩)] fh fun v28 uW=>aL .i64 v28 fun i30=>zP uW (a25.add 0) fun U7=>zC 104 [.pointer U7,.int .i64 i21,.int .i64 i24,.int .i64 i30] uW fun B0 lW=>au B0 fun US=>cond US (Kr lW) (Kr lW))/\(ae x0 fun NI=>zP fh (NI.add 0) fun p36=>ae x0 fun a37=>zP fh (a37.add 0) fun p38=>zC 105 [.pointer p38,(.agg ⟨[.int .u8 3,.int .u8 0,S [],.slice none 0 0,S x1,.slice none 0 0]⟩)] fh fun Qk DW=>aL .i64 Qk fun i41=>zC 104 [.pointer p36,.int .i64 i21,.int .i64 i24,.int .i64 i41] DW fun Su MA=>au Su fun b44=>cond b44 (Kr MA) (Kr MA))))) fun h=>K (.tuple ⟨[]⟩) h
theorem ok (q:asks x0 x1 K h):zC 45 [.pointer x0,S x1] h K:=
 cl Tryz.func45 q (fun p q=>lf p q) fun p q=>rt p q
end Xep
namespace Xel
abbrev L2:=[Zp 0,Z6 1,Zb 14]
abbrev L0:List Sl:=[]
variable (x0:OA) (x1:Int)
variable (K:KV) (h:H)
abbrev asks (x0:OA) (x1:Int) (K:KV) (h:H):Prop:=cF L0 (fun Kr=>aA L2 (fun K1=>aM (x1 ≥ 1) (ae x0 fun a5=>zS h (a5.add 1) fun lO gV mM=>aM (x1<(gV:Int)) (K1 x0 x1 true h) (K1 x0 x1 false h)) (K1 x0 x1 false h)) fun x0 x1 rU h=>cond rU (ae x0 fun a1=>zS h (a1.add 1) fun lN kW oy=>(0<=(0:Int)/\0<=x1/\x1<=(oy:Int))/\(ae x0 fun a3=>bc (a3.add 1) [(.slice (if oy=Int.toNat 0 then lN else Option.map (fun q=>q.add (Int.toNat (0:Int)*4)) lN) (Int.toNat x1 - Int.toNat 0) (oy - Int.toNat 0))] 0 h fun h4=>Kr h4)) (Kr h)) fun h=>K (.tuple ⟨[]⟩) h
theorem ok (q:asks x0 x1 K h):zC 61 [.pointer x0,.int .i64 x1] h K:=
 cl Tryz.func61 q (fun p q=>sq p q fun p q=>lf p q) fun p q=>rt p q
end Xel
namespace Xer
abbrev L5:=[Zp 0,Z6 7]
abbrev L4:=[Zp 0]
abbrev L0:=[Z6 4,Z6 5]
abbrev L3:=[Zp 0,Za 3,Zb 6]
abbrev L2:=[Zp 0,Za 3]
abbrev T0:=TK L0
variable (x0:OA) (dh di:Int) (ov:List UInt8) (nK:Int) (x3:Addr) (x6:Bool)
abbrev n3 (x0:OA) (x3:Addr) (x6:Bool) (Kn Kr:T0) (h:H):Prop:=
 aA L4 (fun K3=>ae x0 fun a25=>zB h (a25.add 3) fun UT=>cond UT (zI .u8 h (x3.add 1) fun i27=>aM (i27=(0:Int)) (cond x6 (K3 x0 h) (zI .i64 h (x3.add 0) fun i28=>Kr i28 (-1) h)) (zI .i64 h (x3.add 0) fun i29=>Kr i29 (-1) h)) (zI .i64 h (x3.add 0) fun i30=>Kr i30 (-1) h)) fun x0 h=>aA L5 (fun K2=>ae x0 fun sJ=>zS h (sJ.add 1) fun qw pw pz=>aw h #[S [116,97,98,108,101]] 9 fun a20 qt=>zC 132 [.slice qw pw pz,.slice (some a20) 1 1] qt fun v22 qu=>aL .i64 v22 fun i24=>K2 x0 i24 qu) fun x0 x7 h=>aA L5 (fun K1=>aM (x7<(0:Int)) (Kr 0 (-1) h) (K1 x0 x7 h)) fun x0 x7 h=>ae x0 fun a1=>zP h (a1.add 0) fun p2=>ae x0 fun a3=>zS h (a3.add 1) fun oe oI uP=>(0<=x7/\x7<(oI:Int))/\(ae oe fun a5=>zI .i64 h ((a5.add (Int.toNat x7*4)).add 0) fun i6=>zC 133 [.pointer p2,.int .i64 i6] h fun v7 h8=>aL .i64 v7 fun i9=>aM (i9 ≥ 0) (ae x0 fun jB=>zS h8 (jB.add 1) fun mN kZ lR=>(0<=x7/\x7<(kZ:Int))/\(ae mN fun a12=>zI .i64 h8 ((a12.add (Int.toNat x7*4)).add 0) fun i13=>Kr i9 i13 h8)) (ae x0 fun lE=>zS h8 (lE.add 1) fun kH kX oz=>bd .i64 (x7 - (1:Int))/\((0<=(if 0>(x7 - (1:Int)) then 0 else(x7 - (1:Int)))/\(if 0>(x7 - (1:Int)) then 0 else(x7 - (1:Int)))<(kX:Int))/\(ae kH fun pv=>zI .i64 h8 ((pv.add (Int.toNat (if 0>(x7 - (1:Int)) then 0 else(x7 - (1:Int)))*4)).add 0) fun i17=>Kr i17 (-1) h8))))
variable (K:KV) (h:H)
abbrev asks (x0:OA) (dh di:Int) (ov:List UInt8) (nK:Int) (K:KV) (h:H):Prop:=cF L0 (fun Kr=>aA L2 (fun K5=>aw h ⟨[.int .i64 dh,.int .u8 di,S ov,.int .u8 nK]⟩ 77 fun Gy lX=>K5 x0 Gy lX) fun x0 x3 h=>aA L3 (fun K4=>zT h (x3.add 2) fun s31=>aM (s31=[116,97,98,108,101]) (K4 x0 x3 true h) (zT h (x3.add 2) fun Z7=>aM (Z7=[116,98,111,100,121]) (K4 x0 x3 true h) (zT h (x3.add 2) fun s33=>aM (s33=[116,102,111,111,116]) (K4 x0 x3 true h) (zT h (x3.add 2) fun s34=>aM (s34=[116,104,101,97,100]) (K4 x0 x3 true h) (zT h (x3.add 2) fun s35=>aM (s35=[116,114]) (K4 x0 x3 true h) (K4 x0 x3 false h)))))) fun x0 x3 x6 h=>n3 x0 x3 x6 Kr Kr h) fun y4 y5 h=>K (.tuple ⟨[.int .i64 y4,.int .i64 y5]⟩) h
theorem ok (q:asks x0 dh di ov nK K h):zC 58 [.pointer x0,(.agg ⟨[.int .i64 dh,.int .u8 di,S ov,.int .u8 nK]⟩)] h K:=
 cl Tryz.func58 q (fun p q=>sq (l:=L2) p q fun p q=>sq (l:=L3) p q fun p q=>sq (l:=L4) p q fun p q=>sq (l:=L5) p q fun p q=>sq (l:=L5) p q fun p q=>lf p q) fun p q=>rt p q
end Xer
namespace Oz
abbrev L0:=[Z8 4]
abbrev L4:List Sl:=[]
abbrev yx:=[Za 3,Zs 5,Z6 6]
abbrev L9:=[Za 3,Zs 5]
abbrev L8:=[Za 3,Zs 5,Zb 23]
abbrev L6:=[Za 3,Zs 5,Z8 10,Zb 11]
abbrev L5:=[Za 3,Zs 5,Z8 10]
abbrev L3:=[Z8 0,Za 3,Zs 5]
abbrev L2:=[Z8 0,Za 3]
abbrev T0:=TK L0
abbrev T4:=TK L4
abbrev R6:=TK yx
variable (x0 dh:Int) (di:List UInt8) (eY:OA) (eZ fb:Nat) (nK:Bool) (ox:List UInt8)
abbrev n4 (Kn Kr:T0) (h:H):Prop:=
 Kr 0 h
abbrev Ei (Kn Ke1 Ke0:T4) (Kr:T0):R6->R6:=fun K2 x3 x5 x6 h=>zS h (x3.add 2) fun Z3 U1 s1c=>aM (x6<(U1:Int)) (aM (x5=[97,110,110,111,116,97,116,105,111,110,45,120,109,108]) (zS h (x3.add 2) fun lN kW oy=>(0<=x6/\x6<(kW:Int))/\(ae lN fun a3=>zT h ((a3.add (Int.toNat x6*2)).add 1) fun s4=>zC 204 [S s4] h fun v5 h6=>gL v5 fun s7=>zS h6 (x3.add 2) fun rT rJ vq=>(0<=x6/\x6<(rJ:Int))/\(ae rT fun a9=>zT h6 ((a9.add (Int.toNat x6*2)).add 0) fun oY=>aM (oY=[101,110,99,111,100,105,110,103]) (aM (s7=[116,101,120,116,47,104,116,109,108]) (Kr 2 h6) (aM (s7=[97,112,112,108,105,99,97,116,105,111,110,47,120,104,116,109,108,43,120,109,108]) (Kr 2 h6) (bd .i64 (x6+(1:Int))/\(K2 x3 x5 (x6+(1:Int)) h6)))) (bd .i64 (x6+(1:Int))/\(K2 x3 x5 (x6+(1:Int)) h6))))) (Ke1 h)) (Ke1 h)
abbrev G8 (Kn Ke1 Ke0:T4) (Kr:T0):Nat->R6:=LP yx (Ei Kn Ke1 Ke0 Kr)
variable (K:KV) (h:H)
abbrev asks (x0 dh:Int) (di:List UInt8) (eY:OA) (eZ fb:Nat) (nK:Bool) (ox:List UInt8) (K:KV) (h:H):Prop:=cF L0 (fun Kr=>aA L2 (fun K9=>aw h ⟨[.int .u8 dh,S di,.slice eY eZ fb,.bool nK,S ox]⟩ 45 fun a12 fI=>K9 x0 a12 fI) fun x0 x3 h=>aA L3 (fun K8=>zT h (x3.add 1) fun ve=>K8 x0 x3 ve h) fun x0 x3 x5 h=>aA L4 (fun K1=>aA L5 (fun K7=>K7 x3 x5 x0 h) fun x3 x5 bD h=>aA L6 (fun K6=>aM (bD=(1:Int)) (K6 x3 x5 bD true h) (K6 x3 x5 bD false h)) fun x3 x5 bD ck h=>cond ck (aM (x5=[100,101,115,99]) (Kr 2 h) (aM (x5=[102,111,114,101,105,103,110,79,98,106,101,99,116]) (Kr 2 h) (aM (x5=[116,105,116,108,101]) (Kr 2 h) (K1 h)))) (aA L8 (fun K5=>aM (bD=(2:Int)) (K5 x3 x5 true h) (K5 x3 x5 false h)) fun x3 x5 x23 h=>cond x23 (aA L9 (fun K4=>aM (x5=[109,105]) (Kr 1 h) (aM (x5=[109,110]) (Kr 1 h) (aM (x5=[109,111]) (Kr 1 h) (aM (x5=[109,115]) (Kr 1 h) (aM (x5=[109,116,101,120,116]) (Kr 1 h) (K4 x3 x5 h)))))) fun x3 x5 h=>aA yx (fun K3=>K3 x3 x5 0 h) fun x3 x5 x6 h=>iy yx (Ei K1 K1 K1 Kr) fun K2=>K2 x3 x5 x6 h) (K1 h))) fun h=>n4 Kr Kr h) fun y4 h=>K (.int .u8 y4) h
theorem ok (q:asks x0 dh di eY eZ fb nK ox K h):zC 163 [.int .u8 x0,(.agg ⟨[.int .u8 dh,S di,.slice eY eZ fb,.bool nK,S ox]⟩)] h K:=
 cl Tryz.func163 q (fun p q=>sq (l:=L2) p q fun p q=>sq (l:=L3) p q fun p q=>sc (l:=L4) q (fun q=>sq (l:=L5) p q fun p q=>bl (b:=0) (sq (l:=L6) p q fun p q=>cn (i:=11) p q (fun p q=>lf p q) fun p q=>sq (l:=L8) p q fun p q=>cn (i:=23) p q (fun p q=>sq (l:=L9) p q fun p q=>sq (l:=yx) p q fun p q=>bl (b:=1) (lp p q fun p q=>lf p q)) fun p q=>lf p q)) fun p q=>lf p q) fun p q=>rt p q
end Oz
namespace Xd9
abbrev L2:List Sl:=[]
abbrev L3:=[Zl 0,Zl 1,Z6 5]
abbrev L0:=[Z6 4]
abbrev L1:=[Zl 0,Zl 1]
abbrev T2:=TK L2
abbrev T0:=TK L0
abbrev T3:=TK L3
variable (ao:OA) (aj aq:Nat) (bM:OA) (bI bV:Nat)
abbrev bU (Kn Ke0:T2) (Kr:T0):T3->T3:=fun K2 ao aj aq bM bI bV x5 h=>aM (x5 ≥ 0) ((0<=x5/\x5<(aj:Int))/\(ae ao fun a1=>zI .i64 h (((a1.add (Int.toNat x5*4))).add 0) fun i2=>zI .u8 h (((a1.add (Int.toNat x5*4))).add 1) fun i3=>zT h (((a1.add (Int.toNat x5*4))).add 2) fun s4=>zI .u8 h (((a1.add (Int.toNat x5*4))).add 3) fun i5=>zC 181 [(.agg ⟨[.int .i64 i2,.int .u8 i3,S s4,.int .u8 i5]⟩),.slice bM bI bV] h fun v6 h7=>au v6 fun b8=>cond b8 (Kr x5 h7) (bd .i64 (x5 - (1:Int))/\(K2 ao aj aq bM bI bV (x5 - (1:Int)) h7)))) (Ke0 h)
abbrev cQ (Kn Ke0:T2) (Kr:T0):Nat->T3:=LP L3 (bU Kn Ke0 Kr)
variable (K:KV) (h:H)
abbrev asks (ao:OA) (aj aq:Nat) (bM:OA) (bI bV:Nat) (K:KV) (h:H):Prop:=cF L0 (fun Kr=>aA L1 (fun K4=>K4 ao aj aq bM bI bV h) fun ao aj aq bM bI bV h=>aA L2 (fun K1=>aA L3 (fun K3=>bd .i64 ((aj:Int) - 1)/\(K3 ao aj aq bM bI bV ((aj:Int) - 1) h)) fun ao aj aq bM bI bV x5 h=>iy L3 (bU K1 K1 Kr) fun K2=>K2 ao aj aq bM bI bV x5 h) fun h=>Kr (-1) h) fun y4 h=>K (.int .i64 y4) h
theorem ok (q:asks ao aj aq bM bI bV K h):zC 132 [.slice ao aj aq,.slice bM bI bV] h K:=
 cl Tryz.func132 q (fun p q=>sq (l:=L1) p q fun p q=>sc (l:=L2) q (fun q=>sq (l:=L3) p q fun p q=>bl (b:=0) (lp p q fun p q=>lf p q)) fun p q=>lf p q) fun p q=>rt p q
end Xd9
namespace Xec
abbrev L0:=[Zb 4]
variable (cE cG:Int) (eu:List UInt8) (eP:Int) (bM:OA) (bI bV:Nat)
variable (K:KV) (h:H)
abbrev asks:Prop:=cF L0 (fun Kr=>aw h ⟨[.int .i64 cE,.int .u8 cG,S eu,.int .u8 eP]⟩ 77 fun a1 h2=>zI .u8 h2 (a1.add 1) fun i3=>aM (i3=(0:Int)) (zT h2 (a1.add 2) fun s4=>zC 174 [.slice bM bI bV,S s4] h2 fun v5 h6=>au v5 fun b7=>cond b7 (Kr true h6) (Kr false h6)) (Kr false h2)) fun y4 h=>K (.bool y4) h
theorem ok (q:asks cE cG eu eP bM bI bV K h):zC 181 [(.agg ⟨[.int .i64 cE,.int .u8 cG,S eu,.int .u8 eP]⟩),.slice bM bI bV] h K:=
 cl Tryz.func181 q (fun p q=>lf p q) fun p q=>rt p q
end Xec
namespace Xeb
abbrev L2:List Sl:=[]
abbrev L3:=[Zl 0,Zs 1,Z6 5]
abbrev L0:=[Zb 4]
abbrev L1:=[Zl 0,Zs 1]
abbrev T2:=TK L2
abbrev T0:=TK L0
abbrev T3:=TK L3
variable (ao:OA) (aj aq:Nat) (x1:List UInt8)
abbrev bU (Kn Ke0:T2) (Kr:T0):T3->T3:=fun K2 ao aj aq x1 x5 h=>aM (x5<(aj:Int)) ((0<=x5/\x5<(aj:Int))/\(ae ao fun a1=>zT h (a1.add (Int.toNat x5*1)) fun s2=>aM (s2=x1) (Kr true h) (bd .i64 (x5+(1:Int))/\(K2 ao aj aq x1 (x5+(1:Int)) h)))) (Ke0 h)
abbrev cQ (Kn Ke0:T2) (Kr:T0):Nat->T3:=LP L3 (bU Kn Ke0 Kr)
variable (K:KV) (h:H)
abbrev asks (ao:OA) (aj aq:Nat) (x1:List UInt8) (K:KV) (h:H):Prop:=cF L0 (fun Kr=>aA L1 (fun K4=>K4 ao aj aq x1 h) fun ao aj aq x1 h=>aA L2 (fun K1=>aA L3 (fun K3=>K3 ao aj aq x1 0 h) fun ao aj aq x1 x5 h=>iy L3 (bU K1 K1 Kr) fun K2=>K2 ao aj aq x1 x5 h) fun h=>Kr false h) fun y4 h=>K (.bool y4) h
theorem ok (q:asks ao aj aq x1 K h):zC 174 [.slice ao aj aq,S x1] h K:=
 cl Tryz.func174 q (fun p q=>sq (l:=L1) p q fun p q=>sc (l:=L2) q (fun q=>sq (l:=L3) p q fun p q=>bl (b:=0) (lp p q fun p q=>lf p q)) fun p q=>lf p q) fun p q=>rt p q
end Xeb
namespace SN
abbrev L0:=[Zs 2]
abbrev L3:=[Zl 3]
abbrev L4:=[Zs 0,Zl 3,Z6 4]
abbrev L2:=[Zs 0,Zl 3]
abbrev L1:=[Zs 0]
abbrev T0:=TK L0
abbrev T3:=TK L3
abbrev T4:=TK L4
variable (x0:List UInt8) (ta:OA) (rV tD:Nat)
abbrev n4 (Kn Kr:T0) (h:H):Prop:=
 aZ Tryz.prog (convert 176 9 (.slice ta rV tD)) h fun v1 h2=>gL v1 fun s3=>Kr s3 h2
abbrev gR (Kn Ke0:T3) (Kr:T0):T4->T4:=fun K2 x0 ta rV tD x4 h=>aA L4 (fun K4=>aM (x4<(x0.length:Int)) (K4 x0 ta rV tD x4 h) (Ke0 ta rV tD h)) fun x0 ta rV tD x4 h=>aA L4 (fun K3=>(0<=x4/\x4<(x0.length:Int))/\(aM (((List.getD x0 (Int.toNat x4) 0).toNat:Int) ≥ 65) (aM (((List.getD x0 (Int.toNat x4) 0).toNat:Int)<=90) (aw h #[(.int .u8 (IntKind.wrap .u8 (((List.getD x0 (Int.toNat x4) 0).toNat:Int)+32)))] 5 fun a4 h5=>aZ Tryz.prog (Builtin.append_ #[176,176] 176 ⟨[.slice ta rV tD,.slice (some a4) 1 1]⟩) h5 fun v6 h7=>aB v6 fun rT rJ vq=>K3 x0 rT rJ vq x4 h7) (aw h #[(.int .u8 ((List.getD x0 (Int.toNat x4) 0).toNat:Int))] 5 fun a9 df=>aZ Tryz.prog (Builtin.append_ #[176,176] 176 ⟨[.slice ta rV tD,.slice (some a9) 1 1]⟩) df fun v11 eL=>aB v11 fun jK jv lg=>K3 x0 jK jv lg x4 eL)) (aw h #[(.int .u8 ((List.getD x0 (Int.toNat x4) 0).toNat:Int))] 5 fun lE gA=>aZ Tryz.prog (Builtin.append_ #[176,176] 176 ⟨[.slice ta rV tD,.slice (some lE) 1 1]⟩) gA fun oD fh=>aB oD fun gC fw fT=>K3 x0 gC fw fT x4 fh))) fun x0 ta rV tD x4 h=>bd .i64 (x4+(1:Int))/\(K2 x0 ta rV tD (x4+(1:Int)) h)
abbrev ia (Kn Ke0:T3) (Kr:T0):Nat->T4:=LP L4 (gR Kn Ke0 Kr)
variable (K:KV) (h:H)
abbrev asks (x0:List UInt8) (K:KV) (h:H):Prop:=cF L0 (fun Kr=>aA L1 (fun K7=>K7 x0 h) fun x0 h=>aA L2 (fun K6=>K6 x0 none 0 0 h) fun x0 ta rV tD h=>aA L3 (fun K1=>aA L4 (fun K5=>K5 x0 ta rV tD 0 h) fun x0 ta rV tD x4 h=>iy L4 (gR K1 K1 Kr) fun K2=>K2 x0 ta rV tD x4 h) fun ta rV tD h=>n4 ta rV tD Kr Kr h) fun y2 h=>K (S y2) h
theorem ok (q:asks x0 K h):zC 204 [S x0] h K:=
 cl Tryz.func204 q (fun p q=>sq (l:=L1) p q fun p q=>sq (l:=L2) p q fun p q=>sc (l:=L3) q (fun q=>sq (l:=L4) p q fun p q=>bl (b:=0) (lp p q fun p q=>sq (l:=L4) p q fun p q=>sq (l:=L4) p q fun p q=>lf p q)) fun p q=>lf p q) fun p q=>rt p q
end SN
namespace Xdd
abbrev L0:List Sl:=[]
variable (x0:OA) (x1:List UInt8)
variable (K:KV) (h:H)
abbrev asks:Prop:=cF L0 (fun Kr=>zC 55 [.pointer x0] h fun v1 h2=>kV v1 fun l3=>aG l3 fun e4 l5=>aL .i64 e4 fun i6=>aG l5 fun e7 l8=>aL .u8 e7 fun i9=>aG l8 fun Sv U8=>gL Sv fun jU=>aG U8 fun Og Qm=>aL .u8 Og fun i15=>cW Qm (zC 54 [.pointer x0,(.agg ⟨[.int .i64 i6,.int .u8 i9,S jU,.int .u8 i15]⟩)] h2 fun oD fh=>ni oD fun U9=>aG U9 fun Qn Qo=>aL .i64 Qn fun i21=>aG Qo fun Qp Qq=>aL .i64 Qp fun i24=>cW Qq ((ae x0 fun a25=>ae x0 fun a26=>zP fh (a26.add 0) fun QT=>zC 66 [.pointer QT,(.agg ⟨[.int .u8 3,.int .u8 0,S [],.slice none 0 0,S x1,.slice none 0 0]⟩)] fh fun v28 uW=>aL .i64 v28 fun i30=>zP uW (a25.add 0) fun U7=>zC 65 [.pointer U7,.int .i64 i21,.int .i64 i24,.int .i64 i30] uW fun B0 lW=>au B0 fun US=>cond US (Kr lW) (Kr lW))/\(ae x0 fun NI=>zP fh (NI.add 0) fun p36=>ae x0 fun a37=>zP fh (a37.add 0) fun p38=>zC 66 [.pointer p38,(.agg ⟨[.int .u8 3,.int .u8 0,S [],.slice none 0 0,S x1,.slice none 0 0]⟩)] fh fun Qk DW=>aL .i64 Qk fun i41=>zC 65 [.pointer p36,.int .i64 i21,.int .i64 i24,.int .i64 i41] DW fun Su MA=>au Su fun b44=>cond b44 (Kr MA) (Kr MA))))) fun h=>K (.tuple ⟨[]⟩) h
theorem ok (q:asks x0 x1 K h):zC 41 [.pointer x0,S x1] h K:=
 cl Tryz.func41 q (fun p q=>lf p q) fun p q=>rt p q
end Xdd
namespace Xde
abbrev L3:=[Zp 0,Z6 2,Z6 28,Z6 29]
abbrev L0:List Sl:=[]
abbrev L2:=[Zp 0,Z6 2]
abbrev T0:=TK L0
abbrev T3:=TK L3
variable (x0:OA)
abbrev ND (Kn Ke0 Kr:T0):T3->T3:=fun K1 x0 x2 HZ zZ h=>aM (zZ<HZ) (ae x0 fun a1=>zS h (a1.add 2) fun lN kW oy=>bd .i64 (x2+zZ)/\((0<=(x2+zZ)/\(x2+zZ)<(kW:Int))/\(ae lN fun a3=>zT h ((a3.add (Int.toNat (x2+zZ)*3)).add 1) fun s4=>zS h ((a3.add (Int.toNat (x2+zZ)*3)).add 2) fun BL Aa F9=>zC 64 [.pointer x0,.int .u8 0,(.agg ⟨[.int .u8 0,S s4,.slice BL Aa F9,.bool false,S []]⟩)] h fun v6 h7=>aL .i64 v6 fun i8=>bc ((a3.add (Int.toNat (x2+zZ)*3)).add 0) [.int .i64 i8] 0 h7 fun h9=>bd .i64 (zZ+(1:Int))/\(K1 x0 x2 HZ (zZ+(1:Int)) h9)))) (Ke0 h)
abbrev MX (Kn Ke0 Kr:T0):Nat->T3:=LP L3 (ND Kn Ke0 Kr)
variable (K:KV) (h:H)
abbrev asks (x0:OA) (K:KV) (h:H):Prop:=cF L0 (fun Kr=>aA L2 (fun K4=>ae x0 fun jh=>zS h (jh.add 2) fun qz pA sS=>ae x0 fun a21=>zS h (a21.add 1) fun lP iE lQ=>zC 62 [.slice qz pA sS,.slice lP iE lQ] h fun v23 mC=>aL .i64 v23 fun i25=>K4 x0 i25 mC) fun x0 x2 h=>aA L2 (fun K3=>ae x0 fun a12=>zS h (a12.add 2) fun jK jv lg=>zC 63 [.slice jK jv lg] h fun qO gA=>aB qO fun hU hX hZ=>ae x0 fun nE=>bc (nE.add 2) [.slice hU hX hZ] 0 gA fun gI=>K3 x0 x2 gI) fun x0 x2 h=>aA L3 (fun K2=>ae x0 fun jB=>zS h (jB.add 2) fun mN kZ lR=>(0<=x2/\x2<=(kZ:Int)/\(kZ:Int)<=(lR:Int))/\(K2 x0 x2 (((Int.toNat (kZ:Int) - Int.toNat x2):Nat):Int) 0 h)) fun x0 x2 HZ zZ h=>iy L3 (ND Kr Kr Kr) fun K1=>K1 x0 x2 HZ zZ h) fun h=>K (.tuple ⟨[]⟩) h
theorem ok (q:asks x0 K h):zC 40 [.pointer x0] h K:=
 cl Tryz.func40 q (fun p q=>sq (l:=L2) p q fun p q=>sq (l:=L2) p q fun p q=>sq (l:=L3) p q fun p q=>bl (b:=0) (lp p q fun p q=>lf p q)) fun p q=>rt p q
end Xde
namespace Xda
abbrev L4:=[Zp 0,Z6 4,Zb 12]
abbrev L3:=[Zp 0,Z6 4]
abbrev L2:=[Zp 0,Za 3]
abbrev L0:List Sl:=[]
variable (x0:OA) (x1:Int)
variable (K:KV) (h:H)
abbrev asks (x0:OA) (x1:Int) (K:KV) (h:H):Prop:=cF L0 (fun Kr=>aA L2 (fun K3=>aw h #[.int .i64 x1] 3 fun pv fh=>K3 x0 pv fh) fun x0 x3 h=>aA L3 (fun K2=>ae x0 fun jC=>zS h (jC.add 1) fun pB lS pC=>zC 183 [.slice pB lS pC,(.func (.func 194) ⟨[]⟩ ⟨[.pointer (some x3)]⟩)] h fun mu dx=>aL .i64 mu fun i15=>K2 x0 i15 dx) fun x0 x4 h=>aA L4 (fun K1=>aM (x4>(0:Int)) (K1 x0 x4 true h) (K1 x0 x4 false h)) fun x0 x4 gX h=>cond gX (ae x0 fun a1=>zS h (a1.add 1) fun lN kW oy=>zC 196 [.slice lN kW oy] h fun v3 h4=>aB v3 fun BL Aa F9=>bd .i64 (x4+(1:Int))/\(zC 195 [.slice BL Aa F9,.int .i64 x4,.int .i64 (x4+(1:Int))] h4 fun v6 h7=>aB v6 fun rT rJ vq=>ae x0 fun a9=>bc (a9.add 1) [.slice rT rJ vq] 0 h7 fun df=>Kr df)) (Kr h)) fun h=>K (.tuple ⟨[]⟩) h
theorem ok (q:asks x0 x1 K h):zC 155 [.pointer x0,.int .i64 x1] h K:=
 cl Tryz.func155 q (fun p q=>sq p q fun p q=>sq p q fun p q=>sq p q fun p q=>lf p q) fun p q=>rt p q
end Xda
namespace Xf8
abbrev L2:List Sl:=[]
abbrev L3:=[Zl 0,Zr 1,Z6 7,Z6 8]
abbrev L0:=[Z6 4]
abbrev L1:=[Zl 0,Zr 1]
abbrev T2:=TK L2
abbrev T0:=TK L0
abbrev T3:=TK L3
variable (ao:OA) (aj aq:Nat) (x1:Value)
abbrev bU (Kn Ke0:T2) (Kr:T0):T3->T3:=fun K2 ao aj aq x1 x7 x8 h=>aM (x8<x7) ((0<=x8/\x8<(aj:Int))/\(ae ao fun a1=>zI .i64 h (((a1.add (Int.toNat x8*4))).add 0) fun i2=>zI .u8 h (((a1.add (Int.toNat x8*4))).add 1) fun i3=>zT h (((a1.add (Int.toNat x8*4))).add 2) fun s4=>zI .u8 h (((a1.add (Int.toNat x8*4))).add 3) fun i5=>fQ Tryz.prog 4 x1 ⟨[(.agg ⟨[.int .i64 i2,.int .u8 i3,S s4,.int .u8 i5]⟩)]⟩ h fun v6 h7=>au v6 fun b8=>cond b8 (Kr x8 h7) (bd .i64 (x8+(1:Int))/\(K2 ao aj aq x1 x7 (x8+(1:Int)) h7)))) (Ke0 h)
abbrev cQ (Kn Ke0:T2) (Kr:T0):Nat->T3:=LP L3 (bU Kn Ke0 Kr)
variable (K:KV) (h:H)
abbrev asks (ao:OA) (aj aq:Nat) (x1:Value) (K:KV) (h:H):Prop:=cF L0 (fun Kr=>aA L1 (fun K4=>K4 ao aj aq x1 h) fun ao aj aq x1 h=>aA L2 (fun K1=>aA L3 (fun K3=>K3 ao aj aq x1 (aj:Int) 0 h) fun ao aj aq x1 x7 x8 h=>iy L3 (bU K1 K1 Kr) fun K2=>K2 ao aj aq x1 x7 x8 h) fun h=>Kr (-1) h) fun y4 h=>K (.int .i64 y4) h
theorem ok (q:asks ao aj aq x1 K h):zC 183 [.slice ao aj aq,x1] h K:=
 cl Tryz.func183 q (fun p q=>sq (l:=L1) p q fun p q=>sc (l:=L2) q (fun q=>sq (l:=L3) p q fun p q=>bl (b:=0) (lp p q fun p q=>lf p q)) fun p q=>lf p q) fun p q=>rt p q
end Xf8
namespace Xdb
abbrev L0:=[Zb 3]
variable (cE cG:Int) (eu:List UInt8) (eP:Int) (x1:Addr)
variable (K:KV) (h:H)
abbrev asks:Prop:=cF L0 (fun Kr=>aw h ⟨[.int .i64 cE,.int .u8 cG,S eu,.int .u8 eP]⟩ 77 fun a1 h2=>zI .i64 h2 (a1.add 0) fun i3=>zI .i64 h2 x1 fun i4=>aM (i3=i4) (Kr true h2) (Kr false h2)) fun y3 h=>K (.bool y3) h
theorem ok (q:asks cE cG eu eP x1 K h):zC 194 [(.agg ⟨[.int .i64 cE,.int .u8 cG,S eu,.int .u8 eP]⟩),.pointer (some x1)] h K:=
 cl Tryz.func194 q (fun p q=>lf p q) fun p q=>rt p q
end Xdb
namespace Xf5
abbrev L0:=[Zl 6]
variable (ao:OA) (aj aq:Nat) (x1 x2:Int)
variable (K:KV) (h:H)
abbrev asks:Prop:=cF L0 (fun Kr=>(0<=x1/\x1<=x2/\x2<=(aj:Int)/\(aj:Int)<=(aq:Int))/\(aM (x1=x2) (Kr ao aj aq h) ((0<=(0:Int)/\0<=x1/\x1<=(aq:Int))/\((0<=x2/\x2<=(aj:Int)/\(aj:Int)<=(aq:Int))/\(aZ Tryz.prog (Builtin.append_ #[39,39] 39 ⟨[(.slice (if aq=Int.toNat 0 then ao else Option.map (fun q=>q.add (Int.toNat (0:Int)*4)) ao) (Int.toNat x1 - Int.toNat 0) (aq - Int.toNat 0)),(.slice (if aq=Int.toNat x2 then ao else Option.map (fun q=>q.add (Int.toNat x2*4)) ao) (Int.toNat (aj:Int) - Int.toNat x2) (aq - Int.toNat x2))]⟩) h fun v1 h2=>aB v1 fun Ai uX yv=>(0<=(uX:Int)/\(uX:Int)<=(aj:Int)/\(aj:Int)<=(yv:Int))/\(aZ Tryz.prog (Builtin.clear_ #[39] 0 ⟨[(.slice (if yv=Int.toNat (uX:Int) then Ai else Option.map (fun q=>q.add (Int.toNat (uX:Int)*4)) Ai) (Int.toNat (aj:Int) - Int.toNat (uX:Int)) (yv - Int.toNat (uX:Int)))]⟩) h2 fun v4 h5=>Kr Ai uX yv h5)))))) fun VY VZ V0 h=>K (.slice VY VZ V0) h
theorem ok (q:asks ao aj aq x1 x2 K h):zC 195 [.slice ao aj aq,.int .i64 x1,.int .i64 x2] h K:=
 cl Tryz.func195 q (fun p q=>lf p q) fun p q=>rt p q
end Xf5
namespace Xfy
abbrev L0:=[Zl 2]
variable (ao:OA) (aj aq:Nat)
variable (K:KV) (h:H)
abbrev asks:Prop:=cF L0 (fun Kr=>aZ Tryz.prog (dy .eql 39 (.tmp 3) (.const (.slice none 0 0)) (.slice ao aj aq) (.slice none 0 0)) h fun v1 h2=>au v1 fun b3=>cond b3 (Kr none 0 0 h2) (aw h2 #[] 77 fun a4 h5=>aZ Tryz.prog (Builtin.append_ #[39,39] 39 ⟨[.slice (some a4) 0 0,.slice ao aj aq]⟩) h5 fun v6 h7=>aB v6 fun rT rJ vq=>Kr rT rJ vq h7)) fun qj qk ql h=>K (.slice qj qk ql) h
theorem ok (q:asks ao aj aq K h):zC 196 [.slice ao aj aq] h K:=
 cl Tryz.func196 q (fun p q=>lf p q) fun p q=>rt p q
end Xfy
namespace V1
abbrev L2:=[Zp 0,Z6 2]
abbrev L0:List Sl:=[]
abbrev T0:=TK L0
abbrev T2:=TK L2
variable (x0:OA)
abbrev rK (Kn Ke0 Kr:T0):T2->T2:=fun K1 x0 x2 h=>ae x0 fun a1=>zS h (a1.add 2) fun lN kW oy=>aM (x2<(kW:Int)) (ae x0 fun a3=>zS h (a3.add 2) fun oe oI uP=>(0<=x2/\x2<(oI:Int))/\(ae oe fun a5=>zI .i64 h (((a5.add (Int.toNat x2*3))).add 0) fun i6=>zT h (((a5.add (Int.toNat x2*3))).add 1) fun s7=>zS h (((a5.add (Int.toNat x2*3))).add 2) fun rT rJ vq=>aw h ⟨[.int .i64 0,S [],.slice none 0 0]⟩ 79 fun a9 df=>bc a9 [.int .i64 i6,S s7,.slice rT rJ vq] 0 df fun eG=>zT eG (a9.add 1) fun jU=>zS eG (a9.add 2) fun jK jv lg=>zC 103 [.pointer x0,.int .u8 0,(.agg ⟨[.int .u8 0,S jU,.slice jK jv lg,.bool false,S []]⟩)] eG fun qO gA=>aL .i64 qO fun i16=>bc (a9.add 0) [.int .i64 i16] 0 gA fun fh=>ae x0 fun sJ=>zS fh (sJ.add 2) fun qw pw pz=>(0<=(0:Int)/\0<=x2/\x2<=(pz:Int))/\(aZ Tryz.prog (Builtin.append_ #[40,40] 40 ⟨[.slice none 0 0,(.slice (if pz=Int.toNat 0 then qw else Option.map (fun q=>q.add (Int.toNat (0:Int)*3)) qw) (Int.toNat x2 - Int.toNat 0) (pz - Int.toNat 0))]⟩) fh fun v20 qt=>aB v20 fun lP iE lQ=>zI .i64 qt (a9.add 0) fun i23=>zT qt (a9.add 1) fun s24=>zS qt (a9.add 2) fun NF NG NH=>aw qt #[.int .i64 i23,S s24,.slice NF NG NH] 79 fun a26 CH=>aZ Tryz.prog (Builtin.append_ #[40,40] 40 ⟨[.slice lP iE lQ,.slice (some a26) 1 1]⟩) CH fun v28 uW=>aB v28 fun BM BN DZ=>ae x0 fun a31=>zS uW (a31.add 2) fun za xQ xR=>bd .i64 (x2+(1:Int))/\((0<=(x2+(1:Int))/\(x2+(1:Int))<=(xQ:Int)/\(xQ:Int)<=(xR:Int))/\(aZ Tryz.prog (Builtin.append_ #[40,40] 40 ⟨[.slice BM BN DZ,(.slice (if xR=Int.toNat (x2+(1:Int)) then za else Option.map (fun q=>q.add (Int.toNat (x2+(1:Int))*3)) za) (Int.toNat (xQ:Int) - Int.toNat (x2+(1:Int))) (xR - Int.toNat (x2+(1:Int))))]⟩) uW fun Ot tY=>aB Ot fun U3 U4 U5=>ae x0 fun Gy=>bc (Gy.add 2) [.slice U3 U4 U5] 0 tY fun lX=>bd .i64 (x2+(1:Int))/\(K1 x0 (x2+(1:Int)) lX)))))) (Ke0 h)
abbrev tX (Kn Ke0 Kr:T0):Nat->T2:=LP L2 (rK Kn Ke0 Kr)
variable (K:KV) (h:H)
abbrev asks (x0:OA) (K:KV) (h:H):Prop:=cF L0 (fun Kr=>aA L2 (fun K2=>ae x0 fun Jn=>zS h (Jn.add 2) fun V2 V3 V4=>ae x0 fun a40=>zS h (a40.add 1) fun V5 V6 aaJ=>zC 102 [.slice V2 V3 V4,.slice V5 V6 aaJ] h fun Su MA=>aL .i64 Su fun i44=>K2 x0 i44 MA) fun x0 x2 h=>iy L2 (rK Kr Kr Kr) fun K1=>K1 x0 x2 h) fun h=>K (.tuple ⟨[]⟩) h
theorem ok (q:asks x0 K h):zC 44 [.pointer x0] h K:=
 cl Tryz.func44 q (fun p q=>sq (l:=L2) p q fun p q=>bl (b:=0) (lp p q fun p q=>lf p q)) fun p q=>rt p q
end V1
namespace EH
abbrev L0:List Sl:=[]
abbrev L3:=[Zp 0,Zl 4]
abbrev L4:=[Zp 0,Z6 1,Zl 4,Z6 5]
abbrev L5:=[Zp 0,Z6 1,Zl 4,Z6 5,Zb 28]
abbrev L2:=[Zp 0,Z6 1,Zl 4]
abbrev T0:=TK L0
abbrev T3:=TK L3
abbrev T4:=TK L4
variable (x0:OA) (x1:Int) (Aj:OA) (Ak Al:Nat) (x5:Int) (HZ:Bool)
abbrev n3 (Kn Kr:T0) (h:H):Prop:=
 ae x0 fun a1=>bc (a1.add 1) [.slice Aj Ak Al] 0 h fun h2=>Kn h2
abbrev ui (Kn Ke1:T4) (Ke0:T3) (Kr:T0) (h:H):Prop:=
 cond HZ (ae x0 fun a3=>zS h (a3.add 1) fun oe oI uP=>(0<=x5/\x5<(oI:Int))/\(ae oe fun a5=>zI .i64 h (((a5.add (Int.toNat x5*4))).add 0) fun i6=>zI .u8 h (((a5.add (Int.toNat x5*4))).add 1) fun i7=>zT h (((a5.add (Int.toNat x5*4))).add 2) fun s8=>zI .u8 h (((a5.add (Int.toNat x5*4))).add 3) fun i9=>aw h #[.int .i64 i6,.int .u8 i7,S s8,.int .u8 i9] 77 fun jB eG=>aZ Tryz.prog (Builtin.append_ #[39,39] 39 ⟨[.slice Aj Ak Al,.slice (some jB) 1 1]⟩) eG fun v12 fI=>aB v12 fun xT xU xV=>Kn x0 x1 xT xU xV x5 fI)) (Kn x0 x1 Aj Ak Al x5 h)
abbrev bU (Kn Ke0:T3) (Kr:T0):T4->T4:=fun K2 x0 x1 Aj Ak Al x5 h=>aA L4 (fun K5=>ae x0 fun jh=>zS h (jh.add 1) fun qz pA sS=>aM (x5<(pA:Int)) (K5 x0 x1 Aj Ak Al x5 h) (Ke0 x0 Aj Ak Al h)) fun x0 x1 Aj Ak Al x5 h=>aA L4 (fun K3=>aA L5 (fun K4=>aM (x5=(0:Int)) (K4 x0 x1 Aj Ak Al x5 true h) (ae x0 fun oF=>zS h (oF.add 1) fun hU hX hZ=>(0<=x5/\x5<(hX:Int))/\(ae hU fun nE=>zI .i64 h ((nE.add (Int.toNat x5*4)).add 0) fun i18=>aM (i18=x1) (K4 x0 x1 Aj Ak Al x5 false h) (K4 x0 x1 Aj Ak Al x5 true h)))) fun x0 x1 Aj Ak Al x5 HZ h=>ui x0 x1 Aj Ak Al x5 HZ K3 K3 Ke0 Kr h) fun x0 x1 Aj Ak Al x5 h=>bd .i64 (x5+(1:Int))/\(K2 x0 x1 Aj Ak Al (x5+(1:Int)) h)
abbrev cQ (Kn Ke0:T3) (Kr:T0):Nat->T4:=LP L4 (bU Kn Ke0 Kr)
variable (K:KV) (h:H)
abbrev asks (x0:OA) (x1:Int) (K:KV) (h:H):Prop:=cF L0 (fun Kr=>aA L2 (fun K7=>K7 x0 x1 none 0 0 h) fun x0 x1 Aj Ak Al h=>aA L3 (fun K1=>aA L4 (fun K6=>K6 x0 x1 Aj Ak Al 0 h) fun x0 x1 Aj Ak Al x5 h=>iy L4 (bU K1 K1 Kr) fun K2=>K2 x0 x1 Aj Ak Al x5 h) fun x0 Aj Ak Al h=>n3 x0 Aj Ak Al Kr Kr h) fun h=>K (.tuple ⟨[]⟩) h
theorem ok (q:asks x0 x1 K h):zC 120 [.pointer x0,.int .i64 x1] h K:=
 cl Tryz.func120 q (fun p q=>sq (l:=L2) p q fun p q=>sc (l:=L3) q (fun q=>sq (l:=L4) p q fun p q=>bl (b:=0) (lp p q fun p q=>sq (l:=L4) p q fun p q=>sc (l:=L4) q (fun q=>bl (b:=1) (sq (l:=L5) p q fun p q=>lf p q)) fun p q=>lf p q)) fun p q=>lf p q) fun p q=>rt p q
end EH
end Go.Proofs
