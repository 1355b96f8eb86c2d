/- Own text. No condition. -/
import Derived.Test.YtijoifkjeamonaaGreatHc
import Derived.Test.YtijoifkjeamonaaGreatShR
import Derived.Test.YtijoifkjeamonaaGreatProg
namespace Go.Proofs
open Go Go.Sh
set_option linter.unusedVariables false
set_option maxRecDepth 100000
namespace Xar
abbrev L0:=[Z6 4]
variable (x0:OA) (x1:Int)
variable (K:KV) (h:H)
abbrev asks:Prop:=cF L0 (fun Kr=>zC 48 [.pointer x0,.int .i64 x1] h fun v1 h2=>lr v1 fun p3=>bf Tryz.prog (dX .eql 80 (.tmp 9) (.const (.pointer none)) (.pointer p3) (.pointer none)) h2 fun v4 h5=>au v4 fun b6=>cond b6 (Kr (-1) h5) (ae p3 fun a7=>zI .i64 h5 (a7.add 6) fun i8=>Kr i8 h5)) fun y4 h=>K (.int .i64 y4) h
theorem ok (q:asks x0 x1 K h):zC 129 [.pointer x0,.int .i64 x1] h K:=
 cl Tryz.func129 q (fun p q=>lf p q) fun p q=>rt p q
end Xar
namespace Xam
abbrev L0:=[Zp 0]
variable (K:KV) (h:H)
abbrev asks:Prop:=cF L0 (fun Kr=>aw h ⟨[.int .u8 0,.int .u8 0,S [],.slice none 0 0,S [],.slice none 0 0,.int .i64 (-1),.slice none 0 0]⟩ 84 fun a1 h2=>aw h2 #[.pointer (some a1)] 80 fun a3 h4=>aw h4 ⟨[.slice (some a3) 1 1]⟩ 87 fun a5 h6=>Kr (some a5) h6) fun y0 h=>K (.pointer y0) h
theorem ok (q:asks K h):zC 51 [] h K:=
 cl Tryz.func51 q (fun p q=>lf p q) fun p q=>rt p q
end Xam
namespace Xh
abbrev L0:=[Z6 4]
abbrev L2:=[Zp 0,Za 3]
abbrev L5:=[Zp 0,Za 3,Zb 19]
abbrev L4:=[Zp 0,Za 3,Z8 6,Zb 7]
abbrev L3:=[Zp 0,Za 3,Z8 6]
abbrev T0:=TK L0
abbrev T2:=TK L2
variable (x0:OA) (dh di:Int) (oK:List UInt8) (uR:OA) (uS uT:Nat) (oL:List UInt8) (uU:OA) (uV uW:Nat) (x3:Addr) (qu:Bool)
abbrev n3 (Kn Kr:T0) (h:H):Prop:=
 ae x0 fun a1=>zS h (a1.add 0) fun ma lx oM=>zI .u8 h (x3.add 0) fun i3=>zI .u8 h (x3.add 1) fun i4=>zT h (x3.add 2) fun s5=>zS h (x3.add 3) fun jH gn lj=>zT h (x3.add 4) fun s7=>zS h (x3.add 5) fun ri qF ui=>aw h ⟨[.int .u8 i3,.int .u8 i4,S s5,.slice jH gn lj,S s7,.slice ri qF ui,.int .i64 (-1),.slice none 0 0]⟩ 84 fun a9 cS=>bH h cS/\(aw cS #[.pointer (some a9)] 80 fun lk eM=>bH cS eM/\(bf Tryz.prog (Builtin.append_ #[85,85] 85 ⟨[.slice ma lx oM,.slice (some lk) 1 1]⟩) eM fun np dA=>aA np fun kR ly oN=>ae x0 fun pM=>aZ (pM.add 0) [.slice kR ly oN] 0 dA fun fF=>ae x0 fun sS=>zS fF (sS.add 0) fun qG pN pO=>bc .i64 ((pN:Int) - 1)/\(Kr ((pN:Int) - 1) fF)))
abbrev sg (Kn Ke0:T2) (Kr:T0) (h:H):Prop:=
 cond qu (zI .u8 h (x3.add 0) fun i28=>zT h (x3.add 4) fun Zw=>aZ x3 [.int .u8 i28,.int .u8 0,S [],.slice none 0 0,S Zw,.slice none 0 0] 0 h fun tO=>Kn x0 x3 tO) (Kr (-1) h)
variable (K:KV) (h:H)
abbrev asks (x0:OA) (dh di:Int) (oK:List UInt8) (uR:OA) (uS uT:Nat) (oL:List UInt8) (uU:OA) (uV uW:Nat) (K:KV) (h:H):Prop:=cF L0 (fun Kr=>aB L2 (fun K5=>aw h ⟨[.int .u8 dh,.int .u8 di,S oK,.slice uR uS uT,S oL,.slice uU uV uW]⟩ 70 fun tH mq=>K5 x0 tH mq) fun x0 x3 h=>aB L2 (fun K1=>aB L3 (fun K4=>zI .u8 h (x3.add 0) fun i31=>K4 x0 x3 i31 h) fun x0 x3 x6 h=>aB L4 (fun K3=>aO (x6=(1:Int)) (K3 x0 x3 x6 true h) (K3 x0 x3 x6 false h)) fun x0 x3 x6 x7 h=>cond x7 (zI .u8 h (x3.add 0) fun i20=>zI .u8 h (x3.add 1) fun i21=>zT h (x3.add 2) fun Zx=>zS h (x3.add 3) fun vB te vC=>zC 49 [.slice vB te vC] h fun v24 iG=>aA v24 fun AO AP AQ=>bH h iG/\(aZ x3 [.int .u8 i20,.int .u8 i21,S Zx,.slice AO AP AQ,S [],.slice none 0 0] 0 iG fun AK=>K1 x0 x3 AK)) (aB L5 (fun K2=>aO (x6=(2:Int)) (K2 x0 x3 true h) (aO (x6=(3:Int)) (K2 x0 x3 true h) (K2 x0 x3 false h))) fun x0 x3 qu h=>sg x0 x3 qu K1 K1 Kr h)) fun x0 x3 h=>n3 x0 x3 Kr Kr h) fun y4 h=>K (.int .i64 y4) h
theorem ok (q:asks x0 dh di oK uR uS uT oL uU uV uW K h):zC 66 [.pointer x0,(.agg ⟨[.int .u8 dh,.int .u8 di,S oK,.slice uR uS uT,S oL,.slice uU uV uW]⟩)] h K:=
 cl Tryz.func66 q (fun p q=>sq (l:=L2) p q fun p q=>sc (l:=L2) q (fun q=>sq (l:=L3) p q fun p q=>bl (b:=0) (sq (l:=L4) p q fun p q=>cn (i:=7) p q (fun p q=>lf p q) fun p q=>sq (l:=L5) p q fun p q=>lf p q)) fun p q=>lf p q) fun p q=>rt p q
end Xh
namespace Xas
abbrev L0:=[Zb 8]
abbrev L3:=[Z6 1,Z6 2,Z6 3,Zp 9,Zp 10]
abbrev L2:=[Zp 0,Z6 1,Z6 2,Z6 3,Zp 9,Zp 10]
abbrev L1:=[Zp 0,Z6 1,Z6 2,Z6 3]
abbrev T0:=TK L0
variable (x0:OA) (x1 x2 x3:Int) (x9 bD:OA)
abbrev n5 (Kn Kr:T0) (h:H):Prop:=
 (ae x9 fun a1=>zS h (a1.add 7) fun ma lx oM=>zC 131 [.pointer x9,.int .i64 x2] h fun v3 h4=>aL .i64 v3 fun i5=>bH h h4/\(aw h4 #[.int .i64 x3] 3 fun a6 h7=>bH h4 h7/\(zC 142 [.slice ma lx oM,.int .i64 i5,.slice (some a6) 1 1] h7 fun v8 h9=>aA v8 fun jS jl mW=>ae x9 fun lk=>aZ (lk.add 7) [.slice jS jl mW] 0 h9 fun eM=>ae bD fun pU=>aZ (pU.add 6) [.int .i64 x1] 0 eM fun dA=>Kr true dA)))/\(ae x9 fun pV=>zS h (pV.add 7) fun gQ gR gS=>aw h #[.int .i64 x3] 3 fun oO gO=>bH h gO/\(zC 131 [.pointer x9,.int .i64 x2] gO fun xA gx=>aL .i64 xA fun i21=>bH gO gx/\(zC 142 [.slice gQ gR gS,.int .i64 i21,.slice (some oO) 1 1] gx fun v22 qD=>aA v22 fun F4 F5 Mq=>ae x9 fun a25=>aZ (a25.add 7) [.slice F4 F5 Mq] 0 qD fun oC=>ae bD fun zU=>aZ (zU.add 6) [.int .i64 x1] 0 oC fun lK=>Kr true lK)))
variable (K:KV) (h:H)
abbrev asks (x0:OA) (x1 x2 x3:Int) (K:KV) (h:H):Prop:=cF L0 (fun Kr=>aB L1 (fun K4=>K4 x0 x1 x2 x3 h) fun x0 x1 x2 x3 h=>aB L2 (fun K3=>zC 130 [.pointer x0,.int .i64 x1] h fun Mr Ex=>lr Mr fun p46=>zC 48 [.pointer x0,.int .i64 x3] Ex fun UN DS=>lr UN fun p49=>K3 x0 x1 x2 x3 p46 p49 DS) fun x0 x1 x2 x3 x9 bD h=>aB L2 (fun K2=>bf Tryz.prog (dX .eql 80 (.tmp 17) (.const (.pointer none)) (.pointer x9) (.pointer none)) h fun B5 mq=>au B5 fun UO=>cond UO (Kr false mq) (bf Tryz.prog (dX .eql 80 (.tmp 20) (.const (.pointer none)) (.pointer bD) (.pointer none)) mq fun Kb uC=>au Kb fun b37=>cond b37 (Kr false uC) (aO (x3=(0:Int)) (Kr false uC) (aO (x2=x3) (Kr false uC) (zC 131 [.pointer x9,.int .i64 x2] uC fun Ms yr=>aL .i64 Ms fun i40=>aO (i40<(0:Int)) (Kr false yr) (zC 140 [.pointer x0,.int .i64 x1,.int .i64 x3] yr fun Zy I7=>au Zy fun b43=>cond b43 (Kr false I7) (K2 x0 x1 x2 x3 x9 bD I7))))))) fun x0 x1 x2 x3 x9 bD h=>aB L3 (fun K1=>zC 141 [.pointer x0,.int .i64 x3] h fun Jv tO=>au Jv fun b31=>cond b31 (K1 x1 x2 x3 x9 bD tO) (K1 x1 x2 x3 x9 bD tO)) fun x1 x2 x3 x9 bD h=>n5 x1 x2 x3 x9 bD Kr Kr h) fun y8 h=>K (.bool y8) h
theorem ok (q:asks x0 x1 x2 x3 K h):zC 65 [.pointer x0,.int .i64 x1,.int .i64 x2,.int .i64 x3] h K:=
 cl Tryz.func65 q (fun p q=>sq (l:=L1) p q fun p q=>sq (l:=L2) p q fun p q=>sq (l:=L2) p q fun p q=>sq (l:=L3) p q fun p q=>lf p q) fun p q=>rt p q
end Xas
namespace Xau
abbrev L0:=[Zb 8]
abbrev L1:=[Zp 0,Z6 1,Z6 2,Zs 3]
abbrev L4:=[Zp 0,Z6 1,Z6 2,Zs 3,Zp 9,Z6 10,Zb 29]
abbrev L3:=[Zp 0,Z6 1,Z6 2,Zs 3,Zp 9,Z6 10]
abbrev L2:=[Zp 0,Z6 1,Z6 2,Zs 3,Zp 9]
abbrev T0:=TK L0
variable (x0:OA) (x1 x2:Int) (x3:List UInt8)
abbrev n6 (Kn Kr:T0) (h:H):Prop:=
 zC 66 [.pointer x0,(.agg ⟨[.int .u8 2,.int .u8 0,S [],.slice none 0 0,S x3,.slice none 0 0]⟩)] h fun v1 h2=>aL .i64 v1 fun i3=>zC 65 [.pointer x0,.int .i64 x1,.int .i64 x2,.int .i64 i3] h2 fun v4 h5=>au v4 fun b6=>cond b6 (Kr true h5) (Kr false h5)
variable (K:KV) (h:H)
abbrev asks (x0:OA) (x1 x2:Int) (x3:List UInt8) (K:KV) (h:H):Prop:=cF L0 (fun Kr=>aB L1 (fun K7=>K7 x0 x1 x2 x3 h) fun x0 x1 x2 x3 h=>aB L2 (fun K6=>zC 130 [.pointer x0,.int .i64 x1] h fun v30 yj=>lr v30 fun p32=>K6 x0 x1 x2 x3 p32 yj) fun x0 x1 x2 x3 x9 h=>aB L2 (fun K5=>bf Tryz.prog (dX .eql 80 (.tmp 15) (.const (.pointer none)) (.pointer x9) (.pointer none)) h fun v24 iG=>au v24 fun UP=>cond UP (Kr false iG) (zC 131 [.pointer x9,.int .i64 x2] iG fun zV lK=>aL .i64 zV fun i29=>aO (i29<(0:Int)) (Kr false lK) (K5 x0 x1 x2 x3 x9 lK))) fun x0 x1 x2 x3 x9 h=>aB L2 (fun K4=>aO (x3=[]) (Kr true h) (K4 x0 x1 x2 x3 x9 h)) fun x0 x1 x2 x3 x9 h=>aB L1 (fun K1=>aB L3 (fun K3=>zC 131 [.pointer x9,.int .i64 x2] h fun v21 lN=>aL .i64 v21 fun i23=>K3 x0 x1 x2 x3 x9 i23 lN) fun x0 x1 x2 x3 x9 bD h=>aB L4 (fun K2=>aO (bD>(0:Int)) (K2 x0 x1 x2 x3 x9 bD true h) (K2 x0 x1 x2 x3 x9 bD false h)) fun x0 x1 x2 x3 x9 bD zW h=>cond zW (ae x0 fun a7=>zS h (a7.add 0) fun ri qF ui=>ae x9 fun a9=>zS h (a9.add 7) fun jS jl mW=>bc .i64 (bD - (1:Int))/\((0<=(bD - (1:Int))/\(bD - (1:Int))<(jl:Int))/\(ae jS fun lk=>zI .i64 h (lk.add (Int.toNat (bD - (1:Int))*1)) fun i12=>(0<=i12/\i12<(qF:Int))/\(ae ri fun pU=>zP h (pU.add (Int.toNat i12*1)) fun P2=>ae P2 fun pV=>zI .u8 h ((pV.add 0).add 0) fun i16=>aO (i16=(2:Int)) (ae P2 fun oO=>zT h ((oO.add 0).add 4) fun R9=>((R9.length+x3.length:Nat):Int)<=9223372036854775807/\(ae P2 fun jK=>aZ ((jK.add 0).add 4) [(S (R9++x3))] 0 h fun gx=>Kr true gx)) (K1 x0 x1 x2 x3 h))))) (K1 x0 x1 x2 x3 h)) fun x0 x1 x2 x3 h=>n6 x0 x1 x2 x3 Kr Kr h) fun y8 h=>K (.bool y8) h
theorem ok (q:asks x0 x1 x2 x3 K h):zC 56 [.pointer x0,.int .i64 x1,.int .i64 x2,S x3] h K:=
 cl Tryz.func56 q (fun p q=>sq (l:=L1) p q fun p q=>sq (l:=L2) p q fun p q=>sq (l:=L2) p q fun p q=>sq (l:=L2) p q fun p q=>sc (l:=L1) q (fun q=>sq (l:=L3) p q fun p q=>sq (l:=L4) p q fun p q=>lf p q) fun p q=>lf p q) fun p q=>rt p q
end Xau
namespace Xax
abbrev L0:=[Zp 4]
variable (x0:OA) (x1:Int)
variable (K:KV) (h:H)
abbrev asks:Prop:=cF L0 (fun Kr=>aO (x1<(0:Int)) (Kr none h) (ae x0 fun a1=>zS h (a1.add 0) fun ma lx oM=>aO (x1 ≥ (lx:Int)) (Kr none h) (ae x0 fun a3=>zS h (a3.add 0) fun mB mC sB=>(0<=x1/\x1<(mC:Int))/\(ae mB fun a5=>zP h (a5.add (Int.toNat x1*1)) fun p6=>Kr p6 h)))) fun y4 h=>K (.pointer y4) h
theorem ok (q:asks x0 x1 K h):zC 48 [.pointer x0,.int .i64 x1] h K:=
 cl Tryz.func48 q (fun p q=>lf p q) fun p q=>rt p q
end Xax
namespace Xfz
abbrev L0:=[Zl 2]
variable (ao:OA) (aj aq:Nat)
variable (K:KV) (h:H)
abbrev asks:Prop:=cF L0 (fun Kr=>bf Tryz.prog (dX .eql 43 (.tmp 3) (.const (.slice none 0 0)) (.slice ao aj aq) (.slice none 0 0)) h fun v1 h2=>au v1 fun b3=>cond b3 (Kr none 0 0 h2) (aw h2 #[] 67 fun a4 h5=>bf Tryz.prog (Builtin.append_ #[43,43] 43 ⟨[.slice (some a4) 0 0,.slice ao aj aq]⟩) h5 fun v6 h7=>aA v6 fun ri qF ui=>Kr ri qF ui h7)) fun gq gr gu h=>K (.slice gq gr gu) h
theorem ok (q:asks ao aj aq K h):zC 49 [.slice ao aj aq] h K:=
 cl Tryz.func49 q (fun p q=>lf p q) fun p q=>rt p q
end Xfz
namespace Xay
abbrev L0:=[Zp 4]
variable (x0:OA) (x1:Int)
variable (K:KV) (h:H)
abbrev asks:Prop:=cF L0 (fun Kr=>zC 48 [.pointer x0,.int .i64 x1] h fun v1 h2=>lr v1 fun p3=>bf Tryz.prog (dX .eql 80 (.tmp 9) (.const (.pointer none)) (.pointer p3) (.pointer none)) h2 fun v4 h5=>au v4 fun b6=>cond b6 (Kr none h5) (aO (x1>(0:Int)) (ae p3 fun a7=>zI .u8 h5 ((a7.add 0).add 0) fun i8=>aO (i8=(1:Int)) (Kr p3 h5) (Kr none h5)) (Kr p3 h5))) fun y4 h=>K (.pointer y4) h
theorem ok (q:asks x0 x1 K h):zC 130 [.pointer x0,.int .i64 x1] h K:=
 cl Tryz.func130 q (fun p q=>lf p q) fun p q=>rt p q
end Xay
namespace Xa0
abbrev L0:=[Z6 4]
variable (x0:OA) (x1:Int)
variable (K:KV) (h:H)
abbrev asks:Prop:=cF L0 (fun Kr=>aO (x1=(-1:Int)) (ae x0 fun a1=>zS h (a1.add 7) fun ma lx oM=>Kr (lx:Int) h) (ae x0 fun a3=>zS h (a3.add 7) fun mB mC sB=>zC 180 [.slice mB mC sB,.int .i64 x1] h fun v5 h6=>aL .i64 v5 fun i7=>Kr i7 h6)) fun y4 h=>K (.int .i64 y4) h
theorem ok (q:asks x0 x1 K h):zC 131 [.pointer x0,.int .i64 x1] h K:=
 cl Tryz.func131 q (fun p q=>lf p q) fun p q=>rt p q
end Xa0
namespace Xaz
abbrev L0:=[Za 6]
abbrev L3:=[Za 5,Za 6,Zr 10]
abbrev L2:=[Zp 0,Z6 1,Za 5,Za 6]
abbrev T0:=TD L0
def RR (x5 x6:Addr) (bD:Value) (ds:List Deferred) (Kn Ke0 Kr:T0) (h:H) (Fs:Int) (Mid:H->(H->Prop)->Prop) (Kc:H->H->Prop) (Fin:H->H->(H->Prop)->Prop) (h1:H):Prop:=
 Mid h1 fun WV=>zI .i64 WV x5 fun i7=>aO (Fs=i7) (aZ x6 [.bool true] 0 WV fun h8=>Fin WV h8 fun h9=>Kr x6 (cr h.size::ds) h9) (Kc WV WV)
abbrev asks (x0:OA) (x1 x2:Int) (K:KV) (h:H):Prop:=nQ L0 (fun Kr=>nQ L2 (fun K3=>aw h #[.int .i64 x2] 3 fun a12 fi=>aw fi #[.bool false] 4 fun lS fZ=>K3 x0 x1 a12 lS [] fZ) fun x0 x1 x5 x6 ds h=>nQ L0 (fun K1=>nQ L3 (fun K2=>zC 185 [.pointer x0,.int .i64 x1] h fun v10 eF=>K2 x5 x6 v10 ds eF) fun x5 x6 bD ds h=>Oe Tryz.prog bD 1 [.o 11 (.i .i64)] h (RR x5 x6 bD ds K1 K1 Kr h) (fun h4=>K1 x6 (cr h.size::ds) h4)) fun x6 ds h=>aZ x6 [.bool false] 0 h fun h1=>Kr x6 ds h1) fun y6 ds h=>dE ds h fun h=>zB h y6 fun b16=>K (.bool b16) h
theorem ok (x0:OA) (x1 x2:Int) (K:KV) (h:H) (hS:asks x0 x1 x2 K h):zC 140 [.pointer x0,.int .i64 x1,.int .i64 x2] h K:=
 P3 Tryz.func140 hS (fun hg hS=>BC (l:=L2) hg hS fun hg hS=>Sa (l:=L0) hS (fun hS=>BC (l:=L3) hg hS fun hg hS=>bl (b:=0) (P4 (.tmp 10) #[11] hg hS)) fun hg hS=>P5 hg hS) fun hg hS=>P6 hg hS
end Xaz
namespace Xao
abbrev L0:=[Zb 4]
variable (x0:OA) (x1:Int)
variable (K:KV) (h:H)
abbrev asks:Prop:=cF L0 (fun Kr=>zC 48 [.pointer x0,.int .i64 x1] h fun v1 h2=>lr v1 fun p3=>bf Tryz.prog (dX .eql 80 (.tmp 11) (.const (.pointer none)) (.pointer p3) (.pointer none)) h2 fun v4 h5=>au v4 fun b6=>cond b6 (Kr false h5) (ae p3 fun a7=>zI .i64 h5 (a7.add 6) fun i8=>aO (i8<(0:Int)) (Kr false h5) (ae x0 fun a9=>zS h5 (a9.add 0) fun jS jl mW=>ae p3 fun lk=>zI .i64 h5 (lk.add 6) fun i12=>(0<=i12/\i12<(jl:Int))/\(ae jS fun pU=>zP h5 (pU.add (Int.toNat i12*1)) fun P2=>zC 131 [.pointer P2,.int .i64 x1] h5 fun tN gX=>aL .i64 tN fun i17=>ae P2 fun sS=>zS gX (sS.add 7) fun qG pN pO=>bc .i64 (i17+(1:Int))/\(zC 186 [.slice qG pN pO,.int .i64 i17,.int .i64 (i17+(1:Int))] gX fun v20 qC=>aA v20 fun me iI mf=>ae P2 fun a23=>aZ (a23.add 7) [.slice me iI mf] 0 qC fun lX=>ae p3 fun a25=>aZ (a25.add 6) [.int .i64 (-1)] 0 lX fun oC=>Kr true oC))))) fun y4 h=>K (.bool y4) h
theorem ok (q:asks x0 x1 K h):zC 141 [.pointer x0,.int .i64 x1] h K:=
 cl Tryz.func141 q (fun p q=>lf p q) fun p q=>rt p q
end Xao
namespace Ub
abbrev L0:=[Z6 4]
abbrev L2:List Sl:=[]
abbrev L3:=[Zl 0,Z6 1,Z6 7,Z6 8]
abbrev L1:=[Zl 0,Z6 1]
abbrev T0:=TK L0
abbrev T2:=TK L2
abbrev T3:=TK L3
variable (ao:OA) (aj aq:Nat) (x1:Int)
abbrev n3 (Kn Kr:T0) (h:H):Prop:=
 Kr (-1) h
abbrev bS (Kn Ke0:T2) (Kr:T0):T3->T3:=fun K2 ao aj aq x1 x7 x8 h=>aO (x8<x7) ((0<=x8/\x8<(aj:Int))/\(ae ao fun a1=>zI .i64 h (a1.add (Int.toNat x8*1)) fun i2=>aO (x1=i2) (Kr x8 h) (bc .i64 (x8+(1:Int))/\(K2 ao aj aq x1 x7 (x8+(1:Int)) h)))) (Ke0 h)
abbrev cR (Kn Ke0:T2) (Kr:T0):Nat->T3:=LP L3 (bS Kn Ke0 Kr)
variable (K:KV) (h:H)
abbrev asks (ao:OA) (aj aq:Nat) (x1:Int) (K:KV) (h:H):Prop:=cF L0 (fun Kr=>aB L1 (fun K4=>K4 ao aj aq x1 h) fun ao aj aq x1 h=>aB L2 (fun K1=>aB L3 (fun K3=>K3 ao aj aq x1 (aj:Int) 0 h) fun ao aj aq x1 x7 x8 h=>il L3 (bS K1 K1 Kr) fun K2=>K2 ao aj aq x1 x7 x8 h) fun h=>n3 Kr Kr h) fun y4 h=>K (.int .i64 y4) h
theorem ok (q:asks ao aj aq x1 K h):zC 180 [.slice ao aj aq,.int .i64 x1] h K:=
 cl Tryz.func180 q (fun p q=>sq (l:=L1) p q fun p q=>sc (l:=L2) q (fun q=>sq (l:=L3) p q fun p q=>bl (b:=0) (lp p q fun p q=>lf p q)) fun p q=>lf p q) fun p q=>rt p q
end Ub
namespace Xav
abbrev L0:=[Zr 4]
variable (x0:OA) (x1:Int)
variable (K:KV) (h:H)
abbrev asks:Prop:=cF L0 (fun Kr=>aw h #[.pointer x0] 38 fun a1 h2=>aw h2 #[.int .i64 x1] 3 fun a3 h4=>Kr (.func (.func 213) ⟨[]⟩ ⟨[.pointer (some a3),.pointer (some a1)]⟩) h4) fun y4 h=>K y4 h
theorem ok (q:asks x0 x1 K h):zC 185 [.pointer x0,.int .i64 x1] h K:=
 cl Tryz.func185 q (fun p q=>lf p q) fun p q=>rt p q
end Xav
namespace Ug
abbrev L0:List Sl:=[]
abbrev L1:=[Zr 0,Za 1,Za 2]
abbrev T0:=TK L0
abbrev T1:=TK L1
variable (x0:Value) (x1 x2:Addr)
abbrev Zz (Kn Ke0 Kr:T0):T1->T1:=fun K1 x0 x1 x2 h=>zI .i64 h x1 fun i1=>aO (i1 ≥ 0) (zI .i64 h x1 fun i2=>fT Tryz.prog 4 x0 ⟨[.int .i64 i2]⟩ h fun v3 h4=>au v3 fun b5=>cond b5 (zP h4 x2 fun p6=>ae p6 fun a7=>zS h4 (a7.add 0) fun ri qF ui=>zI .i64 h4 x1 fun i9=>(0<=i9/\i9<(qF:Int))/\(ae ri fun jJ=>zP h4 (jJ.add (Int.toNat i9*1)) fun Fs=>ae Fs fun a12=>zI .i64 h4 (a12.add 6) fun i13=>aZ x1 [.int .i64 i13] 0 h4 fun dA=>K1 x0 x1 x2 dA)) (Ke0 h4)) (Ke0 h)
abbrev Pj (Kn Ke0 Kr:T0):Nat->T1:=LP L1 (Zz Kn Ke0 Kr)
variable (K:KV) (h:H)
abbrev asks:Prop:=cF L0 (fun Kr=>il L1 (Zz Kr Kr Kr) fun K1=>K1 x0 x1 x2 h) fun h=>K (.tuple ⟨[]⟩) h
theorem ok (q:asks x0 x1 x2 K h):zC 213 [x0,.pointer (some x1),.pointer (some x2)] h K:=
 cl Tryz.func213 q (fun p q=>bl (b:=0) (lp p q fun p q=>lf p q)) fun p q=>rt p q
end Ug
namespace UQ
abbrev L0:=[Zl 4]
abbrev L4:=[Zl 6]
abbrev L5:=[Zp 0,Zl 6,Zl 18,Z6 19,Z6 20]
abbrev L3:=[Zp 0,Zp 5,Zl 6]
abbrev L2:=[Zp 0,Zp 5]
abbrev L1:=[Zp 0,Z6 1]
abbrev T0:=TK L0
abbrev T4:=TK L4
abbrev T5:=TK L5
variable (x0:OA) (x1:Int) (oD:OA) (nR oW:Nat)
abbrev n6 (Kn Kr:T0) (h:H):Prop:=
 Kr oD nR oW h
abbrev F6 (Kn Ke0:T4) (Kr:T0):T5->T5:=fun K2 x0 oD nR oW P7 P8 UR qu yt h=>aO (yt<qu) ((0<=yt/\yt<(P8:Int))/\(ae P7 fun a1=>zI .i64 h (a1.add (Int.toNat yt*1)) fun i2=>ae x0 fun a3=>zS h (a3.add 0) fun mB mC sB=>(0<=i2/\i2<(mC:Int))/\(ae mB fun a5=>zP h (a5.add (Int.toNat i2*1)) fun p6=>ae p6 fun a7=>zI .u8 h (((a7.add 0)).add 0) fun i8=>zI .u8 h (((a7.add 0)).add 1) fun i9=>zT h (((a7.add 0)).add 2) fun pv=>zS h (((a7.add 0)).add 3) fun mX lz mg=>zT h (((a7.add 0)).add 4) fun j9=>zS h (((a7.add 0)).add 5) fun jT jD lD=>aw h ⟨[.int .u8 0,.int .u8 0,S [],.slice none 0 0,S [],.slice none 0 0]⟩ 70 fun lS fZ=>aZ lS [.int .u8 i8,.int .u8 i9,S pv,.slice mX lz mg,S j9,.slice jT jD lD] 0 fZ fun gX=>zS gX (lS.add 3) fun oP mY oQ=>zC 49 [.slice oP mY oQ] gX fun Ey pB=>aA Ey fun oR nS qH=>zC 25 [.pointer x0,.int .i64 i2] pB fun v21 lN=>aA v21 fun vB te vC=>aZ (lS.add 3) [.slice oR nS qH] 0 lN fun lX=>aZ (lS.add 5) [.slice vB te vC] 0 lX fun iG=>zI .u8 iG (lS.add 0) fun i26=>zI .u8 iG (lS.add 1) fun i27=>zT iG (lS.add 2) fun s28=>zS iG (lS.add 3) fun DT BD DU=>zT iG (lS.add 4) fun US=>zS iG (lS.add 5) fun xB BE yS=>aw iG #[.int .u8 i26,.int .u8 i27,S s28,.slice DT BD DU,S US,.slice xB BE yS] 70 fun tH mq=>bf Tryz.prog (Builtin.append_ #[25,25] 25 ⟨[.slice oD nR oW,.slice (some tH) 1 1]⟩) mq fun zt qz=>aA zt fun UT UU UW=>bc .i64 (yt+(1:Int))/\(K2 x0 UT UU UW P7 P8 UR qu (yt+(1:Int)) qz)))) (Ke0 oD nR oW h)
abbrev F7 (Kn Ke0:T4) (Kr:T0):Nat->T5:=LP L5 (F6 Kn Ke0 Kr)
variable (K:KV) (h:H)
abbrev asks (x0:OA) (x1:Int) (K:KV) (h:H):Prop:=cF L0 (fun Kr=>aB L1 (fun K7=>K7 x0 x1 h) fun x0 x1 h=>aB L2 (fun K6=>zC 48 [.pointer x0,.int .i64 x1] h fun Sb Mt=>lr Sb fun p44=>K6 x0 p44 Mt) fun x0 x5 h=>aB L2 (fun K5=>bf Tryz.prog (dX .eql 80 (.tmp 13) (.const (.pointer none)) (.pointer x5) (.pointer none)) h fun P9 DV=>au P9 fun ZA=>cond ZA (Kr none 0 0 DV) (K5 x0 x5 DV)) fun x0 x5 h=>aB L3 (fun K4=>K4 x0 x5 none 0 0 h) fun x0 x5 oD nR oW h=>aB L4 (fun K1=>aB L5 (fun K3=>ae x5 fun a37=>zS h (a37.add 7) fun I8 BF Mu=>K3 x0 oD nR oW I8 BF Mu (BF:Int) 0 h) fun x0 oD nR oW P7 P8 UR qu yt h=>il L5 (F6 K1 K1 Kr) fun K2=>K2 x0 oD nR oW P7 P8 UR qu yt h) fun oD nR oW h=>n6 oD nR oW Kr Kr h) fun fJ fK fL h=>K (.slice fJ fK fL) h
theorem ok (q:asks x0 x1 K h):zC 25 [.pointer x0,.int .i64 x1] h K:=
 cl Tryz.func25 q (fun p q=>sq (l:=L1) p q fun p q=>sq (l:=L2) p q fun p q=>sq (l:=L2) p q fun p q=>sq (l:=L3) p q fun p q=>sc (l:=L4) q (fun q=>sq (l:=L5) p q fun p q=>bl (b:=0) (lp p q fun p q=>lf p q)) fun p q=>lf p q) fun p q=>rt p q
end UQ
namespace Xc2
abbrev L0:=[Za 4]
abbrev L3:=[Za 3,Za 4,Zr 8]
abbrev L2:=[Zl 0,Za 3,Za 4]
abbrev asks (ao:OA) (aj aq:Nat) (cf:OA) (bU cu:Nat) (K:KV) (h:H):Prop:=nQ L0 (fun Kr=>nQ L2 (fun K3=>aw h #[.slice cf bU cu] 104 fun sS pB=>aw pB #[.int .i64 0] 3 fun a20 qC=>K3 ao aj aq sS a20 [] qC) fun ao aj aq x3 x4 ds h=>nQ L0 (fun K1=>nQ L3 (fun K2=>zC 178 [.slice ao aj aq] h fun oT fF=>K2 x3 x4 oT ds fF) fun x3 x4 x8 ds h=>Oe Tryz.prog x8 2 [.o 9 (.i .i64),.g 10 [.i .i64,.i .u8,.s,.i .u8]] h (fun p9 tf tg DW DX Mid Kc Fin h1=>aw h1 ⟨[.int .i64 0,.int .u8 0,S [],.int .u8 0]⟩ 77 fun a2 h3=>aZ a2 [.int .i64 tf,.int .u8 tg,S DW,.int .u8 DX] 0 h3 fun h4=>Mid h4 fun gW=>zI .i64 gW (a2.add 0) fun i6=>zI .u8 gW (a2.add 1) fun i7=>zT gW (a2.add 2) fun s8=>zI .u8 gW (a2.add 3) fun i9=>zS gW x3 fun jS jl mW=>zC 179 [(.agg ⟨[.int .i64 i6,.int .u8 i7,S s8,.int .u8 i9]⟩),.slice jS jl mW] gW fun v11 eM=>au v11 fun F8=>cond F8 (aZ x4 [.int .i64 p9] 0 eM fun dA=>Fin gW dA fun fZ=>Kr x4 (cr h.size::ds) fZ) (Kc gW eM)) (fun h4=>K1 x4 (cr h.size::ds) h4)) fun x4 ds h=>aZ x4 [.int .i64 (-1)] 0 h fun h1=>Kr x4 ds h1) fun y4 ds h=>dE ds h fun h=>zI .i64 h y4 fun i22=>K (.int .i64 i22) h
theorem ok (ao:OA) (aj aq:Nat) (cf:OA) (bU cu:Nat) (K:KV) (h:H) (hS:asks ao aj aq cf bU cu K h):zC 128 [.slice ao aj aq,.slice cf bU cu] h K:=
 P3 Tryz.func128 hS (fun hg hS=>BC (l:=L2) hg hS fun hg hS=>Sa (l:=L0) hS (fun hS=>BC (l:=L3) hg hS fun hg hS=>bl (b:=0) (P4 (.tmp 8) #[9,10] hg hS)) fun hg hS=>P5 hg hS) fun hg hS=>P6 hg hS
end Xc2
namespace Xc1
abbrev L2:List Sl:=[]
abbrev L4:=[Zs 1,Z8 5,Zb 6]
abbrev L3:=[Zs 1,Z8 5]
abbrev L1:=[Z8 0,Zs 1]
abbrev L0:=[Zb 4]
variable (x0:Int) (x1:List UInt8)
variable (K:KV) (h:H)
abbrev asks (x0:Int) (x1:List UInt8) (K:KV) (h:H):Prop:=cF L0 (fun Kr=>aB L1 (fun K4=>K4 x0 x1 h) fun x0 x1 h=>aB L2 (fun K1=>aB L3 (fun K3=>K3 x1 x0 h) fun x1 x5 h=>aB L4 (fun K2=>aO (x5=(0:Int)) (K2 x1 x5 true h) (K2 x1 x5 false h)) fun x1 x5 x6 h=>cond x6 (zC 157 [S [32,97,100,100,114,101,115,115,32,97,112,112,108,101,116,32,97,114,101,97,32,97,114,116,105,99,108,101,32,97,115,105,100,101,32,98,97,115,101,32,98,97,115,101,102,111,110,116,32,98,103,115,111,117,110,100,32,98,108,111,99,107,113,117,111,116,101,32,98,111,100,121,32,98,114,32,98,117,116,116,111,110,32,99,97,112,116,105,111,110,32,99,101,110,116,101,114,32,99,111,108,32,99,111,108,103,114,111,117,112,32,100,100,32,100,101,116,97,105,108,115,32,100,105,97,108,111,103,32,100,105,114,32,100,105,118,32,100,108,32,100,116,32,101,109,98,101,100,32,102,105,101,108,100,115,101,116,32,102,105,103,99,97,112,116,105,111,110,32,102,105,103,117,114,101,32,102,111,111,116,101,114,32,102,111,114,109,32,102,114,97,109,101,32,102,114,97,109,101,115,101,116,32,104,49,32,104,50,32,104,51,32,104,52,32,104,53,32,104,54,32,104,101,97,100,32,104,101,97,100,101,114,32,104,103,114,111,117,112,32,104,114,32,104,116,109,108,32,105,102,114,97,109,101,32,105,109,103,32,105,110,112,117,116,32,107,101,121,103,101,110,32,108,105,32,108,105,110,107,32,108,105,115,116,105,110,103,32,109,97,105,110,32,109,97,114,113,117,101,101,32,109,101,110,117,32,109,101,116,97,32,110,97,118,32,110,111,101,109,98,101,100,32,110,111,102,114,97,109,101,115,32,110,111,115,99,114,105,112,116,32,111,98,106,101,99,116,32,111,108,32,112,32,112,97,114,97,109,32,112,108,97,105,110,116,101,120,116,32,112,114,101,32,115,99,114,105,112,116,32,115,101,97,114,99,104,32,115,101,99,116,105,111,110,32,115,101,108,101,99,116,32,115,111,117,114,99,101,32,115,116,121,108,101,32,115,117,109,109,97,114,121,32,116,97,98,108,101,32,116,98,111,100,121,32,116,100,32,116,101,109,112,108,97,116,101,32,116,101,120,116,97,114,101,97,32,116,102,111,111,116,32,116,104,32,116,104,101,97,100,32,116,105,116,108,101,32,116,114,32,116,114,97,99,107,32,117,108,32,119,98,114,32,120,109,112,32],S x1] h fun v1 h2=>au v1 fun b3=>cond b3 (Kr true h2) (Kr false h2)) (aO (x5=(2:Int)) (zC 157 [S [32,97,110,110,111,116,97,116,105,111,110,45,120,109,108,32,109,105,32,109,110,32,109,111,32,109,115,32,109,116,101,120,116,32],S x1] h fun v4 h5=>au v4 fun b6=>cond b6 (Kr true h5) (Kr false h5)) (aO (x5=(1:Int)) (zC 157 [S [32,100,101,115,99,32,102,111,114,101,105,103,110,79,98,106,101,99,116,32,116,105,116,108,101,32],S x1] h fun v7 h8=>au v7 fun b9=>cond b9 (Kr true h8) (Kr false h8)) (K1 h)))) fun h=>Kr false h) fun y4 h=>K (.bool y4) h
theorem ok (q:asks x0 x1 K h):zC 162 [.int .u8 x0,S x1] h K:=
 cl Tryz.func162 q (fun p q=>sq p q fun p q=>sc q (fun q=>sq p q fun p q=>bl (b:=0) (sq p q fun p q=>lf p q)) fun p q=>lf p q) fun p q=>rt p q
end Xc1
namespace Xc6
abbrev L0:=[Zr 2]
variable (ao:OA) (aj aq:Nat)
variable (K:KV) (h:H)
abbrev asks:Prop:=cF L0 (fun Kr=>zC 161 [.slice ao aj aq] h fun v1 h2=>Kr v1 h2) fun y2 h=>K y2 h
theorem ok (q:asks ao aj aq K h):zC 178 [.slice ao aj aq] h K:=
 cl Tryz.func178 q (fun p q=>lf p q) fun p q=>rt p q
end Xc6
namespace Xc5
abbrev L0:=[Zb 4]
variable (cz cD:Int) (eA:List UInt8) (eQ:Int) (cf:OA) (bU cu:Nat)
variable (K:KV) (h:H)
abbrev asks:Prop:=cF L0 (fun Kr=>aw h ⟨[.int .i64 cz,.int .u8 cD,S eA,.int .u8 eQ]⟩ 77 fun a1 h2=>zI .u8 h2 (a1.add 1) fun i3=>aO (i3=(0:Int)) (zT h2 (a1.add 2) fun s4=>zC 189 [.slice cf bU cu,S s4] h2 fun v5 h6=>au v5 fun b7=>cond b7 (Kr true h6) (Kr false h6)) (Kr false h2)) fun y4 h=>K (.bool y4) h
theorem ok (q:asks cz cD eA eQ cf bU cu K h):zC 179 [(.agg ⟨[.int .i64 cz,.int .u8 cD,S eA,.int .u8 eQ]⟩),.slice cf bU cu] h K:=
 cl Tryz.func179 q (fun p q=>lf p q) fun p q=>rt p q
end Xc5
namespace Xc4
abbrev L0:=[Zb 4]
variable (x0 x1:List UInt8)
variable (K:KV) (h:H)
abbrev asks:Prop:=cF L0 (fun Kr=>aO (x1=[]) (Kr false h) (zC 199 [S x1,S [32]] h fun v1 h2=>au v1 fun b3=>cond b3 (Kr false h2) ((([32].length+x1.length:Nat):Int)<=9223372036854775807/\(((([32]++x1).length+ [32].length:Nat):Int)<=9223372036854775807/\(zC 199 [S x0,(S (([32]++x1)++ [32]))] h2 fun v4 h5=>au v4 fun b6=>cond b6 (Kr true h5) (Kr false h5)))))) fun y4 h=>K (.bool y4) h
theorem ok (q:asks x0 x1 K h):zC 157 [S x0,S x1] h K:=
 cl Tryz.func157 q (fun p q=>lf p q) fun p q=>rt p q
end Xc4
namespace Xfy
abbrev L0:=[Zr 2]
variable (ao:OA) (aj aq:Nat)
variable (K:KV) (h:H)
abbrev asks:Prop:=cF L0 (fun Kr=>aw h #[.slice ao aj aq] 39 fun a1 h2=>Kr (.func (.func 203) ⟨[]⟩ ⟨[.pointer (some a1)]⟩) h2) fun y2 h=>K y2 h
theorem ok (q:asks ao aj aq K h):zC 161 [.slice ao aj aq] h K:=
 cl Tryz.func161 q (fun p q=>lf p q) fun p q=>rt p q
end Xfy
namespace Xf5
abbrev L0:=[Zb 4]
variable (ao:OA) (aj aq:Nat) (x1:List UInt8)
variable (K:KV) (h:H)
abbrev asks:Prop:=cF L0 (fun Kr=>zC 215 [.slice ao aj aq,S x1] h fun v1 h2=>aL .i64 v1 fun i3=>aO (i3 ≥ 0) (Kr true h2) (Kr false h2)) fun y4 h=>K (.bool y4) h
theorem ok (q:asks ao aj aq x1 K h):zC 189 [.slice ao aj aq,S x1] h K:=
 cl Tryz.func189 q (fun p q=>lf p q) fun p q=>rt p q
end Xf5
namespace Xfw
abbrev L2:=[Zr 0,Za 1,Z6 3]
abbrev L0:List Sl:=[]
abbrev T0:=TK L0
abbrev T2:=TK L2
variable (x0:Value) (x1:Addr)
abbrev mA (Kn Ke0 Kr:T0):T2->T2:=fun K1 x0 x1 x3 h=>aO (x3 ≥ 0) (zS h x1 fun ZB UX s1c=>(0<=x3/\x3<(UX:Int))/\(ae ZB fun a2=>zI .i64 h (((a2.add (Int.toNat x3*4))).add 0) fun i3=>zI .u8 h (((a2.add (Int.toNat x3*4))).add 1) fun i4=>zT h (((a2.add (Int.toNat x3*4))).add 2) fun s5=>zI .u8 h (((a2.add (Int.toNat x3*4))).add 3) fun i6=>fT Tryz.prog 4 x0 ⟨[.int .i64 x3,(.agg ⟨[.int .i64 i3,.int .u8 i4,S s5,.int .u8 i6]⟩)]⟩ h fun v7 h8=>au v7 fun b9=>cond b9 (bc .i64 (x3 - (1:Int))/\(K1 x0 x1 (x3 - (1:Int)) h8)) (Kr h8))) (Ke0 h)
abbrev nv (Kn Ke0 Kr:T0):Nat->T2:=LP L2 (mA Kn Ke0 Kr)
variable (K:KV) (h:H)
abbrev asks (x0:Value) (x1:Addr) (K:KV) (h:H):Prop:=cF L0 (fun Kr=>aB L2 (fun K2=>zS h x1 fun jS jl mW=>bc .i64 ((jl:Int) - 1)/\(K2 x0 x1 ((jl:Int) - 1) h)) fun x0 x1 x3 h=>il L2 (mA Kr Kr Kr) fun K1=>K1 x0 x1 x3 h) fun h=>K (.tuple ⟨[]⟩) h
theorem ok (q:asks x0 x1 K h):zC 203 [x0,.pointer (some x1)] h K:=
 cl Tryz.func203 q (fun p q=>sq (l:=L2) p q fun p q=>bl (b:=0) (lp p q fun p q=>lf p q)) fun p q=>rt p q
end Xfw
namespace Xge
abbrev L2:List Sl:=[]
abbrev L3:=[Zl 0,Zs 1,Z6 7,Z6 8]
abbrev L0:=[Z6 4]
abbrev L1:=[Zl 0,Zs 1]
abbrev T2:=TK L2
abbrev T0:=TK L0
abbrev T3:=TK L3
variable (ao:OA) (aj aq:Nat) (x1:List UInt8)
abbrev bS (Kn Ke0:T2) (Kr:T0):T3->T3:=fun K2 ao aj aq x1 x7 x8 h=>aO (x8<x7) ((0<=x8/\x8<(aj:Int))/\(ae ao fun a1=>zT h (a1.add (Int.toNat x8*1)) fun s2=>aO (x1=s2) (Kr x8 h) (bc .i64 (x8+(1:Int))/\(K2 ao aj aq x1 x7 (x8+(1:Int)) h)))) (Ke0 h)
abbrev cR (Kn Ke0:T2) (Kr:T0):Nat->T3:=LP L3 (bS Kn Ke0 Kr)
variable (K:KV) (h:H)
abbrev asks (ao:OA) (aj aq:Nat) (x1:List UInt8) (K:KV) (h:H):Prop:=cF L0 (fun Kr=>aB L1 (fun K4=>K4 ao aj aq x1 h) fun ao aj aq x1 h=>aB L2 (fun K1=>aB L3 (fun K3=>K3 ao aj aq x1 (aj:Int) 0 h) fun ao aj aq x1 x7 x8 h=>il L3 (bS K1 K1 Kr) fun K2=>K2 ao aj aq x1 x7 x8 h) fun h=>Kr (-1) h) fun y4 h=>K (.int .i64 y4) h
theorem ok (q:asks ao aj aq x1 K h):zC 215 [.slice ao aj aq,S x1] h K:=
 cl Tryz.func215 q (fun p q=>sq (l:=L1) p q fun p q=>sc (l:=L2) q (fun q=>sq (l:=L3) p q fun p q=>bl (b:=0) (lp p q fun p q=>lf p q)) fun p q=>lf p q) fun p q=>rt p q
end Xge
namespace Xn
abbrev L2:List Sl:=[]
abbrev L3:=[Zl 0,Zl 1,Z6 5]
abbrev L0:=[Zb 4]
abbrev L1:=[Zl 0,Zl 1]
abbrev T2:=TK L2
abbrev T0:=TK L0
abbrev T3:=TK L3
variable (ao:OA) (aj aq:Nat) (cf:OA) (bU cu:Nat)
abbrev fg (Kn Ke0:T2) (Kr:T0):T3->T3:=fun K2 ao aj aq cf bU cu x5 h=>aO (x5<(aj:Int)) ((0<=x5/\x5<(aj:Int))/\(ae ao fun a1=>zI .u8 h (((a1.add (Int.toNat x5*6))).add 0) fun i2=>zI .u8 h (((a1.add (Int.toNat x5*6))).add 1) fun i3=>zT h (((a1.add (Int.toNat x5*6))).add 2) fun s4=>zS h (((a1.add (Int.toNat x5*6))).add 3) fun BG zX F9=>zT h (((a1.add (Int.toNat x5*6))).add 4) fun s6=>zS h (((a1.add (Int.toNat x5*6))).add 5) fun yT zY yu=>aw h ⟨[.int .u8 0,.int .u8 0,S [],.slice none 0 0,S [],.slice none 0 0]⟩ 70 fun a8 h9=>aZ a8 [.int .u8 i2,.int .u8 i3,S s4,.slice BG zX F9,S s6,.slice yT zY yu] 0 h9 fun cS=>(0<=x5/\x5<(bU:Int))/\(ae cf fun lk=>zI .u8 cS (((lk.add (Int.toNat x5*6))).add 0) fun i12=>zI .u8 cS (((lk.add (Int.toNat x5*6))).add 1) fun i13=>zT cS (((lk.add (Int.toNat x5*6))).add 2) fun Ce=>zS cS (((lk.add (Int.toNat x5*6))).add 3) fun kR ly oN=>zT cS (((lk.add (Int.toNat x5*6))).add 4) fun Mv=>zS cS (((lk.add (Int.toNat x5*6))).add 5) fun oP mY oQ=>aw cS ⟨[.int .u8 0,.int .u8 0,S [],.slice none 0 0,S [],.slice none 0 0]⟩ 70 fun sS pB=>aZ sS [.int .u8 i12,.int .u8 i13,S Ce,.slice kR ly oN,S Mv,.slice oP mY oQ] 0 pB fun gx=>zI .u8 gx (a8.add 0) fun i21=>zI .u8 gx (sS.add 0) fun i22=>aO (i21=i22) (zI .u8 gx (a8.add 1) fun i23=>zI .u8 gx (sS.add 1) fun i24=>aO (i23=i24) (zT gx (a8.add 2) fun s25=>zT gx (sS.add 2) fun s26=>aO (s25=s26) (zT gx (a8.add 4) fun s27=>zT gx (sS.add 4) fun s28=>aO (s27=s28) (zS gx (a8.add 3) fun DT BD DU=>zS gx (sS.add 3) fun BH BJ DY=>zC 32 [.slice DT BD DU,.slice BH BJ DY] gx fun v31 Ez=>au v31 fun UY=>cond UY (zS Ez (a8.add 5) fun xC xD yU=>zS Ez (sS.add 5) fun UZ U0 U1=>zC 12 [.slice xC xD yU,.slice UZ U0 U1] Ez fun ZC mr=>au ZC fun b38=>cond b38 (bc .i64 (x5+(1:Int))/\(K2 ao aj aq cf bU cu (x5+(1:Int)) mr)) (Kr false mr)) (Kr false Ez)) (Kr false gx)) (Kr false gx)) (Kr false gx)) (Kr false gx)))) (Ke0 h)
abbrev fu (Kn Ke0:T2) (Kr:T0):Nat->T3:=LP L3 (fg Kn Ke0 Kr)
variable (K:KV) (h:H)
abbrev asks (ao:OA) (aj aq:Nat) (cf:OA) (bU cu:Nat) (K:KV) (h:H):Prop:=cF L0 (fun Kr=>aB L1 (fun K5=>K5 ao aj aq cf bU cu h) fun ao aj aq cf bU cu h=>aB L1 (fun K4=>aO ((aj:Int)=(bU:Int)) (K4 ao aj aq cf bU cu h) (Kr false h)) fun ao aj aq cf bU cu h=>aB L2 (fun K1=>aB L3 (fun K3=>K3 ao aj aq cf bU cu 0 h) fun ao aj aq cf bU cu x5 h=>il L3 (fg K1 K1 Kr) fun K2=>K2 ao aj aq cf bU cu x5 h) fun h=>Kr true h) fun y4 h=>K (.bool y4) h
theorem ok (q:asks ao aj aq cf bU cu K h):zC 12 [.slice ao aj aq,.slice cf bU cu] h K:=
 cl Tryz.func12 q (fun p q=>sq (l:=L1) p q fun p q=>sq (l:=L1) p q fun p q=>sc (l:=L2) q (fun q=>sq (l:=L3) p q fun p q=>bl (b:=0) (lp p q fun p q=>lf p q)) fun p q=>lf p q) fun p q=>rt p q
end Xn
namespace Xdl
abbrev L2:List Sl:=[]
abbrev L3:=[Zl 0,Zl 1,Z6 5]
abbrev L0:=[Zb 4]
abbrev L1:=[Zl 0,Zl 1]
abbrev T2:=TK L2
abbrev T0:=TK L0
abbrev T3:=TK L3
variable (ao:OA) (aj aq:Nat) (cf:OA) (bU cu:Nat)
abbrev fg (Kn Ke0:T2) (Kr:T0):T3->T3:=fun K2 ao aj aq cf bU cu x5 h=>aO (x5<(aj:Int)) ((0<=x5/\x5<(aj:Int))/\(ae ao fun a1=>zT h (((a1.add (Int.toNat x5*2))).add 0) fun s2=>zT h (((a1.add (Int.toNat x5*2))).add 1) fun s3=>(0<=x5/\x5<(bU:Int))/\(ae cf fun a4=>zT h (((a4.add (Int.toNat x5*2))).add 0) fun s5=>zT h (((a4.add (Int.toNat x5*2))).add 1) fun s6=>ue Tryz.prog (dX .neq 67 (.tmp 20) (.tmp 24) (.agg ⟨[S s2,S s3]⟩) (.agg ⟨[S s5,S s6]⟩)) h fun v7=>au v7 fun b8=>cond b8 (Kr false h) (bc .i64 (x5+(1:Int))/\(K2 ao aj aq cf bU cu (x5+(1:Int)) h))))) (Ke0 h)
abbrev fu (Kn Ke0:T2) (Kr:T0):Nat->T3:=LP L3 (fg Kn Ke0 Kr)
variable (K:KV) (h:H)
abbrev asks (ao:OA) (aj aq:Nat) (cf:OA) (bU cu:Nat) (K:KV) (h:H):Prop:=cF L0 (fun Kr=>aB L1 (fun K5=>K5 ao aj aq cf bU cu h) fun ao aj aq cf bU cu h=>aB L1 (fun K4=>aO ((aj:Int)=(bU:Int)) (K4 ao aj aq cf bU cu h) (Kr false h)) fun ao aj aq cf bU cu h=>aB L2 (fun K1=>aB L3 (fun K3=>K3 ao aj aq cf bU cu 0 h) fun ao aj aq cf bU cu x5 h=>il L3 (fg K1 K1 Kr) fun K2=>K2 ao aj aq cf bU cu x5 h) fun h=>Kr true h) fun y4 h=>K (.bool y4) h
theorem ok (q:asks ao aj aq cf bU cu K h):zC 32 [.slice ao aj aq,.slice cf bU cu] h K:=
 cl Tryz.func32 q (fun p q=>sq (l:=L1) p q fun p q=>sq (l:=L1) p q fun p q=>sc (l:=L2) q (fun q=>sq (l:=L3) p q fun p q=>bl (b:=0) (lp p q fun p q=>lf p q)) fun p q=>lf p q) fun p q=>rt p q
end Xdl
namespace Xc7
abbrev L0:=[Zp 0]
variable (K:KV) (h:H)
abbrev asks:Prop:=cF L0 (fun Kr=>zC 51 [] h fun v1 h2=>lr v1 fun p3=>aw h2 #[.int .i64 0,.int .u8 0,S [104,116,109,108],.int .u8 0] 77 fun a4 h5=>aw h5 ⟨[.pointer p3,.slice (some a4) 1 1,.slice none 0 0,.bool false,.int .i64 1]⟩ 42 fun a6 h7=>Kr (some a6) h7) fun y0 h=>K (.pointer y0) h
theorem ok (q:asks K h):zC 33 [] h K:=
 cl Tryz.func33 q (fun p q=>lf p q) fun p q=>rt p q
end Xc7
namespace Xdc
abbrev L0:=[Z6 6]
abbrev L5:=[Zp 0,Z8 1,Za 5,Z6 9]
abbrev L4:=[Zp 0,Z8 1,Za 5,Z6 7,Z6 8,Z6 9]
abbrev L3:=[Zp 0,Z8 1,Za 5,Z6 7,Z6 8]
abbrev L2:=[Zp 0,Z8 1,Za 5]
abbrev T0:=TK L0
variable (x0:OA) (x1 nT:Int) (nU:List UInt8) (th:OA) (ti tl:Nat) (nV:Bool) (BK:List UInt8) (x5:Addr) (x9:Int)
abbrev n5 (Kn Kr:T0) (h:H):Prop:=
 ae x0 fun a1=>zS h (a1.add 1) fun ma lx oM=>zT h (x5.add 1) fun s3=>zI .u8 h (x5.add 0) fun i4=>zT h (x5.add 1) fun s5=>zS h (x5.add 2) fun jH gn lj=>zB h (x5.add 3) fun b7=>zT h (x5.add 4) fun s8=>zC 139 [.int .u8 x1,(.agg ⟨[.int .u8 i4,S s5,.slice jH gn lj,.bool b7,S s8]⟩)] h fun v9 cS=>aL .u8 v9 fun i11=>bH h cS/\(aw cS #[.int .i64 x9,.int .u8 x1,S s3,.int .u8 i11] 77 fun a12 fi=>bH cS fi/\(bf Tryz.prog (Builtin.append_ #[39,39] 39 ⟨[.slice ma lx oM,.slice (some a12) 1 1]⟩) fi fun oU fZ=>aA oU fun gQ gR gS=>ae x0 fun oO=>aZ (oO.add 1) [.slice gQ gR gS] 0 fZ fun gO=>ae x0 fun jK=>zI .i64 gO (jK.add 4) fun i20=>ae x0 fun a21=>zS gO (a21.add 1) fun me iI mf=>ae x0 fun a23=>aZ (a23.add 4) [.int .i64 (if(iI:Int)>i20 then(iI:Int) else i20)] 0 gO fun lX=>Kr x9 lX))
variable (K:KV) (h:H)
abbrev asks (x0:OA) (x1 nT:Int) (nU:List UInt8) (th:OA) (ti tl:Nat) (nV:Bool) (BK:List UInt8) (K:KV) (h:H):Prop:=cF L0 (fun Kr=>aB L2 (fun K4=>aw h ⟨[.int .u8 nT,S nU,.slice th ti tl,.bool nV,S BK]⟩ 45 fun Qb U2=>K4 x0 x1 Qb U2) fun x0 x1 x5 h=>aB L3 (fun K3=>zC 55 [.pointer x0] h fun v37 Cf=>lv v37 fun l39=>aH l39 fun e40 l41=>aL .i64 e40 fun i42=>aH l41 fun e43 l44=>aL .u8 e43 fun i45=>aH l44 fun e46 l47=>gU e46 fun s48=>aH l47 fun e49 l50=>aL .u8 e49 fun i51=>dc l50 (zC 54 [.pointer x0,(.agg ⟨[.int .i64 i42,.int .u8 i45,S s48,.int .u8 i51]⟩)] Cf fun ZD Of=>oI ZD fun l54=>aH l54 fun e55 l56=>aL .i64 e55 fun i57=>aH l56 fun e58 l59=>aL .i64 e58 fun i60=>dc l59 (K3 x0 x1 x5 i57 i60 Of))) fun x0 x1 x5 x7 x8 h=>aB L4 (fun K2=>ae x0 fun ET=>zP h (ET.add 0) fun Qc=>zT h (x5.add 1) fun ZE=>zS h (x5.add 2) fun Mw Mx My=>zC 66 [.pointer Qc,(.agg ⟨[.int .u8 1,.int .u8 x1,S ZE,.slice Mw Mx My,S [],.slice none 0 0]⟩)] h fun zt qz=>aL .i64 zt fun i36=>K2 x0 x1 x5 x7 x8 i36 qz) fun x0 x1 x5 x7 x8 x9 h=>aB L5 (fun K1=>ae x0 fun a25=>zP h (a25.add 0) fun Mz=>zC 65 [.pointer Mz,.int .i64 x7,.int .i64 x8,.int .i64 x9] h fun zV lK=>au zV fun I9=>cond I9 (K1 x0 x1 x5 x9 lK) (K1 x0 x1 x5 x9 lK)) fun x0 x1 x5 x9 h=>n5 x0 x1 x5 x9 Kr Kr h) fun y6 h=>K (.int .i64 y6) h
theorem ok (q:asks x0 x1 nT nU th ti tl nV BK K h):zC 64 [.pointer x0,.int .u8 x1,(.agg ⟨[.int .u8 nT,S nU,.slice th ti tl,.bool nV,S BK]⟩)] h K:=
 cl Tryz.func64 q (fun p q=>sq (l:=L2) p q fun p q=>sq (l:=L3) p q fun p q=>sq (l:=L4) p q fun p q=>sq (l:=L5) p q fun p q=>lf p q) fun p q=>rt p q
end Xdc
namespace Xdg
abbrev L0:List Sl:=[]
variable (x0:OA) (x1:List UInt8)
variable (K:KV) (h:H)
abbrev asks:Prop:=cF L0 (fun Kr=>zC 55 [.pointer x0] h fun v1 h2=>lv v1 fun l3=>aH l3 fun e4 l5=>aL .i64 e4 fun i6=>aH l5 fun e7 l8=>aL .u8 e7 fun i9=>aH l8 fun Sc U3=>gU Sc fun j9=>aH U3 fun N4 Qd=>aL .u8 N4 fun i15=>dc Qd (zC 54 [.pointer x0,(.agg ⟨[.int .i64 i6,.int .u8 i9,S j9,.int .u8 i15]⟩)] h2 fun oT fF=>oI oT fun Qe=>aH Qe fun Qf Qg=>aL .i64 Qf fun i21=>aH Qg fun Qh Qi=>aL .i64 Qh fun i24=>dc Qi (ae x0 fun a25=>zP fF (a25.add 0) fun Mz=>zC 56 [.pointer Mz,.int .i64 i21,.int .i64 i24,S x1] fF fun zV lK=>au zV fun I9=>cond I9 (Kr lK) (Kr lK)))) fun h=>K (.tuple ⟨[]⟩) h
theorem ok (q:asks x0 x1 K h):zC 36 [.pointer x0,S x1] h K:=
 cl Tryz.func36 q (fun p q=>lf p q) fun p q=>rt p q
end Xdg
namespace Xc8
abbrev L2:=[Zp 0,Z6 1,Zb 14]
abbrev L0:List Sl:=[]
variable (x0:OA) (x1:Int)
variable (K:KV) (h:H)
abbrev asks (x0:OA) (x1:Int) (K:KV) (h:H):Prop:=cF L0 (fun Kr=>aB L2 (fun K1=>aO (x1 ≥ 1) (ae x0 fun a5=>zS h (a5.add 1) fun jH gn lj=>aO (x1<(gn:Int)) (K1 x0 x1 true h) (K1 x0 x1 false h)) (K1 x0 x1 false h)) fun x0 x1 rY h=>cond rY (ae x0 fun a1=>zS h (a1.add 1) fun ma lx oM=>(0<=(0:Int)/\0<=x1/\x1<=(oM:Int))/\(ae x0 fun a3=>aZ (a3.add 1) [(.slice (if oM=Int.toNat 0 then ma else Option.map (fun q=>q.add (Int.toNat (0:Int)*4)) ma) (Int.toNat x1 - Int.toNat 0) (oM - Int.toNat 0))] 0 h fun h4=>Kr h4)) (Kr h)) fun h=>K (.tuple ⟨[]⟩) h
theorem ok (q:asks x0 x1 K h):zC 57 [.pointer x0,.int .i64 x1] h K:=
 cl Tryz.func57 q (fun p q=>sq p q fun p q=>lf p q) fun p q=>rt p q
end Xc8
namespace Xc9
abbrev L0:=[Za 2]
variable (x0:OA)
variable (K:KV) (h:H)
abbrev asks:Prop:=cF L0 (fun Kr=>aw h ⟨[.int .i64 0,.int .u8 0,S [],.int .u8 0]⟩ 77 fun a1 h2=>ae x0 fun a3=>zS h2 (a3.add 1) fun mB mC sB=>ae x0 fun a5=>zS h2 (a5.add 1) fun jH gn lj=>bc .i64 ((gn:Int) - 1)/\((0<=((gn:Int) - 1)/\((gn:Int) - 1)<(mC:Int))/\(ae mB fun a7=>zI .i64 h2 (((a7.add (Int.toNat ((gn:Int) - 1)*4))).add 0) fun i8=>zI .u8 h2 (((a7.add (Int.toNat ((gn:Int) - 1)*4))).add 1) fun i9=>zT h2 (((a7.add (Int.toNat ((gn:Int) - 1)*4))).add 2) fun pv=>zI .u8 h2 (((a7.add (Int.toNat ((gn:Int) - 1)*4))).add 3) fun i11=>aZ a1 [.int .i64 i8,.int .u8 i9,S pv,.int .u8 i11] 0 h2 fun eM=>Kr a1 eM))) fun y2 h=>zI .i64 h ((y2).add 0) fun i13=>zI .u8 h ((y2).add 1) fun i14=>zT h ((y2).add 2) fun Ep=>zI .u8 h ((y2).add 3) fun i16=>K (.agg ⟨[.int .i64 i13,.int .u8 i14,S Ep,.int .u8 i16]⟩) h
theorem ok (q:asks x0 K h):zC 55 [.pointer x0] h K:=
 cl Tryz.func55 q (fun p q=>lf p q) fun p q=>rt p q
end Xc9
namespace Xdf
abbrev L3:=[Zp 0]
abbrev L2:=[Zp 0,Za 3]
abbrev L0:=[Z6 4,Z6 5]
variable (x0:OA) (dh di:Int) (oK:List UInt8) (nW:Int)
variable (K:KV) (h:H)
abbrev asks (x0:OA) (dh di:Int) (oK:List UInt8) (nW:Int) (K:KV) (h:H):Prop:=cF L0 (fun Kr=>aB L2 (fun K2=>aw h ⟨[.int .i64 dh,.int .u8 di,S oK,.int .u8 nW]⟩ 77 fun tH mq=>K2 x0 tH mq) fun x0 x3 h=>aB L3 (fun K1=>ae x0 fun a21=>zB h (a21.add 3) fun b22=>cond b22 (zI .i64 h (x3.add 0) fun i23=>zI .u8 h (x3.add 1) fun i24=>zT h (x3.add 2) fun s25=>zI .u8 h (x3.add 3) fun i26=>zC 127 [(.agg ⟨[.int .i64 i23,.int .u8 i24,S s25,.int .u8 i26]⟩)] h fun zV lK=>au zV fun I9=>cond I9 (K1 x0 lK) (zI .i64 lK (x3.add 0) fun i30=>Kr i30 (-1) lK)) (zI .i64 h (x3.add 0) fun i31=>Kr i31 (-1) h)) fun x0 h=>ae x0 fun a1=>zS h (a1.add 1) fun ma lx oM=>aw h #[S [116,97,98,108,101]] 9 fun a3 h4=>zC 128 [.slice ma lx oM,.slice (some a3) 1 1] h4 fun v5 h6=>aL .i64 v5 fun i7=>aO (i7<(0:Int)) (Kr 0 (-1) h6) (ae x0 fun a8=>zS h6 (a8.add 1) fun wa uX yV=>(0<=i7/\i7<(uX:Int))/\(ae wa fun jJ=>zI .i64 h6 ((jJ.add (Int.toNat i7*4)).add 0) fun i11=>ae x0 fun a12=>zP h6 (a12.add 0) fun U4=>zC 129 [.pointer U4,.int .i64 i11] h6 fun oU fZ=>aL .i64 oU fun i16=>aO (i16 ≥ 0) (Kr i16 i11 fZ) (ae x0 fun oO=>zS fZ (oO.add 1) fun gL fA fW=>bc .i64 ((if 1>i7 then 1 else i7) - (1:Int))/\((0<=((if 1>i7 then 1 else i7) - (1:Int))/\((if 1>i7 then 1 else i7) - (1:Int))<(fA:Int))/\(ae gL fun jK=>zI .i64 fZ ((jK.add (Int.toNat ((if 1>i7 then 1 else i7) - (1:Int))*4)).add 0) fun i20=>Kr i20 (-1) fZ)))))) fun y4 y5 h=>K (.tuple ⟨[.int .i64 y4,.int .i64 y5]⟩) h
theorem ok (q:asks x0 dh di oK nW K h):zC 54 [.pointer x0,(.agg ⟨[.int .i64 dh,.int .u8 di,S oK,.int .u8 nW]⟩)] h K:=
 cl Tryz.func54 q (fun p q=>sq p q fun p q=>sq p q fun p q=>lf p q) fun p q=>rt p q
end Xdf
namespace JD
abbrev L0:=[Z8 4]
abbrev L4:List Sl:=[]
abbrev L5:=[Zl 32,Z6 33,Z6 34]
abbrev L3:=[Za 3]
abbrev L7:=[Za 3,Zb 17]
abbrev L6:=[Z8 0,Za 3,Zb 8]
abbrev L2:=[Z8 0,Za 3]
abbrev T0:=TK L0
abbrev T4:=TK L4
abbrev T5:=TK L5
abbrev T3:=TK L3
variable (x0 dh:Int) (di:List UInt8) (eZ:OA) (fb fc:Nat) (nW:Bool) (oL:List UInt8) (x3:Addr)
abbrev n4 (Kn Kr:T0) (h:H):Prop:=
 Kr 0 h
abbrev fg (Kn Ke1:T4) (Kr:T0):T5->T5:=fun K2 MA MB Qj Qk MC h=>aO (MC<Qk) ((0<=MC/\MC<(MB:Int))/\(ae MA fun a1=>zT h (((a1.add (Int.toNat MC*2))).add 0) fun s2=>zT h (((a1.add (Int.toNat MC*2))).add 1) fun s3=>aw h ⟨[S [],S []]⟩ 67 fun a4 h5=>aZ a4 [S s2,S s3] 0 h5 fun h6=>zT h6 (a4.add 1) fun s7=>zC 184 [S s7] h6 fun v8 h9=>gU v8 fun pv=>zT h9 (a4.add 0) fun vl=>aO (vl=[101,110,99,111,100,105,110,103]) (aO (pv=[116,101,120,116,47,104,116,109,108]) (Kr 2 h9) (aO (pv=[97,112,112,108,105,99,97,116,105,111,110,47,120,104,116,109,108,43,120,109,108]) (Kr 2 h9) (bc .i64 (MC+(1:Int))/\(K2 MA MB Qj Qk (MC+(1:Int)) h9)))) (bc .i64 (MC+(1:Int))/\(K2 MA MB Qj Qk (MC+(1:Int)) h9)))) (Ke1 h)
abbrev fu (Kn Ke1:T4) (Kr:T0):Nat->T5:=LP L5 (fg Kn Ke1 Kr)
abbrev n3 (Kn Kr:T0) (h:H):Prop:=
 aB L4 (fun K1=>aB L5 (fun K3=>zS h (x3.add 2) fun rO nX rP=>K3 rO nX rP (nX:Int) 0 h) fun MA MB Qj Qk MC h=>il L5 (fg K1 K1 Kr) fun K2=>K2 MA MB Qj Qk MC h) fun h=>n4 Kn Kr h
abbrev uy (x0:Int) (x3:Addr) (Kn Ke0:T3) (Kr:T0) (h:H):Prop:=
 aB L7 (fun K5=>aO (x0=(2:Int)) (zT h (x3.add 1) fun Ce=>zC 162 [.int .u8 x0,S Ce] h fun tN gX=>au tN fun S7=>cond S7 (K5 x3 false gX) (K5 x3 true gX)) (K5 x3 true h)) fun x3 ZF h=>cond ZF (Kr 0 h) (zT h (x3.add 1) fun Rn=>aO (Rn=[97,110,110,111,116,97,116,105,111,110,45,120,109,108]) (Kn x3 h) (Kr 1 h))
variable (K:KV) (h:H)
abbrev asks (x0 dh:Int) (di:List UInt8) (eZ:OA) (fb fc:Nat) (nW:Bool) (oL:List UInt8) (K:KV) (h:H):Prop:=cF L0 (fun Kr=>aB L2 (fun K7=>aw h ⟨[.int .u8 dh,S di,.slice eZ fb fc,.bool nW,S oL]⟩ 45 fun a22 qD=>K7 x0 a22 qD) fun x0 x3 h=>aB L3 (fun K4=>aB L6 (fun K6=>aO (x0=(1:Int)) (zT h (x3.add 1) fun R9=>zC 162 [.int .u8 x0,S R9] h fun xA gx=>au xA fun ZG=>cond ZG (K6 x0 x3 true gx) (K6 x0 x3 false gx)) (K6 x0 x3 false h)) fun x0 x3 x8 h=>cond x8 (Kr 2 h) (uy x0 x3 K4 K4 Kr h)) fun x3 h=>n3 x3 Kr Kr h) fun y4 h=>K (.int .u8 y4) h
theorem ok (q:asks x0 dh di eZ fb fc nW oL K h):zC 139 [.int .u8 x0,(.agg ⟨[.int .u8 dh,S di,.slice eZ fb fc,.bool nW,S oL]⟩)] h K:=
 cl Tryz.func139 q (fun p q=>sq (l:=L2) p q fun p q=>sc (l:=L3) q (fun q=>bl (b:=0) (sq (l:=L6) p q fun p q=>cn (i:=8) p q (fun p q=>lf p q) fun p q=>sq (l:=L7) p q fun p q=>lf p q)) fun p q=>sc (l:=L4) q (fun q=>sq (l:=L5) p q fun p q=>bl (b:=1) (lp p q fun p q=>lf p q)) fun p q=>lf p q) fun p q=>rt p q
end JD
namespace Xdh
abbrev L3:List Sl:=[]
abbrev L5:=[Za 1,Zb 5]
abbrev L6:=[Za 1,Zs 4,Zb 5]
abbrev L4:=[Za 1,Zs 4]
abbrev L2:=[Za 1]
abbrev L0:=[Zb 2]
variable (cz cD:Int) (eA:List UInt8) (eQ:Int)
variable (K:KV) (h:H)
abbrev asks:Prop:=cF L0 (fun Kr=>aB L2 (fun K5=>aw h ⟨[.int .i64 cz,.int .u8 cD,S eA,.int .u8 eQ]⟩ 77 fun a3 h4=>K5 a3 h4) fun x1 h=>aB L3 (fun K1=>aB L4 (fun K4=>zT h (x1.add 2) fun s2=>K4 x1 s2 h) fun x1 x4 h=>aB L5 (fun K2=>aB L6 (fun K3=>aO (x4=[116,97,98,108,101]) (K3 x1 x4 true h) (K3 x1 x4 false h)) fun x1 x4 x5 h=>cond x5 (K2 x1 x5 h) (aO (x4=[116,98,111,100,121]) (K2 x1 true h) (aO (x4=[116,102,111,111,116]) (K2 x1 true h) (aO (x4=[116,104,101,97,100]) (K2 x1 true h) (aO (x4=[116,114]) (K2 x1 true h) (K2 x1 false h)))))) fun x1 x5 h=>cond x5 (zI .u8 h (x1.add 1) fun i1=>aO (i1=(0:Int)) (Kr true h) (Kr false h)) (K1 h)) fun h=>Kr false h) fun y2 h=>K (.bool y2) h
theorem ok (q:asks cz cD eA eQ K h):zC 127 [(.agg ⟨[.int .i64 cz,.int .u8 cD,S eA,.int .u8 eQ]⟩)] h K:=
 cl Tryz.func127 q (fun p q=>sq p q fun p q=>sc q (fun q=>sq p q fun p q=>bl (b:=0) (sc q (fun q=>sq p q fun p q=>lf p q) fun p q=>lf p q)) fun p q=>lf p q) fun p q=>rt p q
end Xdh
namespace ZH
abbrev L0:=[Zs 2]
abbrev L2:=[Zl 3]
abbrev L3:=[Zl 3,Zl 8,Z6 9,Z6 10]
abbrev L1:=[Zs 0]
abbrev T0:=TK L0
abbrev T2:=TK L2
abbrev T3:=TK L3
variable (x0:List UInt8) (jU:OA) (jL ko:Nat)
abbrev n4 (Kn Kr:T0) (h:H):Prop:=
 bf Tryz.prog (convert 176 9 (.slice jU jL ko)) h fun v1 h2=>gU v1 fun s3=>Kr s3 h2
abbrev fg (Kn Ke0:T2) (Kr:T0):T3->T3:=fun K2 jU jL ko x8b x8n x8c x9 bD h=>aO (bD<x9) ((0<=bD/\bD<(x8n:Int))/\(ae x8b fun a4=>zI .u8 h (a4.add (Int.toNat bD*1)) fun i5=>zC 212 [.int .u8 i5] h fun v6 h7=>aL .u8 v6 fun i8=>(0<=bD/\bD<(jL:Int))/\(ae jU fun a9=>aZ (a9.add (Int.toNat bD*1)) [.int .u8 i8] 0 h7 fun cS=>bc .i64 (bD+(1:Int))/\(K2 jU jL ko x8b x8n x8c x9 (bD+(1:Int)) cS)))) (Ke0 jU jL ko h)
abbrev fu (Kn Ke0:T2) (Kr:T0):Nat->T3:=LP L3 (fg Kn Ke0 Kr)
variable (K:KV) (h:H)
abbrev asks (x0:List UInt8) (K:KV) (h:H):Prop:=cF L0 (fun Kr=>aB L1 (fun K5=>K5 x0 h) fun x0 h=>aB L2 (fun K4=>bf Tryz.prog (convert 9 176 (S x0)) h fun v11 eM=>aA v11 fun jT jD lD=>K4 jT jD lD eM) fun jU jL ko h=>aB L2 (fun K1=>aB L3 (fun K3=>K3 jU jL ko jU jL ko (jL:Int) 0 h) fun jU jL ko x8b x8n x8c x9 bD h=>il L3 (fg K1 K1 Kr) fun K2=>K2 jU jL ko x8b x8n x8c x9 bD h) fun jU jL ko h=>n4 jU jL ko Kr Kr h) fun y2 h=>K (S y2) h
theorem ok (q:asks x0 K h):zC 184 [S x0] h K:=
 cl Tryz.func184 q (fun p q=>sq (l:=L1) p q fun p q=>sq (l:=L2) p q fun p q=>sc (l:=L2) q (fun q=>sq (l:=L3) p q fun p q=>bl (b:=0) (lp p q fun p q=>lf p q)) fun p q=>lf p q) fun p q=>rt p q
end ZH
namespace Xal
abbrev L0:=[Z8 2]
variable (x0:Int)
variable (K:KV) (h:H)
abbrev asks:Prop:=cF L0 (fun Kr=>aO (x0 ≥ 65) (aO (x0<=(90:Int)) (Kr (bits .or .u8 x0 32) h) (Kr x0 h)) (Kr x0 h)) fun y2 h=>K (.int .u8 y2) h
theorem ok (q:asks x0 K h):zC 212 [.int .u8 x0] h K:=
 cl Tryz.func212 q (fun p q=>lf p q) fun p q=>rt p q
end Xal
namespace Xan
abbrev L0:=[Z6 4]
variable (x0:OA) (x1:Int)
variable (K:KV) (h:H)
abbrev asks:Prop:=cF L0 (fun Kr=>zC 48 [.pointer x0,.int .i64 x1] h fun v1 h2=>lr v1 fun p3=>bf Tryz.prog (dX .eql 80 (.tmp 9) (.const (.pointer none)) (.pointer p3) (.pointer none)) h2 fun v4 h5=>au v4 fun b6=>cond b6 (Kr (-1) h5) (ae p3 fun a7=>zI .u8 h5 (((a7.add 0)).add 0) fun i8=>zI .u8 h5 (((a7.add 0)).add 1) fun i9=>zT h5 (((a7.add 0)).add 2) fun pv=>zS h5 (((a7.add 0)).add 3) fun mX lz mg=>zT h5 (((a7.add 0)).add 4) fun j9=>zS h5 (((a7.add 0)).add 5) fun jT jD lD=>zC 66 [.pointer x0,(.agg ⟨[.int .u8 i8,.int .u8 i9,S pv,.slice mX lz mg,S j9,.slice jT jD lD]⟩)] h5 fun oU fZ=>aL .i64 oU fun i16=>Kr i16 fZ)) fun y4 h=>K (.int .i64 y4) h
theorem ok (q:asks x0 x1 K h):zC 238 [.pointer x0,.int .i64 x1] h K:=
 cl Tryz.func238 q (fun p q=>lf p q) fun p q=>rt p q
end Xan
namespace TN
abbrev L0:=[Zb 6]
abbrev L4:=[Zp 7,Zp 8]
abbrev L5:=[Zp 0,Z6 2,Zp 7,Zp 8,Zl 40,Z6 41,Z6 42]
abbrev L3:=[Zp 0,Z6 2,Zp 7,Zp 8]
abbrev L2:=[Zp 0,Z6 1,Z6 2,Zp 7,Zp 8]
abbrev L1:=[Zp 0,Z6 1,Z6 2]
abbrev T0:=TK L0
abbrev T4:=TK L4
abbrev T5:=TK L5
variable (x0:OA) (x1 x2:Int) (x7 x8:OA)
abbrev n5 (Kn Kr:T0) (h:H):Prop:=
 ae x8 fun a1=>zS h (a1.add 7) fun ma lx oM=>ae x7 fun a3=>zS h (a3.add 7) fun mB mC sB=>bf Tryz.prog (Builtin.append_ #[82,82] 82 ⟨[.slice ma lx oM,.slice mB mC sB]⟩) h fun v5 h6=>aA v5 fun yT zY yu=>ae x8 fun a8=>aZ (a8.add 7) [.slice yT zY yu] 0 h6 fun h9=>ae x7 fun jJ=>aZ (jJ.add 7) [.slice none 0 0] 0 h9 fun eF=>Kr true eF
abbrev ix (Kn Ke0:T4) (Kr:T0):T5->T5:=fun K2 x0 x2 x7 x8 Ql Qm U5 DZ EB h=>aO (EB<DZ) ((0<=EB/\EB<(Qm:Int))/\(ae Ql fun a12=>zI .i64 h (a12.add (Int.toNat EB*1)) fun i13=>ae x0 fun lS=>zS h (lS.add 0) fun kR ly oN=>(0<=i13/\i13<(ly:Int))/\(ae kR fun pM=>zP h (pM.add (Int.toNat i13*1)) fun p17=>ae p17 fun sS=>aZ (sS.add 6) [.int .i64 x2] 0 h fun pB=>bc .i64 (EB+(1:Int))/\(K2 x0 x2 x7 x8 Ql Qm U5 DZ (EB+(1:Int)) pB)))) (Ke0 x7 x8 h)
abbrev gJ (Kn Ke0:T4) (Kr:T0):Nat->T5:=LP L5 (ix Kn Ke0 Kr)
variable (K:KV) (h:H)
abbrev asks (x0:OA) (x1 x2:Int) (K:KV) (h:H):Prop:=cF L0 (fun Kr=>aB L1 (fun K6=>K6 x0 x1 x2 h) fun x0 x1 x2 h=>aB L2 (fun K5=>zC 48 [.pointer x0,.int .i64 x1] h fun Sd zZ=>lr Sd fun p35=>zC 130 [.pointer x0,.int .i64 x2] zZ fun ZC mr=>lr ZC fun ZI=>K5 x0 x1 x2 p35 ZI mr) fun x0 x1 x2 x7 x8 h=>aB L3 (fun K4=>bf Tryz.prog (dX .eql 80 (.tmp 17) (.const (.pointer none)) (.pointer x7) (.pointer none)) h fun v22 qD=>au v22 fun b24=>cond b24 (Kr false qD) (bf Tryz.prog (dX .eql 80 (.tmp 20) (.const (.pointer none)) (.pointer x8) (.pointer none)) qD fun v25 oC=>au v25 fun ZJ=>cond ZJ (Kr false oC) (ae x7 fun a28=>zS oC (a28.add 7) fun DT BD DU=>aO ((BD:Int)=0) (Kr false oC) (zC 140 [.pointer x0,.int .i64 x2,.int .i64 x1] oC fun v30 yj=>au v30 fun b32=>cond b32 (Kr false yj) (K4 x0 x2 x7 x8 yj))))) fun x0 x2 x7 x8 h=>aB L4 (fun K1=>aB L5 (fun K3=>ae x7 fun a20=>zS h (a20.add 7) fun xE vD xF=>K3 x0 x2 x7 x8 xE vD xF (vD:Int) 0 h) fun x0 x2 x7 x8 Ql Qm U5 DZ EB h=>il L5 (ix K1 K1 Kr) fun K2=>K2 x0 x2 x7 x8 Ql Qm U5 DZ EB h) fun x7 x8 h=>n5 x7 x8 Kr Kr h) fun y6 h=>K (.bool y6) h
theorem ok (q:asks x0 x1 x2 K h):zC 239 [.pointer x0,.int .i64 x1,.int .i64 x2] h K:=
 cl Tryz.func239 q (fun p q=>sq (l:=L1) p q fun p q=>sq (l:=L2) p q fun p q=>sq (l:=L3) p q fun p q=>sc (l:=L4) q (fun q=>sq (l:=L5) p q fun p q=>bl (b:=0) (lp p q fun p q=>lf p q)) fun p q=>lf p q) fun p q=>rt p q
end TN
end Go.Proofs
