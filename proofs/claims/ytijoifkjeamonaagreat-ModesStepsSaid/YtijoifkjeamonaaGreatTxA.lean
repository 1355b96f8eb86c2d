/- Own text. No condition. -/
import Derived.Test.YtijoifkjeamonaaGreatHc
import Derived.Test.YtijoifkjeamonaaGreatShR
import Derived.Test.YtijoifkjeamonaaGreatProg
namespace Go.Proofs
open Go Go.Sh
set_option linter.unusedVariables false
set_option maxRecDepth 100000
namespace Xar
abbrev L0:=[Z6 4]
variable (x0:OA) (x1:Int)
variable (K:KV) (h:H)
abbrev asks:Prop:=cF L0 (fun Kr=>zC 48 [.pointer x0,.int .i64 x1] h fun v1 h2=>kt v1 fun p3=>aZ Tryz.prog (dy .eql 80 (.tmp 9) (.const (.pointer none)) (.pointer p3) (.pointer none)) h2 fun v4 h5=>au v4 fun b6=>cond b6 (Kr (-1) h5) (ae p3 fun a7=>zI .i64 h5 (a7.add 6) fun i8=>Kr i8 h5)) fun y4 h=>K (.int .i64 y4) h
theorem ok (q:asks x0 x1 K h):zC 129 [.pointer x0,.int .i64 x1] h K:=
 cl Tryz.func129 q (fun p q=>lf p q) fun p q=>rt p q
end Xar
namespace Xam
abbrev L0:=[Zp 0]
variable (K:KV) (h:H)
abbrev asks:Prop:=cF L0 (fun Kr=>aw h ⟨[.int .u8 0,.int .u8 0,S [],.slice none 0 0,S [],.slice none 0 0,.int .i64 (-1),.slice none 0 0]⟩ 84 fun a1 h2=>aw h2 #[.pointer (some a1)] 80 fun a3 h4=>aw h4 ⟨[.slice (some a3) 1 1]⟩ 87 fun a5 h6=>Kr (some a5) h6) fun y0 h=>K (.pointer y0) h
theorem ok (q:asks K h):zC 51 [] h K:=
 cl Tryz.func51 q (fun p q=>lf p q) fun p q=>rt p q
end Xam
namespace XH
abbrev L0:=[Z6 4]
abbrev L2:=[Zp 0,Za 3]
abbrev L5:=[Zp 0,Za 3,Zb 19]
abbrev L4:=[Zp 0,Za 3,Z8 6,Zb 7]
abbrev L3:=[Zp 0,Za 3,Z8 6]
abbrev T0:=TK L0
abbrev T2:=TK L2
variable (x0:OA) (dh di:Int) (ov:List UInt8) (uI:OA) (uJ uK:Nat) (ox:List UInt8) (uL:OA) (uM uN:Nat) (x3:Addr) (pZ:Bool)
abbrev n3 (Kn Kr:T0) (h:H):Prop:=
 ae x0 fun a1=>zS h (a1.add 0) fun lN kW oy=>zI .u8 h (x3.add 0) fun i3=>zI .u8 h (x3.add 1) fun i4=>zT h (x3.add 2) fun s5=>zS h (x3.add 3) fun lO gV mM=>zT h (x3.add 4) fun s7=>zS h (x3.add 5) fun rT rJ vq=>aw h ⟨[.int .u8 i3,.int .u8 i4,S s5,.slice lO gV mM,S s7,.slice rT rJ vq,.int .i64 (-1),.slice none 0 0]⟩ 84 fun a9 df=>bG h df/\(aw df #[.pointer (some a9)] 80 fun jC eL=>bG df eL/\(aZ Tryz.prog (Builtin.append_ #[85,85] 85 ⟨[.slice lN kW oy,.slice (some jC) 1 1]⟩) eL fun mu dx=>aB mu fun kH kX oz=>ae x0 fun pv=>bc (pv.add 0) [.slice kH kX oz] 0 dx fun fh=>ae x0 fun sJ=>zS fh (sJ.add 0) fun qw pw pz=>bd .i64 ((pw:Int) - 1)/\(Kr ((pw:Int) - 1) fh)))
abbrev rZ (Kn Ke0:T2) (Kr:T0) (h:H):Prop:=
 cond pZ (zI .u8 h (x3.add 0) fun i28=>zT h (x3.add 4) fun ZX=>bc x3 [.int .u8 i28,.int .u8 0,S [],.slice none 0 0,S ZX,.slice none 0 0] 0 h fun u3=>Kn x0 x3 u3) (Kr (-1) h)
variable (K:KV) (h:H)
abbrev asks (x0:OA) (dh di:Int) (ov:List UInt8) (uI:OA) (uJ uK:Nat) (ox:List UInt8) (uL:OA) (uM uN:Nat) (K:KV) (h:H):Prop:=cF L0 (fun Kr=>aA L2 (fun K5=>aw h ⟨[.int .u8 dh,.int .u8 di,S ov,.slice uI uJ uK,S ox,.slice uL uM uN]⟩ 70 fun tw lW=>K5 x0 tw lW) fun x0 x3 h=>aA L2 (fun K1=>aA L3 (fun K4=>zI .u8 h (x3.add 0) fun i31=>K4 x0 x3 i31 h) fun x0 x3 x6 h=>aA L4 (fun K3=>aM (x6=(1:Int)) (K3 x0 x3 x6 true h) (K3 x0 x3 x6 false h)) fun x0 x3 x6 x7 h=>cond x7 (zI .u8 h (x3.add 0) fun i20=>zI .u8 h (x3.add 1) fun i21=>zT h (x3.add 2) fun UQ=>zS h (x3.add 3) fun vu sR vz=>zC 49 [.slice vu sR vz] h fun v24 iF=>aB v24 fun AQ AR AT=>bG h iF/\(bc x3 [.int .u8 i20,.int .u8 i21,S UQ,.slice AQ AR AT,S [],.slice none 0 0] 0 iF fun CH=>K1 x0 x3 CH)) (aA L5 (fun K2=>aM (x6=(2:Int)) (K2 x0 x3 true h) (aM (x6=(3:Int)) (K2 x0 x3 true h) (K2 x0 x3 false h))) fun x0 x3 pZ h=>rZ x0 x3 pZ K1 K1 Kr h)) fun x0 x3 h=>n3 x0 x3 Kr Kr h) fun y4 h=>K (.int .i64 y4) h
theorem ok (q:asks x0 dh di ov uI uJ uK ox uL uM uN K h):zC 66 [.pointer x0,(.agg ⟨[.int .u8 dh,.int .u8 di,S ov,.slice uI uJ uK,S ox,.slice uL uM uN]⟩)] h K:=
 cl Tryz.func66 q (fun p q=>sq (l:=L2) p q fun p q=>sc (l:=L2) q (fun q=>sq (l:=L3) p q fun p q=>bl (b:=0) (sq (l:=L4) p q fun p q=>cn (i:=7) p q (fun p q=>lf p q) fun p q=>sq (l:=L5) p q fun p q=>lf p q)) fun p q=>lf p q) fun p q=>rt p q
end XH
namespace Xas
abbrev L0:=[Zb 8]
abbrev L3:=[Z6 1,Z6 2,Z6 3,Zp 9,Zp 10]
abbrev L2:=[Zp 0,Z6 1,Z6 2,Z6 3,Zp 9,Zp 10]
abbrev L1:=[Zp 0,Z6 1,Z6 2,Z6 3]
abbrev T0:=TK L0
variable (x0:OA) (x1 x2 x3:Int) (x9 bD:OA)
abbrev n5 (Kn Kr:T0) (h:H):Prop:=
 (ae x9 fun a1=>zS h (a1.add 7) fun lN kW oy=>zC 131 [.pointer x9,.int .i64 x2] h fun v3 h4=>aL .i64 v3 fun i5=>bG h h4/\(aw h4 #[.int .i64 x3] 3 fun a6 h7=>bG h4 h7/\(zC 142 [.slice lN kW oy,.int .i64 i5,.slice (some a6) 1 1] h7 fun v8 h9=>aB v8 fun jf iD kY=>ae x9 fun jC=>bc (jC.add 7) [.slice jf iD kY] 0 h9 fun eL=>ae bD fun oE=>bc (oE.add 6) [.int .i64 x1] 0 eL fun dx=>Kr true dx)))/\(ae x9 fun oF=>zS h (oF.add 7) fun hU hX hZ=>aw h #[.int .i64 x3] 3 fun nE gI=>bG h gI/\(zC 131 [.pointer x9,.int .i64 x2] gI fun xv gm=>aL .i64 xv fun i21=>bG gI gm/\(zC 142 [.slice hU hX hZ,.int .i64 i21,.slice (some nE) 1 1] gm fun v22 qu=>aB v22 fun F4 F5 My=>ae x9 fun a25=>bc (a25.add 7) [.slice F4 F5 My] 0 qu fun od=>ae bD fun yp=>bc (yp.add 6) [.int .i64 x1] 0 od fun lY=>Kr true lY)))
variable (K:KV) (h:H)
abbrev asks (x0:OA) (x1 x2 x3:Int) (K:KV) (h:H):Prop:=cF L0 (fun Kr=>aA L1 (fun K4=>K4 x0 x1 x2 x3 h) fun x0 x1 x2 x3 h=>aA L2 (fun K3=>zC 130 [.pointer x0,.int .i64 x1] h fun I8 uO=>kt I8 fun p46=>zC 48 [.pointer x0,.int .i64 x3] uO fun UR DT=>kt UR fun p49=>K3 x0 x1 x2 x3 p46 p49 DT) fun x0 x1 x2 x3 x9 bD h=>aA L2 (fun K2=>aZ Tryz.prog (dy .eql 80 (.tmp 17) (.const (.pointer none)) (.pointer x9) (.pointer none)) h fun B0 lW=>au B0 fun US=>cond US (Kr false lW) (aZ Tryz.prog (dy .eql 80 (.tmp 20) (.const (.pointer none)) (.pointer bD) (.pointer none)) lW fun Kj uq=>au Kj fun b37=>cond b37 (Kr false uq) (aM (x3=(0:Int)) (Kr false uq) (aM (x2=x3) (Kr false uq) (zC 131 [.pointer x9,.int .i64 x2] uq fun Mz yq=>aL .i64 Mz fun i40=>aM (i40<(0:Int)) (Kr false yq) (zC 140 [.pointer x0,.int .i64 x1,.int .i64 x3] yq fun ZY I9=>au ZY fun b43=>cond b43 (Kr false I9) (K2 x0 x1 x2 x3 x9 bD I9))))))) fun x0 x1 x2 x3 x9 bD h=>aA L3 (fun K1=>zC 141 [.pointer x0,.int .i64 x3] h fun Od u3=>au Od fun b31=>cond b31 (K1 x1 x2 x3 x9 bD u3) (K1 x1 x2 x3 x9 bD u3)) fun x1 x2 x3 x9 bD h=>n5 x1 x2 x3 x9 bD Kr Kr h) fun y8 h=>K (.bool y8) h
theorem ok (q:asks x0 x1 x2 x3 K h):zC 65 [.pointer x0,.int .i64 x1,.int .i64 x2,.int .i64 x3] h K:=
 cl Tryz.func65 q (fun p q=>sq (l:=L1) p q fun p q=>sq (l:=L2) p q fun p q=>sq (l:=L2) p q fun p q=>sq (l:=L3) p q fun p q=>lf p q) fun p q=>rt p q
end Xas
namespace Xau
abbrev L0:=[Zb 8]
abbrev L1:=[Zp 0,Z6 1,Z6 2,Zs 3]
abbrev L4:=[Zp 0,Z6 1,Z6 2,Zs 3,Zp 9,Z6 10,Zb 29]
abbrev L3:=[Zp 0,Z6 1,Z6 2,Zs 3,Zp 9,Z6 10]
abbrev L2:=[Zp 0,Z6 1,Z6 2,Zs 3,Zp 9]
abbrev T0:=TK L0
variable (x0:OA) (x1 x2:Int) (x3:List UInt8)
abbrev n6 (Kn Kr:T0) (h:H):Prop:=
 zC 66 [.pointer x0,(.agg ⟨[.int .u8 2,.int .u8 0,S [],.slice none 0 0,S x3,.slice none 0 0]⟩)] h fun v1 h2=>aL .i64 v1 fun i3=>zC 65 [.pointer x0,.int .i64 x1,.int .i64 x2,.int .i64 i3] h2 fun v4 h5=>au v4 fun b6=>cond b6 (Kr true h5) (Kr false h5)
variable (K:KV) (h:H)
abbrev asks (x0:OA) (x1 x2:Int) (x3:List UInt8) (K:KV) (h:H):Prop:=cF L0 (fun Kr=>aA L1 (fun K7=>K7 x0 x1 x2 x3 h) fun x0 x1 x2 x3 h=>aA L2 (fun K6=>zC 130 [.pointer x0,.int .i64 x1] h fun v30 yh=>kt v30 fun p32=>K6 x0 x1 x2 x3 p32 yh) fun x0 x1 x2 x3 x9 h=>aA L2 (fun K5=>aZ Tryz.prog (dy .eql 80 (.tmp 15) (.const (.pointer none)) (.pointer x9) (.pointer none)) h fun v24 iF=>au v24 fun UT=>cond UT (Kr false iF) (zC 131 [.pointer x9,.int .i64 x2] iF fun zY lY=>aL .i64 zY fun i29=>aM (i29<(0:Int)) (Kr false lY) (K5 x0 x1 x2 x3 x9 lY))) fun x0 x1 x2 x3 x9 h=>aA L2 (fun K4=>aM (x3=[]) (Kr true h) (K4 x0 x1 x2 x3 x9 h)) fun x0 x1 x2 x3 x9 h=>aA L1 (fun K1=>aA L3 (fun K3=>zC 131 [.pointer x9,.int .i64 x2] h fun v21 mB=>aL .i64 v21 fun i23=>K3 x0 x1 x2 x3 x9 i23 mB) fun x0 x1 x2 x3 x9 bD h=>aA L4 (fun K2=>aM (bD>(0:Int)) (K2 x0 x1 x2 x3 x9 bD true h) (K2 x0 x1 x2 x3 x9 bD false h)) fun x0 x1 x2 x3 x9 bD zZ h=>cond zZ (ae x0 fun a7=>zS h (a7.add 0) fun rT rJ vq=>ae x9 fun a9=>zS h (a9.add 7) fun jf iD kY=>bd .i64 (bD - (1:Int))/\((0<=(bD - (1:Int))/\(bD - (1:Int))<(iD:Int))/\(ae jf fun jC=>zI .i64 h (jC.add (Int.toNat (bD - (1:Int))*1)) fun i12=>(0<=i12/\i12<(rJ:Int))/\(ae rT fun oE=>zP h (oE.add (Int.toNat i12*1)) fun Qd=>ae Qd fun oF=>zI .u8 h ((oF.add 0).add 0) fun i16=>aM (i16=(2:Int)) (ae Qd fun nE=>zT h ((nE.add 0).add 4) fun Sr=>((Sr.length+x3.length:Nat):Int)<=9223372036854775807/\(ae Qd fun jh=>bc ((jh.add 0).add 4) [(S (Sr++x3))] 0 h fun gm=>Kr true gm)) (K1 x0 x1 x2 x3 h))))) (K1 x0 x1 x2 x3 h)) fun x0 x1 x2 x3 h=>n6 x0 x1 x2 x3 Kr Kr h) fun y8 h=>K (.bool y8) h
theorem ok (q:asks x0 x1 x2 x3 K h):zC 56 [.pointer x0,.int .i64 x1,.int .i64 x2,S x3] h K:=
 cl Tryz.func56 q (fun p q=>sq (l:=L1) p q fun p q=>sq (l:=L2) p q fun p q=>sq (l:=L2) p q fun p q=>sq (l:=L2) p q fun p q=>sc (l:=L1) q (fun q=>sq (l:=L3) p q fun p q=>sq (l:=L4) p q fun p q=>lf p q) fun p q=>lf p q) fun p q=>rt p q
end Xau
namespace Xax
abbrev L0:=[Zp 4]
variable (x0:OA) (x1:Int)
variable (K:KV) (h:H)
abbrev asks:Prop:=cF L0 (fun Kr=>aM (x1<(0:Int)) (Kr none h) (ae x0 fun a1=>zS h (a1.add 0) fun lN kW oy=>aM (x1 ≥ (kW:Int)) (Kr none h) (ae x0 fun a3=>zS h (a3.add 0) fun oe oI uP=>(0<=x1/\x1<(oI:Int))/\(ae oe fun a5=>zP h (a5.add (Int.toNat x1*1)) fun p6=>Kr p6 h)))) fun y4 h=>K (.pointer y4) h
theorem ok (q:asks x0 x1 K h):zC 48 [.pointer x0,.int .i64 x1] h K:=
 cl Tryz.func48 q (fun p q=>lf p q) fun p q=>rt p q
end Xax
namespace Xfw
abbrev L0:=[Zl 2]
variable (ao:OA) (aj aq:Nat)
variable (K:KV) (h:H)
abbrev asks:Prop:=cF L0 (fun Kr=>aZ Tryz.prog (dy .eql 43 (.tmp 3) (.const (.slice none 0 0)) (.slice ao aj aq) (.slice none 0 0)) h fun v1 h2=>au v1 fun b3=>cond b3 (Kr none 0 0 h2) (aw h2 #[] 67 fun a4 h5=>aZ Tryz.prog (Builtin.append_ #[43,43] 43 ⟨[.slice (some a4) 0 0,.slice ao aj aq]⟩) h5 fun v6 h7=>aB v6 fun rT rJ vq=>Kr rT rJ vq h7)) fun qj qk ql h=>K (.slice qj qk ql) h
theorem ok (q:asks ao aj aq K h):zC 49 [.slice ao aj aq] h K:=
 cl Tryz.func49 q (fun p q=>lf p q) fun p q=>rt p q
end Xfw
namespace Xay
abbrev L0:=[Zp 4]
variable (x0:OA) (x1:Int)
variable (K:KV) (h:H)
abbrev asks:Prop:=cF L0 (fun Kr=>zC 48 [.pointer x0,.int .i64 x1] h fun v1 h2=>kt v1 fun p3=>aZ Tryz.prog (dy .eql 80 (.tmp 9) (.const (.pointer none)) (.pointer p3) (.pointer none)) h2 fun v4 h5=>au v4 fun b6=>cond b6 (Kr none h5) (aM (x1>(0:Int)) (ae p3 fun a7=>zI .u8 h5 ((a7.add 0).add 0) fun i8=>aM (i8=(1:Int)) (Kr p3 h5) (Kr none h5)) (Kr p3 h5))) fun y4 h=>K (.pointer y4) h
theorem ok (q:asks x0 x1 K h):zC 130 [.pointer x0,.int .i64 x1] h K:=
 cl Tryz.func130 q (fun p q=>lf p q) fun p q=>rt p q
end Xay
namespace Xa0
abbrev L0:=[Z6 4]
variable (x0:OA) (x1:Int)
variable (K:KV) (h:H)
abbrev asks:Prop:=cF L0 (fun Kr=>aM (x1=(-1:Int)) (ae x0 fun a1=>zS h (a1.add 7) fun lN kW oy=>Kr (kW:Int) h) (ae x0 fun a3=>zS h (a3.add 7) fun oe oI uP=>zC 180 [.slice oe oI uP,.int .i64 x1] h fun v5 h6=>aL .i64 v5 fun i7=>Kr i7 h6)) fun y4 h=>K (.int .i64 y4) h
theorem ok (q:asks x0 x1 K h):zC 131 [.pointer x0,.int .i64 x1] h K:=
 cl Tryz.func131 q (fun p q=>lf p q) fun p q=>rt p q
end Xa0
namespace Xaz
abbrev L0:=[Za 6]
abbrev L3:=[Za 5,Za 6,Zr 10]
abbrev L2:=[Zp 0,Z6 1,Za 5,Za 6]
abbrev T0:=TD L0
def Sc (x5 x6:Addr) (bD:Value) (ds:List Deferred) (Kn Ke0 Kr:T0) (h:H) (Fq:Int) (Mid:H->(H->Prop)->Prop) (Kc:H->H->Prop) (Fin:H->H->(H->Prop)->Prop) (h1:H):Prop:=
 Mid h1 fun ZZ=>zI .i64 ZZ x5 fun i7=>aM (Fq=i7) (bc x6 [.bool true] 0 ZZ fun h8=>Fin ZZ h8 fun h9=>Kr x6 (cu h.size::ds) h9) (Kc ZZ ZZ)
abbrev asks (x0:OA) (x1 x2:Int) (K:KV) (h:H):Prop:=nF L0 (fun Kr=>nF L2 (fun K3=>aw h #[.int .i64 x2] 3 fun a12 fI=>aw fI #[.bool false] 4 fun lE gA=>K3 x0 x1 a12 lE [] gA) fun x0 x1 x5 x6 ds h=>nF L0 (fun K1=>nF L3 (fun K2=>zC 185 [.pointer x0,.int .i64 x1] h fun v10 eG=>K2 x5 x6 v10 ds eG) fun x5 x6 bD ds h=>Oo Tryz.prog bD 1 [.o 11 (.i .i64)] h (Sc x5 x6 bD ds K1 K1 Kr h) (fun h4=>K1 x6 (cu h.size::ds) h4)) fun x6 ds h=>bc x6 [.bool false] 0 h fun h1=>Kr x6 ds h1) fun y6 ds h=>dE ds h fun h=>zB h y6 fun Z0=>K (.bool Z0) h
theorem ok (x0:OA) (x1 x2:Int) (K:KV) (h:H) (hS:asks x0 x1 x2 K h):zC 140 [.pointer x0,.int .i64 x1,.int .i64 x2] h K:=
 Qe Tryz.func140 hS (fun hg hS=>BG (l:=L2) hg hS fun hg hS=>Ss (l:=L0) hS (fun hS=>BG (l:=L3) hg hS fun hg hS=>bl (b:=0) (Qf (.tmp 10) #[11] hg hS)) fun hg hS=>Qg hg hS) fun hg hS=>Qh hg hS
end Xaz
namespace Xao
abbrev L0:=[Zb 4]
variable (x0:OA) (x1:Int)
variable (K:KV) (h:H)
abbrev asks:Prop:=cF L0 (fun Kr=>zC 48 [.pointer x0,.int .i64 x1] h fun v1 h2=>kt v1 fun p3=>aZ Tryz.prog (dy .eql 80 (.tmp 11) (.const (.pointer none)) (.pointer p3) (.pointer none)) h2 fun v4 h5=>au v4 fun b6=>cond b6 (Kr false h5) (ae p3 fun a7=>zI .i64 h5 (a7.add 6) fun i8=>aM (i8<(0:Int)) (Kr false h5) (ae x0 fun a9=>zS h5 (a9.add 0) fun jf iD kY=>ae p3 fun jC=>zI .i64 h5 (jC.add 6) fun i12=>(0<=i12/\i12<(iD:Int))/\(ae jf fun oE=>zP h5 (oE.add (Int.toNat i12*1)) fun Qd=>zC 131 [.pointer Qd,.int .i64 x1] h5 fun vd gZ=>aL .i64 vd fun i17=>ae Qd fun sJ=>zS gZ (sJ.add 7) fun qw pw pz=>bd .i64 (i17+(1:Int))/\(zC 186 [.slice qw pw pz,.int .i64 i17,.int .i64 (i17+(1:Int))] gZ fun v20 qt=>aB v20 fun lP iE lQ=>ae Qd fun a23=>bc (a23.add 7) [.slice lP iE lQ] 0 qt fun mC=>ae p3 fun a25=>bc (a25.add 6) [.int .i64 (-1)] 0 mC fun od=>Kr true od))))) fun y4 h=>K (.bool y4) h
theorem ok (q:asks x0 x1 K h):zC 141 [.pointer x0,.int .i64 x1] h K:=
 cl Tryz.func141 q (fun p q=>lf p q) fun p q=>rt p q
end Xao
namespace Uf
abbrev L0:=[Z6 4]
abbrev L2:List Sl:=[]
abbrev L3:=[Zl 0,Z6 1,Z6 7,Z6 8]
abbrev L1:=[Zl 0,Z6 1]
abbrev T0:=TK L0
abbrev T2:=TK L2
abbrev T3:=TK L3
variable (ao:OA) (aj aq:Nat) (x1:Int)
abbrev n3 (Kn Kr:T0) (h:H):Prop:=
 Kr (-1) h
abbrev bU (Kn Ke0:T2) (Kr:T0):T3->T3:=fun K2 ao aj aq x1 x7 x8 h=>aM (x8<x7) ((0<=x8/\x8<(aj:Int))/\(ae ao fun a1=>zI .i64 h (a1.add (Int.toNat x8*1)) fun i2=>aM (x1=i2) (Kr x8 h) (bd .i64 (x8+(1:Int))/\(K2 ao aj aq x1 x7 (x8+(1:Int)) h)))) (Ke0 h)
abbrev cQ (Kn Ke0:T2) (Kr:T0):Nat->T3:=LP L3 (bU Kn Ke0 Kr)
variable (K:KV) (h:H)
abbrev asks (ao:OA) (aj aq:Nat) (x1:Int) (K:KV) (h:H):Prop:=cF L0 (fun Kr=>aA L1 (fun K4=>K4 ao aj aq x1 h) fun ao aj aq x1 h=>aA L2 (fun K1=>aA L3 (fun K3=>K3 ao aj aq x1 (aj:Int) 0 h) fun ao aj aq x1 x7 x8 h=>iy L3 (bU K1 K1 Kr) fun K2=>K2 ao aj aq x1 x7 x8 h) fun h=>n3 Kr Kr h) fun y4 h=>K (.int .i64 y4) h
theorem ok (q:asks ao aj aq x1 K h):zC 180 [.slice ao aj aq,.int .i64 x1] h K:=
 cl Tryz.func180 q (fun p q=>sq (l:=L1) p q fun p q=>sc (l:=L2) q (fun q=>sq (l:=L3) p q fun p q=>bl (b:=0) (lp p q fun p q=>lf p q)) fun p q=>lf p q) fun p q=>rt p q
end Uf
namespace Xav
abbrev L0:=[Zr 4]
variable (x0:OA) (x1:Int)
variable (K:KV) (h:H)
abbrev asks:Prop:=cF L0 (fun Kr=>aw h #[.pointer x0] 38 fun a1 h2=>aw h2 #[.int .i64 x1] 3 fun a3 h4=>Kr (.func (.func 213) ⟨[]⟩ ⟨[.pointer (some a3),.pointer (some a1)]⟩) h4) fun y4 h=>K y4 h
theorem ok (q:asks x0 x1 K h):zC 185 [.pointer x0,.int .i64 x1] h K:=
 cl Tryz.func185 q (fun p q=>lf p q) fun p q=>rt p q
end Xav
namespace Uj
abbrev L0:List Sl:=[]
abbrev L1:=[Zr 0,Za 1,Za 2]
abbrev T0:=TK L0
abbrev T1:=TK L1
variable (x0:Value) (x1 x2:Addr)
abbrev Z1 (Kn Ke0 Kr:T0):T1->T1:=fun K1 x0 x1 x2 h=>zI .i64 h x1 fun i1=>aM (i1 ≥ 0) (zI .i64 h x1 fun i2=>fQ Tryz.prog 4 x0 ⟨[.int .i64 i2]⟩ h fun v3 h4=>au v3 fun b5=>cond b5 (zP h4 x2 fun p6=>ae p6 fun a7=>zS h4 (a7.add 0) fun rT rJ vq=>zI .i64 h4 x1 fun i9=>(0<=i9/\i9<(rJ:Int))/\(ae rT fun jB=>zP h4 (jB.add (Int.toNat i9*1)) fun Fq=>ae Fq fun a12=>zI .i64 h4 (a12.add 6) fun i13=>bc x1 [.int .i64 i13] 0 h4 fun dx=>K1 x0 x1 x2 dx)) (Ke0 h4)) (Ke0 h)
abbrev Pr (Kn Ke0 Kr:T0):Nat->T1:=LP L1 (Z1 Kn Ke0 Kr)
variable (K:KV) (h:H)
abbrev asks:Prop:=cF L0 (fun Kr=>iy L1 (Z1 Kr Kr Kr) fun K1=>K1 x0 x1 x2 h) fun h=>K (.tuple ⟨[]⟩) h
theorem ok (q:asks x0 x1 x2 K h):zC 213 [x0,.pointer (some x1),.pointer (some x2)] h K:=
 cl Tryz.func213 q (fun p q=>bl (b:=0) (lp p q fun p q=>lf p q)) fun p q=>rt p q
end Uj
namespace UU
abbrev L0:=[Zl 4]
abbrev L4:=[Zl 6]
abbrev L5:=[Zp 0,Zl 6,Zl 18,Z6 19,Z6 20]
abbrev L3:=[Zp 0,Zp 5,Zl 6]
abbrev L2:=[Zp 0,Zp 5]
abbrev L1:=[Zp 0,Z6 1]
abbrev T0:=TK L0
abbrev T4:=TK L4
abbrev T5:=TK L5
variable (x0:OA) (x1:Int) (og:OA) (nG oJ:Nat)
abbrev n6 (Kn Kr:T0) (h:H):Prop:=
 Kr og nG oJ h
abbrev F6 (Kn Ke0:T4) (Kr:T0):T5->T5:=fun K2 x0 og nG oJ Qi Qj UW pZ yr h=>aM (yr<pZ) ((0<=yr/\yr<(Qj:Int))/\(ae Qi fun a1=>zI .i64 h (a1.add (Int.toNat yr*1)) fun i2=>ae x0 fun a3=>zS h (a3.add 0) fun oe oI uP=>(0<=i2/\i2<(oI:Int))/\(ae oe fun a5=>zP h (a5.add (Int.toNat i2*1)) fun p6=>ae p6 fun a7=>zI .u8 h (((a7.add 0)).add 0) fun i8=>zI .u8 h (((a7.add 0)).add 1) fun i9=>zT h (((a7.add 0)).add 2) fun oY=>zS h (((a7.add 0)).add 3) fun mN kZ lR=>zT h (((a7.add 0)).add 4) fun jU=>zS h (((a7.add 0)).add 5) fun jK jv lg=>aw h ⟨[.int .u8 0,.int .u8 0,S [],.slice none 0 0,S [],.slice none 0 0]⟩ 70 fun lE gA=>bc lE [.int .u8 i8,.int .u8 i9,S oY,.slice mN kZ lR,S jU,.slice jK jv lg] 0 gA fun gZ=>zS gZ (lE.add 3) fun qx oB qy=>zC 49 [.slice qx oB qy] gZ fun HP qs=>aB HP fun qz pA sS=>zC 25 [.pointer x0,.int .i64 i2] qs fun v21 mB=>aB v21 fun vu sR vz=>bc (lE.add 3) [.slice qz pA sS] 0 mB fun mC=>bc (lE.add 5) [.slice vu sR vz] 0 mC fun iF=>zI .u8 iF (lE.add 0) fun i26=>zI .u8 iF (lE.add 1) fun i27=>zT iF (lE.add 2) fun s28=>zS iF (lE.add 3) fun DU BH DV=>zT iF (lE.add 4) fun UX=>zS iF (lE.add 5) fun xw BJ yT=>aw iF #[.int .u8 i26,.int .u8 i27,S s28,.slice DU BH DV,S UX,.slice xw BJ yT] 70 fun tw lW=>aZ Tryz.prog (Builtin.append_ #[25,25] 25 ⟨[.slice og nG oJ,.slice (some tw) 1 1]⟩) lW fun zw qi=>aB zw fun UY UZ U0=>bd .i64 (yr+(1:Int))/\(K2 x0 UY UZ U0 Qi Qj UW pZ (yr+(1:Int)) qi)))) (Ke0 og nG oJ h)
abbrev F7 (Kn Ke0:T4) (Kr:T0):Nat->T5:=LP L5 (F6 Kn Ke0 Kr)
variable (K:KV) (h:H)
abbrev asks (x0:OA) (x1:Int) (K:KV) (h:H):Prop:=cF L0 (fun Kr=>aA L1 (fun K7=>K7 x0 x1 h) fun x0 x1 h=>aA L2 (fun K6=>zC 48 [.pointer x0,.int .i64 x1] h fun Su MA=>kt Su fun p44=>K6 x0 p44 MA) fun x0 x5 h=>aA L2 (fun K5=>aZ Tryz.prog (dy .eql 80 (.tmp 13) (.const (.pointer none)) (.pointer x5) (.pointer none)) h fun Qk DW=>au Qk fun Z2=>cond Z2 (Kr none 0 0 DW) (K5 x0 x5 DW)) fun x0 x5 h=>aA L3 (fun K4=>K4 x0 x5 none 0 0 h) fun x0 x5 og nG oJ h=>aA L4 (fun K1=>aA L5 (fun K3=>ae x5 fun a37=>zS h (a37.add 7) fun Ja BK MB=>K3 x0 og nG oJ Ja BK MB (BK:Int) 0 h) fun x0 og nG oJ Qi Qj UW pZ yr h=>iy L5 (F6 K1 K1 Kr) fun K2=>K2 x0 og nG oJ Qi Qj UW pZ yr h) fun og nG oJ h=>n6 og nG oJ Kr Kr h) fun fE fF fG h=>K (.slice fE fF fG) h
theorem ok (q:asks x0 x1 K h):zC 25 [.pointer x0,.int .i64 x1] h K:=
 cl Tryz.func25 q (fun p q=>sq (l:=L1) p q fun p q=>sq (l:=L2) p q fun p q=>sq (l:=L2) p q fun p q=>sq (l:=L3) p q fun p q=>sc (l:=L4) q (fun q=>sq (l:=L5) p q fun p q=>bl (b:=0) (lp p q fun p q=>lf p q)) fun p q=>lf p q) fun p q=>rt p q
end UU
namespace Xc2
abbrev L0:=[Za 4]
abbrev L3:=[Za 3,Za 4,Zr 8]
abbrev L2:=[Zl 0,Za 3,Za 4]
abbrev asks (ao:OA) (aj aq:Nat) (bM:OA) (bI bV:Nat) (K:KV) (h:H):Prop:=nF L0 (fun Kr=>nF L2 (fun K3=>aw h #[.slice bM bI bV] 104 fun sJ qs=>aw qs #[.int .i64 0] 3 fun a20 qt=>K3 ao aj aq sJ a20 [] qt) fun ao aj aq x3 x4 ds h=>nF L0 (fun K1=>nF L3 (fun K2=>zC 178 [.slice ao aj aq] h fun oD fh=>K2 x3 x4 oD ds fh) fun x3 x4 x8 ds h=>Oo Tryz.prog x8 2 [.o 9 (.i .i64),.g 10 [.i .i64,.i .u8,.s,.i .u8]] h (fun p9 sU sV DX DY Mid Kc Fin h1=>aw h1 ⟨[.int .i64 0,.int .u8 0,S [],.int .u8 0]⟩ 77 fun a2 h3=>bc a2 [.int .i64 sU,.int .u8 sV,S DX,.int .u8 DY] 0 h3 fun h4=>Mid h4 fun gN=>zI .i64 gN (a2.add 0) fun i6=>zI .u8 gN (a2.add 1) fun i7=>zT gN (a2.add 2) fun s8=>zI .u8 gN (a2.add 3) fun i9=>zS gN x3 fun jf iD kY=>zC 179 [(.agg ⟨[.int .i64 i6,.int .u8 i7,S s8,.int .u8 i9]⟩),.slice jf iD kY] gN fun v11 eL=>au v11 fun F8=>cond F8 (bc x4 [.int .i64 p9] 0 eL fun dx=>Fin gN dx fun gA=>Kr x4 (cu h.size::ds) gA) (Kc gN eL)) (fun h4=>K1 x4 (cu h.size::ds) h4)) fun x4 ds h=>bc x4 [.int .i64 (-1)] 0 h fun h1=>Kr x4 ds h1) fun y4 ds h=>dE ds h fun h=>zI .i64 h y4 fun i22=>K (.int .i64 i22) h
theorem ok (ao:OA) (aj aq:Nat) (bM:OA) (bI bV:Nat) (K:KV) (h:H) (hS:asks ao aj aq bM bI bV K h):zC 128 [.slice ao aj aq,.slice bM bI bV] h K:=
 Qe Tryz.func128 hS (fun hg hS=>BG (l:=L2) hg hS fun hg hS=>Ss (l:=L0) hS (fun hS=>BG (l:=L3) hg hS fun hg hS=>bl (b:=0) (Qf (.tmp 8) #[9,10] hg hS)) fun hg hS=>Qg hg hS) fun hg hS=>Qh hg hS
end Xc2
namespace Xc1
abbrev L2:List Sl:=[]
abbrev L4:=[Zs 1,Z8 5,Zb 6]
abbrev L3:=[Zs 1,Z8 5]
abbrev L1:=[Z8 0,Zs 1]
abbrev L0:=[Zb 4]
variable (x0:Int) (x1:List UInt8)
variable (K:KV) (h:H)
abbrev asks (x0:Int) (x1:List UInt8) (K:KV) (h:H):Prop:=cF L0 (fun Kr=>aA L1 (fun K4=>K4 x0 x1 h) fun x0 x1 h=>aA L2 (fun K1=>aA L3 (fun K3=>K3 x1 x0 h) fun x1 x5 h=>aA L4 (fun K2=>aM (x5=(0:Int)) (K2 x1 x5 true h) (K2 x1 x5 false h)) fun x1 x5 x6 h=>cond x6 (zC 157 [S [32,97,100,100,114,101,115,115,32,97,112,112,108,101,116,32,97,114,101,97,32,97,114,116,105,99,108,101,32,97,115,105,100,101,32,98,97,115,101,32,98,97,115,101,102,111,110,116,32,98,103,115,111,117,110,100,32,98,108,111,99,107,113,117,111,116,101,32,98,111,100,121,32,98,114,32,98,117,116,116,111,110,32,99,97,112,116,105,111,110,32,99,101,110,116,101,114,32,99,111,108,32,99,111,108,103,114,111,117,112,32,100,100,32,100,101,116,97,105,108,115,32,100,105,97,108,111,103,32,100,105,114,32,100,105,118,32,100,108,32,100,116,32,101,109,98,101,100,32,102,105,101,108,100,115,101,116,32,102,105,103,99,97,112,116,105,111,110,32,102,105,103,117,114,101,32,102,111,111,116,101,114,32,102,111,114,109,32,102,114,97,109,101,32,102,114,97,109,101,115,101,116,32,104,49,32,104,50,32,104,51,32,104,52,32,104,53,32,104,54,32,104,101,97,100,32,104,101,97,100,101,114,32,104,103,114,111,117,112,32,104,114,32,104,116,109,108,32,105,102,114,97,109,101,32,105,109,103,32,105,110,112,117,116,32,107,101,121,103,101,110,32,108,105,32,108,105,110,107,32,108,105,115,116,105,110,103,32,109,97,105,110,32,109,97,114,113,117,101,101,32,109,101,110,117,32,109,101,116,97,32,110,97,118,32,110,111,101,109,98,101,100,32,110,111,102,114,97,109,101,115,32,110,111,115,99,114,105,112,116,32,111,98,106,101,99,116,32,111,108,32,112,32,112,97,114,97,109,32,112,108,97,105,110,116,101,120,116,32,112,114,101,32,115,99,114,105,112,116,32,115,101,97,114,99,104,32,115,101,99,116,105,111,110,32,115,101,108,101,99,116,32,115,111,117,114,99,101,32,115,116,121,108,101,32,115,117,109,109,97,114,121,32,116,97,98,108,101,32,116,98,111,100,121,32,116,100,32,116,101,109,112,108,97,116,101,32,116,101,120,116,97,114,101,97,32,116,102,111,111,116,32,116,104,32,116,104,101,97,100,32,116,105,116,108,101,32,116,114,32,116,114,97,99,107,32,117,108,32,119,98,114,32,120,109,112,32],S x1] h fun v1 h2=>au v1 fun b3=>cond b3 (Kr true h2) (Kr false h2)) (aM (x5=(2:Int)) (zC 157 [S [32,97,110,110,111,116,97,116,105,111,110,45,120,109,108,32,109,105,32,109,110,32,109,111,32,109,115,32,109,116,101,120,116,32],S x1] h fun v4 h5=>au v4 fun b6=>cond b6 (Kr true h5) (Kr false h5)) (aM (x5=(1:Int)) (zC 157 [S [32,100,101,115,99,32,102,111,114,101,105,103,110,79,98,106,101,99,116,32,116,105,116,108,101,32],S x1] h fun v7 h8=>au v7 fun b9=>cond b9 (Kr true h8) (Kr false h8)) (K1 h)))) fun h=>Kr false h) fun y4 h=>K (.bool y4) h
theorem ok (q:asks x0 x1 K h):zC 162 [.int .u8 x0,S x1] h K:=
 cl Tryz.func162 q (fun p q=>sq p q fun p q=>sc q (fun q=>sq p q fun p q=>bl (b:=0) (sq p q fun p q=>lf p q)) fun p q=>lf p q) fun p q=>rt p q
end Xc1
namespace Xc6
abbrev L0:=[Zr 2]
variable (ao:OA) (aj aq:Nat)
variable (K:KV) (h:H)
abbrev asks:Prop:=cF L0 (fun Kr=>zC 161 [.slice ao aj aq] h fun v1 h2=>Kr v1 h2) fun y2 h=>K y2 h
theorem ok (q:asks ao aj aq K h):zC 178 [.slice ao aj aq] h K:=
 cl Tryz.func178 q (fun p q=>lf p q) fun p q=>rt p q
end Xc6
namespace Xc5
abbrev L0:=[Zb 4]
variable (cE cG:Int) (eu:List UInt8) (eP:Int) (bM:OA) (bI bV:Nat)
variable (K:KV) (h:H)
abbrev asks:Prop:=cF L0 (fun Kr=>aw h ⟨[.int .i64 cE,.int .u8 cG,S eu,.int .u8 eP]⟩ 77 fun a1 h2=>zI .u8 h2 (a1.add 1) fun i3=>aM (i3=(0:Int)) (zT h2 (a1.add 2) fun s4=>zC 189 [.slice bM bI bV,S s4] h2 fun v5 h6=>au v5 fun b7=>cond b7 (Kr true h6) (Kr false h6)) (Kr false h2)) fun y4 h=>K (.bool y4) h
theorem ok (q:asks cE cG eu eP bM bI bV K h):zC 179 [(.agg ⟨[.int .i64 cE,.int .u8 cG,S eu,.int .u8 eP]⟩),.slice bM bI bV] h K:=
 cl Tryz.func179 q (fun p q=>lf p q) fun p q=>rt p q
end Xc5
namespace Xc4
abbrev L0:=[Zb 4]
variable (x0 x1:List UInt8)
variable (K:KV) (h:H)
abbrev asks:Prop:=cF L0 (fun Kr=>aM (x1=[]) (Kr false h) (zC 199 [S x1,S [32]] h fun v1 h2=>au v1 fun b3=>cond b3 (Kr false h2) ((([32].length+x1.length:Nat):Int)<=9223372036854775807/\(((([32]++x1).length+ [32].length:Nat):Int)<=9223372036854775807/\(zC 199 [S x0,(S (([32]++x1)++ [32]))] h2 fun v4 h5=>au v4 fun b6=>cond b6 (Kr true h5) (Kr false h5)))))) fun y4 h=>K (.bool y4) h
theorem ok (q:asks x0 x1 K h):zC 157 [S x0,S x1] h K:=
 cl Tryz.func157 q (fun p q=>lf p q) fun p q=>rt p q
end Xc4
namespace Xfv
abbrev L0:=[Zr 2]
variable (ao:OA) (aj aq:Nat)
variable (K:KV) (h:H)
abbrev asks:Prop:=cF L0 (fun Kr=>aw h #[.slice ao aj aq] 39 fun a1 h2=>Kr (.func (.func 203) ⟨[]⟩ ⟨[.pointer (some a1)]⟩) h2) fun y2 h=>K y2 h
theorem ok (q:asks ao aj aq K h):zC 161 [.slice ao aj aq] h K:=
 cl Tryz.func161 q (fun p q=>lf p q) fun p q=>rt p q
end Xfv
namespace Xf2
abbrev L0:=[Zb 4]
variable (ao:OA) (aj aq:Nat) (x1:List UInt8)
variable (K:KV) (h:H)
abbrev asks:Prop:=cF L0 (fun Kr=>zC 215 [.slice ao aj aq,S x1] h fun v1 h2=>aL .i64 v1 fun i3=>aM (i3 ≥ 0) (Kr true h2) (Kr false h2)) fun y4 h=>K (.bool y4) h
theorem ok (q:asks ao aj aq x1 K h):zC 189 [.slice ao aj aq,S x1] h K:=
 cl Tryz.func189 q (fun p q=>lf p q) fun p q=>rt p q
end Xf2
namespace Xft
abbrev L2:=[Zr 0,Za 1,Z6 3]
abbrev L0:List Sl:=[]
abbrev T0:=TK L0
abbrev T2:=TK L2
variable (x0:Value) (x1:Addr)
abbrev rK (Kn Ke0 Kr:T0):T2->T2:=fun K1 x0 x1 x3 h=>aM (x3 ≥ 0) (zS h x1 fun Z3 U1 s1c=>(0<=x3/\x3<(U1:Int))/\(ae Z3 fun a2=>zI .i64 h (((a2.add (Int.toNat x3*4))).add 0) fun i3=>zI .u8 h (((a2.add (Int.toNat x3*4))).add 1) fun i4=>zT h (((a2.add (Int.toNat x3*4))).add 2) fun s5=>zI .u8 h (((a2.add (Int.toNat x3*4))).add 3) fun i6=>fQ Tryz.prog 4 x0 ⟨[.int .i64 x3,(.agg ⟨[.int .i64 i3,.int .u8 i4,S s5,.int .u8 i6]⟩)]⟩ h fun v7 h8=>au v7 fun b9=>cond b9 (bd .i64 (x3 - (1:Int))/\(K1 x0 x1 (x3 - (1:Int)) h8)) (Kr h8))) (Ke0 h)
abbrev tX (Kn Ke0 Kr:T0):Nat->T2:=LP L2 (rK Kn Ke0 Kr)
variable (K:KV) (h:H)
abbrev asks (x0:Value) (x1:Addr) (K:KV) (h:H):Prop:=cF L0 (fun Kr=>aA L2 (fun K2=>zS h x1 fun jf iD kY=>bd .i64 ((iD:Int) - 1)/\(K2 x0 x1 ((iD:Int) - 1) h)) fun x0 x1 x3 h=>iy L2 (rK Kr Kr Kr) fun K1=>K1 x0 x1 x3 h) fun h=>K (.tuple ⟨[]⟩) h
theorem ok (q:asks x0 x1 K h):zC 203 [x0,.pointer (some x1)] h K:=
 cl Tryz.func203 q (fun p q=>sq (l:=L2) p q fun p q=>bl (b:=0) (lp p q fun p q=>lf p q)) fun p q=>rt p q
end Xft
namespace Xgb
abbrev L2:List Sl:=[]
abbrev L3:=[Zl 0,Zs 1,Z6 7,Z6 8]
abbrev L0:=[Z6 4]
abbrev L1:=[Zl 0,Zs 1]
abbrev T2:=TK L2
abbrev T0:=TK L0
abbrev T3:=TK L3
variable (ao:OA) (aj aq:Nat) (x1:List UInt8)
abbrev bU (Kn Ke0:T2) (Kr:T0):T3->T3:=fun K2 ao aj aq x1 x7 x8 h=>aM (x8<x7) ((0<=x8/\x8<(aj:Int))/\(ae ao fun a1=>zT h (a1.add (Int.toNat x8*1)) fun s2=>aM (x1=s2) (Kr x8 h) (bd .i64 (x8+(1:Int))/\(K2 ao aj aq x1 x7 (x8+(1:Int)) h)))) (Ke0 h)
abbrev cQ (Kn Ke0:T2) (Kr:T0):Nat->T3:=LP L3 (bU Kn Ke0 Kr)
variable (K:KV) (h:H)
abbrev asks (ao:OA) (aj aq:Nat) (x1:List UInt8) (K:KV) (h:H):Prop:=cF L0 (fun Kr=>aA L1 (fun K4=>K4 ao aj aq x1 h) fun ao aj aq x1 h=>aA L2 (fun K1=>aA L3 (fun K3=>K3 ao aj aq x1 (aj:Int) 0 h) fun ao aj aq x1 x7 x8 h=>iy L3 (bU K1 K1 Kr) fun K2=>K2 ao aj aq x1 x7 x8 h) fun h=>Kr (-1) h) fun y4 h=>K (.int .i64 y4) h
theorem ok (q:asks ao aj aq x1 K h):zC 215 [.slice ao aj aq,S x1] h K:=
 cl Tryz.func215 q (fun p q=>sq (l:=L1) p q fun p q=>sc (l:=L2) q (fun q=>sq (l:=L3) p q fun p q=>bl (b:=0) (lp p q fun p q=>lf p q)) fun p q=>lf p q) fun p q=>rt p q
end Xgb
namespace XN
abbrev L2:List Sl:=[]
abbrev L3:=[Zl 0,Zl 1,Z6 5]
abbrev L0:=[Zb 4]
abbrev L1:=[Zl 0,Zl 1]
abbrev T2:=TK L2
abbrev T0:=TK L0
abbrev T3:=TK L3
variable (ao:OA) (aj aq:Nat) (bM:OA) (bI bV:Nat)
abbrev gR (Kn Ke0:T2) (Kr:T0):T3->T3:=fun K2 ao aj aq bM bI bV x5 h=>aM (x5<(aj:Int)) ((0<=x5/\x5<(aj:Int))/\(ae ao fun a1=>zI .u8 h (((a1.add (Int.toNat x5*6))).add 0) fun i2=>zI .u8 h (((a1.add (Int.toNat x5*6))).add 1) fun i3=>zT h (((a1.add (Int.toNat x5*6))).add 2) fun s4=>zS h (((a1.add (Int.toNat x5*6))).add 3) fun BL Aa F9=>zT h (((a1.add (Int.toNat x5*6))).add 4) fun s6=>zS h (((a1.add (Int.toNat x5*6))).add 5) fun yU Ab yt=>aw h ⟨[.int .u8 0,.int .u8 0,S [],.slice none 0 0,S [],.slice none 0 0]⟩ 70 fun a8 h9=>bc a8 [.int .u8 i2,.int .u8 i3,S s4,.slice BL Aa F9,S s6,.slice yU Ab yt] 0 h9 fun df=>(0<=x5/\x5<(bI:Int))/\(ae bM fun jC=>zI .u8 df (((jC.add (Int.toNat x5*6))).add 0) fun i12=>zI .u8 df (((jC.add (Int.toNat x5*6))).add 1) fun i13=>zT df (((jC.add (Int.toNat x5*6))).add 2) fun Cc=>zS df (((jC.add (Int.toNat x5*6))).add 3) fun kH kX oz=>zT df (((jC.add (Int.toNat x5*6))).add 4) fun MC=>zS df (((jC.add (Int.toNat x5*6))).add 5) fun qx oB qy=>aw df ⟨[.int .u8 0,.int .u8 0,S [],.slice none 0 0,S [],.slice none 0 0]⟩ 70 fun sJ qs=>bc sJ [.int .u8 i12,.int .u8 i13,S Cc,.slice kH kX oz,S MC,.slice qx oB qy] 0 qs fun gm=>zI .u8 gm (a8.add 0) fun i21=>zI .u8 gm (sJ.add 0) fun i22=>aM (i21=i22) (zI .u8 gm (a8.add 1) fun i23=>zI .u8 gm (sJ.add 1) fun i24=>aM (i23=i24) (zT gm (a8.add 2) fun s25=>zT gm (sJ.add 2) fun s26=>aM (s25=s26) (zT gm (a8.add 4) fun s27=>zT gm (sJ.add 4) fun s28=>aM (s27=s28) (zS gm (a8.add 3) fun DU BH DV=>zS gm (sJ.add 3) fun BM BN DZ=>zC 32 [.slice DU BH DV,.slice BM BN DZ] gm fun v31 EC=>au v31 fun U2=>cond U2 (zS EC (a8.add 5) fun xx xy yV=>zS EC (sJ.add 5) fun U3 U4 U5=>zC 12 [.slice xx xy yV,.slice U3 U4 U5] EC fun Z4 lX=>au Z4 fun b38=>cond b38 (bd .i64 (x5+(1:Int))/\(K2 ao aj aq bM bI bV (x5+(1:Int)) lX)) (Kr false lX)) (Kr false EC)) (Kr false gm)) (Kr false gm)) (Kr false gm)) (Kr false gm)))) (Ke0 h)
abbrev ia (Kn Ke0:T2) (Kr:T0):Nat->T3:=LP L3 (gR Kn Ke0 Kr)
variable (K:KV) (h:H)
abbrev asks (ao:OA) (aj aq:Nat) (bM:OA) (bI bV:Nat) (K:KV) (h:H):Prop:=cF L0 (fun Kr=>aA L1 (fun K5=>K5 ao aj aq bM bI bV h) fun ao aj aq bM bI bV h=>aA L1 (fun K4=>aM ((aj:Int)=(bI:Int)) (K4 ao aj aq bM bI bV h) (Kr false h)) fun ao aj aq bM bI bV h=>aA L2 (fun K1=>aA L3 (fun K3=>K3 ao aj aq bM bI bV 0 h) fun ao aj aq bM bI bV x5 h=>iy L3 (gR K1 K1 Kr) fun K2=>K2 ao aj aq bM bI bV x5 h) fun h=>Kr true h) fun y4 h=>K (.bool y4) h
theorem ok (q:asks ao aj aq bM bI bV K h):zC 12 [.slice ao aj aq,.slice bM bI bV] h K:=
 cl Tryz.func12 q (fun p q=>sq (l:=L1) p q fun p q=>sq (l:=L1) p q fun p q=>sc (l:=L2) q (fun q=>sq (l:=L3) p q fun p q=>bl (b:=0) (lp p q fun p q=>lf p q)) fun p q=>lf p q) fun p q=>rt p q
end XN
namespace Xdj
abbrev L2:List Sl:=[]
abbrev L3:=[Zl 0,Zl 1,Z6 5]
abbrev L0:=[Zb 4]
abbrev L1:=[Zl 0,Zl 1]
abbrev T2:=TK L2
abbrev T0:=TK L0
abbrev T3:=TK L3
variable (ao:OA) (aj aq:Nat) (bM:OA) (bI bV:Nat)
abbrev gR (Kn Ke0:T2) (Kr:T0):T3->T3:=fun K2 ao aj aq bM bI bV x5 h=>aM (x5<(aj:Int)) ((0<=x5/\x5<(aj:Int))/\(ae ao fun a1=>zT h (((a1.add (Int.toNat x5*2))).add 0) fun s2=>zT h (((a1.add (Int.toNat x5*2))).add 1) fun s3=>(0<=x5/\x5<(bI:Int))/\(ae bM fun a4=>zT h (((a4.add (Int.toNat x5*2))).add 0) fun s5=>zT h (((a4.add (Int.toNat x5*2))).add 1) fun s6=>sK Tryz.prog (dy .neq 67 (.tmp 20) (.tmp 24) (.agg ⟨[S s2,S s3]⟩) (.agg ⟨[S s5,S s6]⟩)) h fun v7=>au v7 fun b8=>cond b8 (Kr false h) (bd .i64 (x5+(1:Int))/\(K2 ao aj aq bM bI bV (x5+(1:Int)) h))))) (Ke0 h)
abbrev ia (Kn Ke0:T2) (Kr:T0):Nat->T3:=LP L3 (gR Kn Ke0 Kr)
variable (K:KV) (h:H)
abbrev asks (ao:OA) (aj aq:Nat) (bM:OA) (bI bV:Nat) (K:KV) (h:H):Prop:=cF L0 (fun Kr=>aA L1 (fun K5=>K5 ao aj aq bM bI bV h) fun ao aj aq bM bI bV h=>aA L1 (fun K4=>aM ((aj:Int)=(bI:Int)) (K4 ao aj aq bM bI bV h) (Kr false h)) fun ao aj aq bM bI bV h=>aA L2 (fun K1=>aA L3 (fun K3=>K3 ao aj aq bM bI bV 0 h) fun ao aj aq bM bI bV x5 h=>iy L3 (gR K1 K1 Kr) fun K2=>K2 ao aj aq bM bI bV x5 h) fun h=>Kr true h) fun y4 h=>K (.bool y4) h
theorem ok (q:asks ao aj aq bM bI bV K h):zC 32 [.slice ao aj aq,.slice bM bI bV] h K:=
 cl Tryz.func32 q (fun p q=>sq (l:=L1) p q fun p q=>sq (l:=L1) p q fun p q=>sc (l:=L2) q (fun q=>sq (l:=L3) p q fun p q=>bl (b:=0) (lp p q fun p q=>lf p q)) fun p q=>lf p q) fun p q=>rt p q
end Xdj
namespace Xc7
abbrev L0:=[Zp 0]
variable (K:KV) (h:H)
abbrev asks:Prop:=cF L0 (fun Kr=>zC 51 [] h fun v1 h2=>kt v1 fun p3=>aw h2 #[.int .i64 0,.int .u8 0,S [104,116,109,108],.int .u8 0] 77 fun a4 h5=>aw h5 ⟨[.pointer p3,.slice (some a4) 1 1,.slice none 0 0,.bool false,.int .i64 1]⟩ 42 fun a6 h7=>Kr (some a6) h7) fun y0 h=>K (.pointer y0) h
theorem ok (q:asks K h):zC 33 [] h K:=
 cl Tryz.func33 q (fun p q=>lf p q) fun p q=>rt p q
end Xc7
namespace Xdc
abbrev L0:=[Z6 6]
abbrev L5:=[Zp 0,Z8 1,Za 5,Z6 9]
abbrev L4:=[Zp 0,Z8 1,Za 5,Z6 7,Z6 8,Z6 9]
abbrev L3:=[Zp 0,Z8 1,Za 5,Z6 7,Z6 8]
abbrev L2:=[Zp 0,Z8 1,Za 5]
abbrev T0:=TK L0
variable (x0:OA) (x1 nH:Int) (nI:List UInt8) (sX:OA) (sY sZ:Nat) (nJ:Bool) (BO:List UInt8) (x5:Addr) (x9:Int)
abbrev n5 (Kn Kr:T0) (h:H):Prop:=
 ae x0 fun a1=>zS h (a1.add 1) fun lN kW oy=>zT h (x5.add 1) fun s3=>zI .u8 h (x5.add 0) fun i4=>zT h (x5.add 1) fun s5=>zS h (x5.add 2) fun lO gV mM=>zB h (x5.add 3) fun b7=>zT h (x5.add 4) fun s8=>zC 139 [.int .u8 x1,(.agg ⟨[.int .u8 i4,S s5,.slice lO gV mM,.bool b7,S s8]⟩)] h fun v9 df=>aL .u8 v9 fun i11=>bG h df/\(aw df #[.int .i64 x9,.int .u8 x1,S s3,.int .u8 i11] 77 fun a12 fI=>bG df fI/\(aZ Tryz.prog (Builtin.append_ #[39,39] 39 ⟨[.slice lN kW oy,.slice (some a12) 1 1]⟩) fI fun qO gA=>aB qO fun hU hX hZ=>ae x0 fun nE=>bc (nE.add 1) [.slice hU hX hZ] 0 gA fun gI=>ae x0 fun jh=>zI .i64 gI (jh.add 4) fun i20=>ae x0 fun a21=>zS gI (a21.add 1) fun lP iE lQ=>ae x0 fun a23=>bc (a23.add 4) [.int .i64 (if(iE:Int)>i20 then(iE:Int) else i20)] 0 gI fun mC=>Kr x9 mC))
variable (K:KV) (h:H)
abbrev asks (x0:OA) (x1 nH:Int) (nI:List UInt8) (sX:OA) (sY sZ:Nat) (nJ:Bool) (BO:List UInt8) (K:KV) (h:H):Prop:=cF L0 (fun Kr=>aA L2 (fun K4=>aw h ⟨[.int .u8 nH,S nI,.slice sX sY sZ,.bool nJ,S BO]⟩ 45 fun Ql U6=>K4 x0 x1 Ql U6) fun x0 x1 x5 h=>aA L3 (fun K3=>zC 55 [.pointer x0] h fun v37 Cd=>kV v37 fun l39=>aG l39 fun e40 l41=>aL .i64 e40 fun i42=>aG l41 fun e43 l44=>aL .u8 e43 fun i45=>aG l44 fun e46 l47=>gL e46 fun s48=>aG l47 fun e49 l50=>aL .u8 e49 fun i51=>cW l50 (zC 54 [.pointer x0,(.agg ⟨[.int .i64 i42,.int .u8 i45,S s48,.int .u8 i51]⟩)] Cd fun Z5 Oq=>ni Z5 fun l54=>aG l54 fun e55 l56=>aL .i64 e55 fun i57=>aG l56 fun e58 l59=>aL .i64 e58 fun i60=>cW l59 (K3 x0 x1 x5 i57 i60 Oq))) fun x0 x1 x5 x7 x8 h=>aA L4 (fun K2=>ae x0 fun ES=>zP h (ES.add 0) fun U7=>zT h (x5.add 1) fun Z7=>zS h (x5.add 2) fun MD ME MF=>zC 66 [.pointer U7,(.agg ⟨[.int .u8 1,.int .u8 x1,S Z7,.slice MD ME MF,S [],.slice none 0 0]⟩)] h fun zw qi=>aL .i64 zw fun i36=>K2 x0 x1 x5 x7 x8 i36 qi) fun x0 x1 x5 x7 x8 x9 h=>aA L5 (fun K1=>ae x0 fun a25=>zP h (a25.add 0) fun Jb=>zC 65 [.pointer Jb,.int .i64 x7,.int .i64 x8,.int .i64 x9] h fun zY lY=>au zY fun Jc=>cond Jc (K1 x0 x1 x5 x9 lY) (K1 x0 x1 x5 x9 lY)) fun x0 x1 x5 x9 h=>n5 x0 x1 x5 x9 Kr Kr h) fun y6 h=>K (.int .i64 y6) h
theorem ok (q:asks x0 x1 nH nI sX sY sZ nJ BO K h):zC 64 [.pointer x0,.int .u8 x1,(.agg ⟨[.int .u8 nH,S nI,.slice sX sY sZ,.bool nJ,S BO]⟩)] h K:=
 cl Tryz.func64 q (fun p q=>sq (l:=L2) p q fun p q=>sq (l:=L3) p q fun p q=>sq (l:=L4) p q fun p q=>sq (l:=L5) p q fun p q=>lf p q) fun p q=>rt p q
end Xdc
namespace Xdg
abbrev L0:List Sl:=[]
variable (x0:OA) (x1:List UInt8)
variable (K:KV) (h:H)
abbrev asks:Prop:=cF L0 (fun Kr=>zC 55 [.pointer x0] h fun v1 h2=>kV v1 fun l3=>aG l3 fun e4 l5=>aL .i64 e4 fun i6=>aG l5 fun e7 l8=>aL .u8 e7 fun i9=>aG l8 fun Sv U8=>gL Sv fun jU=>aG U8 fun Og Qm=>aL .u8 Og fun i15=>cW Qm (zC 54 [.pointer x0,(.agg ⟨[.int .i64 i6,.int .u8 i9,S jU,.int .u8 i15]⟩)] h2 fun oD fh=>ni oD fun U9=>aG U9 fun Qn Qo=>aL .i64 Qn fun i21=>aG Qo fun Qp Qq=>aL .i64 Qp fun i24=>cW Qq (ae x0 fun a25=>zP fh (a25.add 0) fun Jb=>zC 56 [.pointer Jb,.int .i64 i21,.int .i64 i24,S x1] fh fun zY lY=>au zY fun Jc=>cond Jc (Kr lY) (Kr lY)))) fun h=>K (.tuple ⟨[]⟩) h
theorem ok (q:asks x0 x1 K h):zC 36 [.pointer x0,S x1] h K:=
 cl Tryz.func36 q (fun p q=>lf p q) fun p q=>rt p q
end Xdg
namespace Xc8
abbrev L2:=[Zp 0,Z6 1,Zb 14]
abbrev L0:List Sl:=[]
variable (x0:OA) (x1:Int)
variable (K:KV) (h:H)
abbrev asks (x0:OA) (x1:Int) (K:KV) (h:H):Prop:=cF L0 (fun Kr=>aA L2 (fun K1=>aM (x1 ≥ 1) (ae x0 fun a5=>zS h (a5.add 1) fun lO gV mM=>aM (x1<(gV:Int)) (K1 x0 x1 true h) (K1 x0 x1 false h)) (K1 x0 x1 false h)) fun x0 x1 rU h=>cond rU (ae x0 fun a1=>zS h (a1.add 1) fun lN kW oy=>(0<=(0:Int)/\0<=x1/\x1<=(oy:Int))/\(ae x0 fun a3=>bc (a3.add 1) [(.slice (if oy=Int.toNat 0 then lN else Option.map (fun q=>q.add (Int.toNat (0:Int)*4)) lN) (Int.toNat x1 - Int.toNat 0) (oy - Int.toNat 0))] 0 h fun h4=>Kr h4)) (Kr h)) fun h=>K (.tuple ⟨[]⟩) h
theorem ok (q:asks x0 x1 K h):zC 57 [.pointer x0,.int .i64 x1] h K:=
 cl Tryz.func57 q (fun p q=>sq p q fun p q=>lf p q) fun p q=>rt p q
end Xc8
namespace Xc9
abbrev L0:=[Za 2]
variable (x0:OA)
variable (K:KV) (h:H)
abbrev asks:Prop:=cF L0 (fun Kr=>aw h ⟨[.int .i64 0,.int .u8 0,S [],.int .u8 0]⟩ 77 fun a1 h2=>ae x0 fun a3=>zS h2 (a3.add 1) fun oe oI uP=>ae x0 fun a5=>zS h2 (a5.add 1) fun lO gV mM=>bd .i64 ((gV:Int) - 1)/\((0<=((gV:Int) - 1)/\((gV:Int) - 1)<(oI:Int))/\(ae oe fun a7=>zI .i64 h2 (((a7.add (Int.toNat ((gV:Int) - 1)*4))).add 0) fun i8=>zI .u8 h2 (((a7.add (Int.toNat ((gV:Int) - 1)*4))).add 1) fun i9=>zT h2 (((a7.add (Int.toNat ((gV:Int) - 1)*4))).add 2) fun oY=>zI .u8 h2 (((a7.add (Int.toNat ((gV:Int) - 1)*4))).add 3) fun i11=>bc a1 [.int .i64 i8,.int .u8 i9,S oY,.int .u8 i11] 0 h2 fun eL=>Kr a1 eL))) fun y2 h=>zI .i64 h ((y2).add 0) fun i13=>zI .u8 h ((y2).add 1) fun i14=>zT h ((y2).add 2) fun Ex=>zI .u8 h ((y2).add 3) fun i16=>K (.agg ⟨[.int .i64 i13,.int .u8 i14,S Ex,.int .u8 i16]⟩) h
theorem ok (q:asks x0 K h):zC 55 [.pointer x0] h K:=
 cl Tryz.func55 q (fun p q=>lf p q) fun p q=>rt p q
end Xc9
namespace Xdf
abbrev L3:=[Zp 0]
abbrev L2:=[Zp 0,Za 3]
abbrev L0:=[Z6 4,Z6 5]
variable (x0:OA) (dh di:Int) (ov:List UInt8) (nK:Int)
variable (K:KV) (h:H)
abbrev asks (x0:OA) (dh di:Int) (ov:List UInt8) (nK:Int) (K:KV) (h:H):Prop:=cF L0 (fun Kr=>aA L2 (fun K2=>aw h ⟨[.int .i64 dh,.int .u8 di,S ov,.int .u8 nK]⟩ 77 fun tw lW=>K2 x0 tw lW) fun x0 x3 h=>aA L3 (fun K1=>ae x0 fun a21=>zB h (a21.add 3) fun b22=>cond b22 (zI .i64 h (x3.add 0) fun i23=>zI .u8 h (x3.add 1) fun i24=>zT h (x3.add 2) fun s25=>zI .u8 h (x3.add 3) fun i26=>zC 127 [(.agg ⟨[.int .i64 i23,.int .u8 i24,S s25,.int .u8 i26]⟩)] h fun zY lY=>au zY fun Jc=>cond Jc (K1 x0 lY) (zI .i64 lY (x3.add 0) fun i30=>Kr i30 (-1) lY)) (zI .i64 h (x3.add 0) fun i31=>Kr i31 (-1) h)) fun x0 h=>ae x0 fun a1=>zS h (a1.add 1) fun lN kW oy=>aw h #[S [116,97,98,108,101]] 9 fun a3 h4=>zC 128 [.slice lN kW oy,.slice (some a3) 1 1] h4 fun v5 h6=>aL .i64 v5 fun i7=>aM (i7<(0:Int)) (Kr 0 (-1) h6) (ae x0 fun a8=>zS h6 (a8.add 1) fun yu vU BP=>(0<=i7/\i7<(vU:Int))/\(ae yu fun jB=>zI .i64 h6 ((jB.add (Int.toNat i7*4)).add 0) fun i11=>ae x0 fun a12=>zP h6 (a12.add 0) fun Va=>zC 129 [.pointer Va,.int .i64 i11] h6 fun qO gA=>aL .i64 qO fun i16=>aM (i16 ≥ 0) (Kr i16 i11 gA) (ae x0 fun nE=>zS gA (nE.add 1) fun gC fw fT=>bd .i64 ((if 1>i7 then 1 else i7) - (1:Int))/\((0<=((if 1>i7 then 1 else i7) - (1:Int))/\((if 1>i7 then 1 else i7) - (1:Int))<(fw:Int))/\(ae gC fun jh=>zI .i64 gA ((jh.add (Int.toNat ((if 1>i7 then 1 else i7) - (1:Int))*4)).add 0) fun i20=>Kr i20 (-1) gA)))))) fun y4 y5 h=>K (.tuple ⟨[.int .i64 y4,.int .i64 y5]⟩) h
theorem ok (q:asks x0 dh di ov nK K h):zC 54 [.pointer x0,(.agg ⟨[.int .i64 dh,.int .u8 di,S ov,.int .u8 nK]⟩)] h K:=
 cl Tryz.func54 q (fun p q=>sq p q fun p q=>sq p q fun p q=>lf p q) fun p q=>rt p q
end Xdf
namespace JM
abbrev L0:=[Z8 4]
abbrev L4:List Sl:=[]
abbrev L5:=[Zl 32,Z6 33,Z6 34]
abbrev L3:=[Za 3]
abbrev L7:=[Za 3,Zb 17]
abbrev L6:=[Z8 0,Za 3,Zb 8]
abbrev L2:=[Z8 0,Za 3]
abbrev T0:=TK L0
abbrev T4:=TK L4
abbrev T5:=TK L5
abbrev T3:=TK L3
variable (x0 dh:Int) (di:List UInt8) (eY:OA) (eZ fb:Nat) (nK:Bool) (ox:List UInt8) (x3:Addr)
abbrev n4 (Kn Kr:T0) (h:H):Prop:=
 Kr 0 h
abbrev gR (Kn Ke1:T4) (Kr:T0):T5->T5:=fun K2 MG MH Qr Qs MJ h=>aM (MJ<Qs) ((0<=MJ/\MJ<(MH:Int))/\(ae MG fun a1=>zT h (((a1.add (Int.toNat MJ*2))).add 0) fun s2=>zT h (((a1.add (Int.toNat MJ*2))).add 1) fun s3=>aw h ⟨[S [],S []]⟩ 67 fun a4 h5=>bc a4 [S s2,S s3] 0 h5 fun h6=>zT h6 (a4.add 1) fun s7=>zC 184 [S s7] h6 fun v8 h9=>gL v8 fun oY=>zT h9 (a4.add 0) fun ve=>aM (ve=[101,110,99,111,100,105,110,103]) (aM (oY=[116,101,120,116,47,104,116,109,108]) (Kr 2 h9) (aM (oY=[97,112,112,108,105,99,97,116,105,111,110,47,120,104,116,109,108,43,120,109,108]) (Kr 2 h9) (bd .i64 (MJ+(1:Int))/\(K2 MG MH Qr Qs (MJ+(1:Int)) h9)))) (bd .i64 (MJ+(1:Int))/\(K2 MG MH Qr Qs (MJ+(1:Int)) h9)))) (Ke1 h)
abbrev ia (Kn Ke1:T4) (Kr:T0):Nat->T5:=LP L5 (gR Kn Ke1 Kr)
abbrev n3 (Kn Kr:T0) (h:H):Prop:=
 aA L4 (fun K1=>aA L5 (fun K3=>zS h (x3.add 2) fun pB lS pC=>K3 pB lS pC (lS:Int) 0 h) fun MG MH Qr Qs MJ h=>iy L5 (gR K1 K1 Kr) fun K2=>K2 MG MH Qr Qs MJ h) fun h=>n4 Kn Kr h
abbrev ui (x0:Int) (x3:Addr) (Kn Ke0:T3) (Kr:T0) (h:H):Prop:=
 aA L7 (fun K5=>aM (x0=(2:Int)) (zT h (x3.add 1) fun Cc=>zC 162 [.int .u8 x0,S Cc] h fun vd gZ=>au vd fun TI=>cond TI (K5 x3 false gZ) (K5 x3 true gZ)) (K5 x3 true h)) fun x3 Z9 h=>cond Z9 (Kr 0 h) (zT h (x3.add 1) fun RV=>aM (RV=[97,110,110,111,116,97,116,105,111,110,45,120,109,108]) (Kn x3 h) (Kr 1 h))
variable (K:KV) (h:H)
abbrev asks (x0 dh:Int) (di:List UInt8) (eY:OA) (eZ fb:Nat) (nK:Bool) (ox:List UInt8) (K:KV) (h:H):Prop:=cF L0 (fun Kr=>aA L2 (fun K7=>aw h ⟨[.int .u8 dh,S di,.slice eY eZ fb,.bool nK,S ox]⟩ 45 fun a22 qu=>K7 x0 a22 qu) fun x0 x3 h=>aA L3 (fun K4=>aA L6 (fun K6=>aM (x0=(1:Int)) (zT h (x3.add 1) fun Sr=>zC 162 [.int .u8 x0,S Sr] h fun xv gm=>au xv fun b21=>cond b21 (K6 x0 x3 true gm) (K6 x0 x3 false gm)) (K6 x0 x3 false h)) fun x0 x3 x8 h=>cond x8 (Kr 2 h) (ui x0 x3 K4 K4 Kr h)) fun x3 h=>n3 x3 Kr Kr h) fun y4 h=>K (.int .u8 y4) h
theorem ok (q:asks x0 dh di eY eZ fb nK ox K h):zC 139 [.int .u8 x0,(.agg ⟨[.int .u8 dh,S di,.slice eY eZ fb,.bool nK,S ox]⟩)] h K:=
 cl Tryz.func139 q (fun p q=>sq (l:=L2) p q fun p q=>sc (l:=L3) q (fun q=>bl (b:=0) (sq (l:=L6) p q fun p q=>cn (i:=8) p q (fun p q=>lf p q) fun p q=>sq (l:=L7) p q fun p q=>lf p q)) fun p q=>sc (l:=L4) q (fun q=>sq (l:=L5) p q fun p q=>bl (b:=1) (lp p q fun p q=>lf p q)) fun p q=>lf p q) fun p q=>rt p q
end JM
namespace Xdh
abbrev L3:List Sl:=[]
abbrev L5:=[Za 1,Zb 5]
abbrev L6:=[Za 1,Zs 4,Zb 5]
abbrev L4:=[Za 1,Zs 4]
abbrev L2:=[Za 1]
abbrev L0:=[Zb 2]
variable (cE cG:Int) (eu:List UInt8) (eP:Int)
variable (K:KV) (h:H)
abbrev asks:Prop:=cF L0 (fun Kr=>aA L2 (fun K5=>aw h ⟨[.int .i64 cE,.int .u8 cG,S eu,.int .u8 eP]⟩ 77 fun a3 h4=>K5 a3 h4) fun x1 h=>aA L3 (fun K1=>aA L4 (fun K4=>zT h (x1.add 2) fun s2=>K4 x1 s2 h) fun x1 x4 h=>aA L5 (fun K2=>aA L6 (fun K3=>aM (x4=[116,97,98,108,101]) (K3 x1 x4 true h) (K3 x1 x4 false h)) fun x1 x4 x5 h=>cond x5 (K2 x1 x5 h) (aM (x4=[116,98,111,100,121]) (K2 x1 true h) (aM (x4=[116,102,111,111,116]) (K2 x1 true h) (aM (x4=[116,104,101,97,100]) (K2 x1 true h) (aM (x4=[116,114]) (K2 x1 true h) (K2 x1 false h)))))) fun x1 x5 h=>cond x5 (zI .u8 h (x1.add 1) fun i1=>aM (i1=(0:Int)) (Kr true h) (Kr false h)) (K1 h)) fun h=>Kr false h) fun y2 h=>K (.bool y2) h
theorem ok (q:asks cE cG eu eP K h):zC 127 [(.agg ⟨[.int .i64 cE,.int .u8 cG,S eu,.int .u8 eP]⟩)] h K:=
 cl Tryz.func127 q (fun p q=>sq p q fun p q=>sc q (fun q=>sq p q fun p q=>bl (b:=0) (sc q (fun q=>sq p q fun p q=>lf p q) fun p q=>lf p q)) fun p q=>lf p q) fun p q=>rt p q
end Xdh
namespace Xak
abbrev L0:=[Zs 2]
abbrev L2:=[Zl 3]
abbrev L3:=[Zl 3,Zl 8,Z6 9,Z6 10]
abbrev L1:=[Zs 0]
abbrev T0:=TK L0
abbrev T2:=TK L2
abbrev T3:=TK L3
variable (x0:List UInt8) (ta:OA) (rV tD:Nat)
abbrev n4 (Kn Kr:T0) (h:H):Prop:=
 aZ Tryz.prog (convert 176 9 (.slice ta rV tD)) h fun v1 h2=>gL v1 fun s3=>Kr s3 h2
abbrev gR (Kn Ke0:T2) (Kr:T0):T3->T3:=fun K2 ta rV tD x8b x8n x8c x9 bD h=>aM (bD<x9) ((0<=bD/\bD<(x8n:Int))/\(ae x8b fun a4=>zI .u8 h (a4.add (Int.toNat bD*1)) fun i5=>zC 212 [.int .u8 i5] h fun v6 h7=>aL .u8 v6 fun i8=>(0<=bD/\bD<(rV:Int))/\(ae ta fun a9=>bc (a9.add (Int.toNat bD*1)) [.int .u8 i8] 0 h7 fun df=>bd .i64 (bD+(1:Int))/\(K2 ta rV tD x8b x8n x8c x9 (bD+(1:Int)) df)))) (Ke0 ta rV tD h)
abbrev ia (Kn Ke0:T2) (Kr:T0):Nat->T3:=LP L3 (gR Kn Ke0 Kr)
variable (K:KV) (h:H)
abbrev asks (x0:List UInt8) (K:KV) (h:H):Prop:=cF L0 (fun Kr=>aA L1 (fun K5=>K5 x0 h) fun x0 h=>aA L2 (fun K4=>aZ Tryz.prog (convert 9 176 (S x0)) h fun v11 eL=>aB v11 fun jK jv lg=>K4 jK jv lg eL) fun ta rV tD h=>aA L2 (fun K1=>aA L3 (fun K3=>K3 ta rV tD ta rV tD (rV:Int) 0 h) fun ta rV tD x8b x8n x8c x9 bD h=>iy L3 (gR K1 K1 Kr) fun K2=>K2 ta rV tD x8b x8n x8c x9 bD h) fun ta rV tD h=>n4 ta rV tD Kr Kr h) fun y2 h=>K (S y2) h
theorem ok (q:asks x0 K h):zC 184 [S x0] h K:=
 cl Tryz.func184 q (fun p q=>sq (l:=L1) p q fun p q=>sq (l:=L2) p q fun p q=>sc (l:=L2) q (fun q=>sq (l:=L3) p q fun p q=>bl (b:=0) (lp p q fun p q=>lf p q)) fun p q=>lf p q) fun p q=>rt p q
end Xak
namespace Xal
abbrev L0:=[Z8 2]
variable (x0:Int)
variable (K:KV) (h:H)
abbrev asks:Prop:=cF L0 (fun Kr=>aM (x0 ≥ 65) (aM (x0<=(90:Int)) (Kr (bits .or .u8 x0 32) h) (Kr x0 h)) (Kr x0 h)) fun y2 h=>K (.int .u8 y2) h
theorem ok (q:asks x0 K h):zC 212 [.int .u8 x0] h K:=
 cl Tryz.func212 q (fun p q=>lf p q) fun p q=>rt p q
end Xal
namespace Xan
abbrev L0:=[Z6 4]
variable (x0:OA) (x1:Int)
variable (K:KV) (h:H)
abbrev asks:Prop:=cF L0 (fun Kr=>zC 48 [.pointer x0,.int .i64 x1] h fun v1 h2=>kt v1 fun p3=>aZ Tryz.prog (dy .eql 80 (.tmp 9) (.const (.pointer none)) (.pointer p3) (.pointer none)) h2 fun v4 h5=>au v4 fun b6=>cond b6 (Kr (-1) h5) (ae p3 fun a7=>zI .u8 h5 (((a7.add 0)).add 0) fun i8=>zI .u8 h5 (((a7.add 0)).add 1) fun i9=>zT h5 (((a7.add 0)).add 2) fun oY=>zS h5 (((a7.add 0)).add 3) fun mN kZ lR=>zT h5 (((a7.add 0)).add 4) fun jU=>zS h5 (((a7.add 0)).add 5) fun jK jv lg=>zC 66 [.pointer x0,(.agg ⟨[.int .u8 i8,.int .u8 i9,S oY,.slice mN kZ lR,S jU,.slice jK jv lg]⟩)] h5 fun qO gA=>aL .i64 qO fun i16=>Kr i16 gA)) fun y4 h=>K (.int .i64 y4) h
theorem ok (q:asks x0 x1 K h):zC 238 [.pointer x0,.int .i64 x1] h K:=
 cl Tryz.func238 q (fun p q=>lf p q) fun p q=>rt p q
end Xan
namespace TQ
abbrev L0:=[Zb 6]
abbrev L4:=[Zp 7,Zp 8]
abbrev L5:=[Zp 0,Z6 2,Zp 7,Zp 8,Zl 40,Z6 41,Z6 42]
abbrev L3:=[Zp 0,Z6 2,Zp 7,Zp 8]
abbrev L2:=[Zp 0,Z6 1,Z6 2,Zp 7,Zp 8]
abbrev L1:=[Zp 0,Z6 1,Z6 2]
abbrev T0:=TK L0
abbrev T4:=TK L4
abbrev T5:=TK L5
variable (x0:OA) (x1 x2:Int) (x7 x8:OA)
abbrev n5 (Kn Kr:T0) (h:H):Prop:=
 ae x8 fun a1=>zS h (a1.add 7) fun lN kW oy=>ae x7 fun a3=>zS h (a3.add 7) fun oe oI uP=>aZ Tryz.prog (Builtin.append_ #[82,82] 82 ⟨[.slice lN kW oy,.slice oe oI uP]⟩) h fun v5 h6=>aB v5 fun yU Ab yt=>ae x8 fun a8=>bc (a8.add 7) [.slice yU Ab yt] 0 h6 fun h9=>ae x7 fun jB=>bc (jB.add 7) [.slice none 0 0] 0 h9 fun eG=>Kr true eG
abbrev iq (Kn Ke0:T4) (Kr:T0):T5->T5:=fun K2 x0 x2 x7 x8 Qt Qu Vb D0 EE h=>aM (EE<D0) ((0<=EE/\EE<(Qu:Int))/\(ae Qt fun a12=>zI .i64 h (a12.add (Int.toNat EE*1)) fun i13=>ae x0 fun lE=>zS h (lE.add 0) fun kH kX oz=>(0<=i13/\i13<(kX:Int))/\(ae kH fun pv=>zP h (pv.add (Int.toNat i13*1)) fun p17=>ae p17 fun sJ=>bc (sJ.add 6) [.int .i64 x2] 0 h fun qs=>bd .i64 (EE+(1:Int))/\(K2 x0 x2 x7 x8 Qt Qu Vb D0 (EE+(1:Int)) qs)))) (Ke0 x7 x8 h)
abbrev gz (Kn Ke0:T4) (Kr:T0):Nat->T5:=LP L5 (iq Kn Ke0 Kr)
variable (K:KV) (h:H)
abbrev asks (x0:OA) (x1 x2:Int) (K:KV) (h:H):Prop:=cF L0 (fun Kr=>aA L1 (fun K6=>K6 x0 x1 x2 h) fun x0 x1 x2 h=>aA L2 (fun K5=>zC 48 [.pointer x0,.int .i64 x1] h fun Ot tY=>kt Ot fun p35=>zC 130 [.pointer x0,.int .i64 x2] tY fun Z4 lX=>kt Z4 fun p38=>K5 x0 x1 x2 p35 p38 lX) fun x0 x1 x2 x7 x8 h=>aA L3 (fun K4=>aZ Tryz.prog (dy .eql 80 (.tmp 17) (.const (.pointer none)) (.pointer x7) (.pointer none)) h fun v22 qu=>au v22 fun b24=>cond b24 (Kr false qu) (aZ Tryz.prog (dy .eql 80 (.tmp 20) (.const (.pointer none)) (.pointer x8) (.pointer none)) qu fun v25 od=>au v25 fun b27=>cond b27 (Kr false od) (ae x7 fun a28=>zS od (a28.add 7) fun DU BH DV=>aM ((BH:Int)=0) (Kr false od) (zC 140 [.pointer x0,.int .i64 x2,.int .i64 x1] od fun v30 yh=>au v30 fun b32=>cond b32 (Kr false yh) (K4 x0 x2 x7 x8 yh))))) fun x0 x2 x7 x8 h=>aA L4 (fun K1=>aA L5 (fun K3=>ae x7 fun a20=>zS h (a20.add 7) fun xz vA xA=>K3 x0 x2 x7 x8 xz vA xA (vA:Int) 0 h) fun x0 x2 x7 x8 Qt Qu Vb D0 EE h=>iy L5 (iq K1 K1 Kr) fun K2=>K2 x0 x2 x7 x8 Qt Qu Vb D0 EE h) fun x7 x8 h=>n5 x7 x8 Kr Kr h) fun y6 h=>K (.bool y6) h
theorem ok (q:asks x0 x1 x2 K h):zC 239 [.pointer x0,.int .i64 x1,.int .i64 x2] h K:=
 cl Tryz.func239 q (fun p q=>sq (l:=L1) p q fun p q=>sq (l:=L2) p q fun p q=>sq (l:=L3) p q fun p q=>sc (l:=L4) q (fun q=>sq (l:=L5) p q fun p q=>bl (b:=0) (lp p q fun p q=>lf p q)) fun p q=>lf p q) fun p q=>rt p q
end TQ
end Go.Proofs
