/- Own text. No condition. -/
import Derived.Test.YtijoifkjeamonaaGreatHc
import Derived.Test.YtijoifkjeamonaaGreatShR
import Derived.Test.YtijoifkjeamonaaGreatProg
namespace Go.Proofs
open Go Go.Sh
set_option linter.unusedVariables false
set_option maxRecDepth 100000
namespace Xcs
abbrev L0:=[Zp 0]
variable (K:KV) (h:H)
abbrev asks:Prop:=cF L0 (fun Kr=>zC 33 [] h fun v1 h2=>kt v1 fun p3=>aw h2 ⟨[.pointer p3,.int .u8 0,.int .u8 0,.int .i64 (-1),.bool false,.int .u8 0,S [],S []]⟩ 37 fun a4 h5=>Kr (some a4) h5) fun y0 h=>K (.pointer y0) h
theorem ok (q:asks K h):zC 14 [] h K:=
 cl Tryz.func14 q (fun p q=>lf p q) fun p q=>rt p q
end Xcs
namespace Yz
abbrev L0:=[Za 4,Zb 5]
abbrev L5:=[Za 3,Za 4]
abbrev L6:=[Za 3,Za 4,Zb 24]
abbrev L4:=[Za 3,Za 4,Zb 6]
abbrev L3:=[Zp 0,Za 3,Za 4,Zb 6]
abbrev L2:=[Zp 0,Za 3,Za 4]
abbrev T0:=TK L0
variable (x0:OA) (x1:Tk) (x3 x4:Addr) (x6:Bool)
abbrev n5 (Kn Kr:T0) (h:H):Prop:=
 bJ h x3 fun t1=>bc x4 [.int .u8 t1.k,S t1.n,.slice t1.b t1.l t1.c,.bool t1.z,S t1.t] 0 h fun h2=>Kr x4 true h2
abbrev n4 (x3 x4:Addr) (x6:Bool) (Kn Kr:T0) (h:H):Prop:=
 aA L5 (fun K1=>aA L6 (fun K2=>cond x6 (zI .u8 h (x3.add 0) fun i15=>aM (i15=(1:Int)) (zT h (x3.add 4) fun MC=>zC 35 [S MC,S [10]] h fun EI gI=>au EI fun b19=>cond b19 (K2 x3 x4 true gI) (K2 x3 x4 false gI)) (K2 x3 x4 false h)) (K2 x3 x4 false h)) fun x3 x4 x24 h=>cond x24 (zT h (x3.add 4) fun s3=>(0<=(1:Int)/\1<=(s3.length:Int)/\(s3.length:Int)<=(s3.length:Int))/\(bc (x3.add 4) [(S (sub s3 1 (s3.length:Int)))] 0 h fun h4=>(bJ h4 x3 fun t5=>bc x4 [.int .u8 t5.k,S t5.n,.slice t5.b t5.l t5.c,.bool t5.z,S t5.t] 0 h4 fun h6=>zT h6 (x3.add 4) fun s7=>aM (s7=[]) (Kr x4 false h6) (Kr x4 true h6))/\((bJ h4 x3 fun t8=>zT h4 (x3.add 4) fun s9=>bc x4 [.int .u8 t8.k,S t8.n,.slice t8.b t8.l t8.c,.bool t8.z,S t8.t] 0 h4 fun df=>aM (s9=[]) (Kr x4 false df) (Kr x4 true df))/\(bJ h4 x3 fun t11=>zT h4 (x3.add 4) fun jU=>aM (jU=[]) (bc x4 [.int .u8 t11.k,S t11.n,.slice t11.b t11.l t11.c,.bool t11.z,S t11.t] 0 h4 fun fI=>Kr x4 false fI) (bc x4 [.int .u8 t11.k,S t11.n,.slice t11.b t11.l t11.c,.bool t11.z,S t11.t] 0 h4 fun dx=>Kr x4 true dx))))) (K1 x3 x4 h)) fun x3 x4 h=>n5 x3 x4 Kn Kr h
variable (K:KV) (h:H)
abbrev asks (x0:OA) (x1:Tk) (K:KV) (h:H):Prop:=cF L0 (fun Kr=>aA L2 (fun K5=>aw h ⟨aT x1⟩ 45 fun a24 iF=>aw iF ⟨[.int .u8 0,S [],.slice none 0 0,.bool false,S []]⟩ 45 fun a26 CH=>K5 x0 a24 a26 CH) fun x0 x3 x4 h=>aA L3 (fun K4=>ae x0 fun a22=>zB h (a22.add 4) fun b23=>cond b23 (K4 x0 x3 x4 true h) (K4 x0 x3 x4 false h)) fun x0 x3 x4 x6 h=>aA L4 (fun K3=>ae x0 fun a20=>bc (a20.add 4) [.bool false] 0 h fun qt=>K3 x3 x4 x6 qt) fun x3 x4 x6 h=>n4 x3 x4 x6 Kr Kr h) fun y4 y5 h=>bJ h y4 fun t28=>K (.tuple ⟨[.agg ⟨aT t28⟩,.bool y5]⟩) h
theorem ok (q:asks x0 x1 K h):zC 16 [.pointer x0,.agg ⟨aT x1⟩] h K:=
 cl Tryz.func16 q (fun p q=>sq (l:=L2) p q fun p q=>sq (l:=L3) p q fun p q=>sq (l:=L4) p q fun p q=>sc (l:=L5) q (fun q=>sq (l:=L6) p q fun p q=>lf p q) fun p q=>lf p q) fun p q=>rt p q
end Yz
namespace Xcv
abbrev L0:List Sl:=[]
variable (x0:OA) (x1:Tk)
variable (K:KV) (h:H)
abbrev asks:Prop:=cF L0 (fun Kr=>aw h ⟨aT x1⟩ 45 fun a1 h2=>zI .u8 h2 (a1.add 0) fun i3=>aM (i3=(1:Int)) (ae x0 fun a4=>zP h2 (a4.add 0) fun p5=>zT h2 (a1.add 4) fun s6=>zC 36 [.pointer p5,S s6] h2 fun v7 h8=>Kr h8) (zC 37 [.pointer x0] h2 fun v9 df=>ae x0 fun jC=>zI .u8 df (jC.add 2) fun i12=>ae x0 fun oE=>bc (oE.add 1) [.int .u8 i12] 0 df fun dx=>ae x0 fun oF=>bc (oF.add 5) [.int .u8 0] 0 dx fun gZ=>ae x0 fun nE=>bc (nE.add 6) [S []] 0 gZ fun gI=>Kr gI)) fun h=>K (.tuple ⟨[]⟩) h
theorem ok (q:asks x0 x1 K h):zC 19 [.pointer x0,.agg ⟨aT x1⟩] h K:=
 cl Tryz.func19 q (fun p q=>lf p q) fun p q=>rt p q
end Xcv
namespace Xbg
abbrev L5:=[Zp 0,Za 3,Z8 5,Zb 20]
abbrev L4:=[Zp 0,Za 3,Z8 5,Zb 6]
abbrev L3:=[Zp 0,Za 3,Z8 5]
abbrev L2:=[Zp 0,Za 3]
abbrev L0:List Sl:=[]
variable (x0:OA) (x1:Tk)
variable (K:KV) (h:H)
abbrev asks (x0:OA) (x1:Tk) (K:KV) (h:H):Prop:=cF L0 (fun Kr=>aA L2 (fun K4=>aw h ⟨aT x1⟩ 45 fun a22 qu=>K4 x0 a22 qu) fun x0 x3 h=>aA L3 (fun K3=>zI .u8 h (x3.add 0) fun i21=>K3 x0 x3 i21 h) fun x0 x3 x5 h=>aA L4 (fun K2=>aM (x5=(1:Int)) (K2 x0 x3 x5 true h) (K2 x0 x3 x5 false h)) fun x0 x3 x5 x6 h=>cond x6 (ae x0 fun a1=>zP h (a1.add 0) fun p2=>zC 40 [.pointer p2] h fun v3 h4=>ae x0 fun a5=>zP h4 (a5.add 0) fun p6=>zT h4 (x3.add 4) fun s7=>zC 36 [.pointer p6,S s7] h4 fun v8 h9=>Kr h9) (aA L5 (fun K1=>aM (x5=(4:Int)) (K1 x0 x3 x5 true h) (K1 x0 x3 x5 false h)) fun x0 x3 x5 yr h=>cond yr (ae x0 fun jB=>zP h (jB.add 0) fun Fq=>zT h (x3.add 4) fun jU=>zC 41 [.pointer Fq,S jU] h fun mu dx=>Kr dx) (aM (x5=(2:Int)) (bJ h x3 fun t15=>zC 42 [.pointer x0,.agg ⟨aT t15⟩] h fun oD fh=>Kr fh) (aM (x5=(3:Int)) (bJ h x3 fun t18=>zC 43 [.pointer x0,.agg ⟨aT t18⟩] h fun xv gm=>Kr gm) (Kr h))))) fun h=>K (.tuple ⟨[]⟩) h
theorem ok (q:asks x0 x1 K h):zC 21 [.pointer x0,.agg ⟨aT x1⟩] h K:=
 cl Tryz.func21 q (fun p q=>sq p q fun p q=>sq p q fun p q=>bl (b:=0) (sq p q fun p q=>cn (i:=6) p q (fun p q=>lf p q) fun p q=>sq p q fun p q=>lf p q)) fun p q=>rt p q
end Xbg
namespace JF
abbrev L0:=[Zl 2]
abbrev L3:=[Zp 3]
abbrev L4:=[Zp 3,Zl 9,Z6 10,Z6 11]
abbrev L7:=[Zp 3,Za 6,Zb 7,Zl 9,Z6 10,Z6 11]
abbrev L6:=[Zp 3,Za 5,Zl 9,Z6 10,Z6 11]
abbrev L5:=[Zp 3,Zl 9,Z6 10,Z6 11,Zr 12]
abbrev L2:=[Zl 0,Zp 3]
abbrev L1:=[Zl 0]
abbrev T0:=TK L0
abbrev T3:=TK L3
abbrev T4:=TK L4
variable (ao:OA) (aj aq:Nat) (x3:OA)
abbrev n4 (Kn Kr:T0) (h:H):Prop:=
 ae x3 fun a1=>zP h (a1.add 0) fun p2=>ae p2 fun a3=>zP h (a3.add 0) fun p4=>zC 25 [.pointer p4,.int .i64 0] h fun v5 h6=>aB v5 fun yU Ab yt=>Kr yU Ab yt h6
abbrev gR (Kn Ke0:T3) (Kr:T0):T4->T4:=fun K2 x3 nP nQ oh bD ck h=>aA L5 (fun K7=>aM (ck<bD) (K7 x3 nP nQ oh bD ck (.bool true) h) (K7 x3 nP nQ oh bD ck (.bool false) h)) fun x3 nP nQ oh bD ck gX h=>aA L4 (fun K6=>au gX fun b37=>cond b37 (K6 x3 nP nQ oh bD ck h) (Ke0 x3 h)) fun x3 nP nQ oh bD ck h=>aA L4 (fun K3=>aA L6 (fun K5=>(0<=ck/\ck<(nQ:Int))/\(ae nP fun tw=>bJ h (tw.add (Int.toNat ck*5)) fun t33=>aw h ⟨[.int .u8 0,S [],.slice none 0 0,.bool false,S []]⟩ 45 fun O3 qi=>bc O3 [.int .u8 t33.k,S t33.n,.slice t33.b t33.l t33.c,.bool t33.z,S t33.t] 0 qi fun uq=>K5 x3 O3 nP nQ oh bD ck uq)) fun x3 x5 nP nQ oh bD ck h=>aA L7 (fun K4=>bJ h x5 fun t16=>zC 16 [.pointer x3,.agg ⟨aT t16⟩] h fun EI gI=>ni EI fun l19=>aG l19 fun e20 l21=>dT e20 fun t22=>aG l21 fun e23 l24=>au e23 fun b25=>cW l24 (cond b25 (aw gI ⟨[.int .u8 0,S [],.slice none 0 0,.bool false,S []]⟩ 45 fun a26 CH=>bc a26 [.int .u8 t22.k,S t22.n,.slice t22.b t22.l t22.c,.bool t22.z,S t22.t] 0 CH fun lY=>K4 x3 a26 true nP nQ oh bD ck lY) (aw gI ⟨[.int .u8 0,S [],.slice none 0 0,.bool false,S []]⟩ 45 fun Ow u3=>bc Ow [.int .u8 t22.k,S t22.n,.slice t22.b t22.l t22.c,.bool t22.z,S t22.t] 0 u3 fun yh=>K4 x3 Ow false nP nQ oh bD ck yh))) fun x3 x6 x7 nP nQ oh bD ck h=>cond x7 (ae x3 fun a8=>zI .u8 h (a8.add 1) fun i9=>aM (i9=(1:Int)) (bJ h x6 fun t10=>zC 19 [.pointer x3,.agg ⟨aT t10⟩] h fun v11 eL=>K3 x3 nP nQ oh bD ck eL) (bJ h x6 fun t13=>zC 21 [.pointer x3,.agg ⟨aT t13⟩] h fun qO gA=>K3 x3 nP nQ oh bD ck gA)) (K3 x3 nP nQ oh bD ck h)) fun x3 nP nQ oh bD ck h=>bd .i64 (ck+(1:Int))/\(K2 x3 nP nQ oh bD (ck+(1:Int)) h)
abbrev ia (Kn Ke0:T3) (Kr:T0):Nat->T4:=LP L4 (gR Kn Ke0 Kr)
variable (K:KV) (h:H)
abbrev asks (ao:OA) (aj aq:Nat) (K:KV) (h:H):Prop:=cF L0 (fun Kr=>aA L1 (fun lV=>lV ao aj aq h) fun ao aj aq h=>aA L2 (fun K9=>zC 14 [] h fun Mz yq=>kt Mz fun p40=>K9 ao aj aq p40 yq) fun ao aj aq x3 h=>aA L3 (fun K1=>aA L4 (fun K8=>K8 x3 ao aj aq (aj:Int) 0 h) fun x3 nP nQ oh bD ck h=>iy L4 (gR K1 K1 Kr) fun K2=>K2 x3 nP nQ oh bD ck h) fun x3 h=>n4 x3 Kr Kr h) fun qj qk ql h=>K (.slice qj qk ql) h
theorem ok (q:asks ao aj aq K h):zC 8 [.slice ao aj aq] h K:=
 cl Tryz.func8 q (fun p q=>sq (l:=L1) p q fun p q=>sq (l:=L2) p q fun p q=>sc (l:=L3) q (fun q=>sq (l:=L4) p q fun p q=>bl (b:=0) (lp p q fun p q=>sq (l:=L5) p q fun p q=>sq (l:=L4) p q fun p q=>sc (l:=L4) q (fun q=>bl (b:=1) (sq (l:=L6) p q fun p q=>sq (l:=L7) p q fun p q=>lf p q)) fun p q=>lf p q)) fun p q=>lf p q) fun p q=>rt p q
end JF
namespace Xcg
abbrev L0:List Sl:=[]
variable (x0:OA)
variable (K:KV) (h:H)
abbrev asks:Prop:=cF L0 (fun Kr=>ae x0 fun a1=>zP h (a1.add 0) fun p2=>ae x0 fun a3=>zP h (a3.add 0) fun p4=>ae p4 fun a5=>zS h (a5.add 1) fun lO gV mM=>bd .i64 ((gV:Int) - 1)/\(zC 57 [.pointer p2,.int .i64 ((gV:Int) - 1)] h fun v7 h8=>Kr h8)) fun h=>K (.tuple ⟨[]⟩) h
theorem ok (q:asks x0 K h):zC 37 [.pointer x0] h K:=
 cl Tryz.func37 q (fun p q=>lf p q) fun p q=>rt p q
end Xcg
namespace Xcn
abbrev L25:=[Zp 0,Za 3,Zs 5,Zb 179]
abbrev L24:=[Zp 0,Za 3,Zs 5,Zb 174]
abbrev L23:=[Zp 0,Za 3,Zs 5,Zb 169]
abbrev L22:=[Zp 0,Za 3,Zs 5,Zb 164]
abbrev L21:=[Zp 0,Za 3,Zs 5,Zb 153]
abbrev L20:=[Zp 0,Za 3,Zs 5,Zb 148]
abbrev L19:=[Zp 0,Za 3,Zs 5,Zb 141]
abbrev XT:=[Zp 0,Za 3,Zs 5,Zb 136]
abbrev SY:=[Zp 0,Za 3,Zs 5,Zb 131]
abbrev H5:=[Zp 0,Za 3,Zs 5,Zb 126]
abbrev H6:=[Zp 0,Za 3,Zs 5,Zb 121]
abbrev JQ:=[Zp 0,Za 3,Zs 5,Zb 115]
abbrev Ao:=[Zp 0,Za 3,Zs 5,Zb 110]
abbrev Ch:=[Zp 0,Za 3,Zs 5,Zb 105]
abbrev Er:=[Zp 0,Za 3,Zs 5,Zb 99]
abbrev yx:=[Zp 0,Za 3,Zs 5,Zb 89]
abbrev L9:=[Zp 0,Za 3,Zs 5,Zb 60]
abbrev L8:=[Zp 0,Za 3,Zs 5,Zb 55]
abbrev L7:=[Zp 0,Za 3,Zs 5,Zb 47]
abbrev L6:=[Zp 0,Za 3,Zs 5,Zb 42]
abbrev L5:=[Zp 0,Za 3,Zs 5,Zb 30]
abbrev L4:=[Zp 0,Za 3,Zs 5,Zb 15]
abbrev L3:=[Zp 0,Za 3,Zs 5]
abbrev L2:=[Zp 0,Za 3]
abbrev L0:List Sl:=[]
variable (x0:OA) (x1:Tk)
variable (K:KV) (h:H)
abbrev asks (x0:OA) (x1:Tk) (K:KV) (h:H):Prop:=cF L0 (fun Kr=>aA L2 (fun K24=>aw h ⟨aT x1⟩ 45 fun a96 XU=>K24 x0 a96 XU) fun x0 x3 h=>aA L3 (fun K23=>zT h (x3.add 1) fun s95=>K23 x0 x3 s95 h) fun x0 x3 x5 h=>aA L4 (fun K22=>BQ x5 [[104,116,109,108],[98,111,100,121],[104,101,97,100],[102,114,97,109,101],[102,114,97,109,101,115,101,116],[99,97,112,116,105,111,110],[99,111,108],[99,111,108,103,114,111,117,112],[116,98,111,100,121],[116,100],[116,102,111,111,116],[116,104],[116,104,101,97,100],[116,114]] fun b94=>K22 x0 x3 x5 b94 h) fun x0 x3 x5 H7 h=>cond H7 (Kr h) (aA L5 (fun K21=>BQ x5 [[98,97,115,101],[98,97,115,101,102,111,110,116],[98,103,115,111,117,110,100],[108,105,110,107],[109,101,116,97],[112,97,114,97,109],[115,111,117,114,99,101],[116,114,97,99,107]] fun b93=>K21 x0 x3 x5 b93 h) fun x0 x3 x5 JR h=>cond JR (bJ h x3 fun t1=>zC 67 [.pointer x0,.agg ⟨aT t1⟩] h fun v2 h3=>Kr h3) (aA L6 (fun Rf=>aM (x5=[116,105,116,108,101]) (Rf x0 x3 x5 true h) (Rf x0 x3 x5 false h)) fun x0 x3 x5 EE h=>cond EE (bJ h x3 fun t4=>zC 68 [.pointer x0,.agg ⟨aT t4⟩] h fun v5 h6=>Kr h6) (aA L7 (fun WA=>BQ x5 [[110,111,102,114,97,109,101,115],[115,116,121,108,101],[105,102,114,97,109,101],[110,111,101,109,98,101,100]] fun b92=>WA x0 x3 x5 b92 h) fun x0 x3 x5 x47 h=>cond x47 (bJ h x3 fun t7=>zC 69 [.pointer x0,.agg ⟨aT t7⟩] h fun v8 h9=>Kr h9) (aA L8 (fun OE=>aM (x5=[115,99,114,105,112,116]) (OE x0 x3 x5 true h) (OE x0 x3 x5 false h)) fun x0 x3 x5 x55 h=>cond x55 (bJ h x3 fun t10=>zC 70 [.pointer x0,.agg ⟨aT t10⟩] h fun v11 eL=>Kr eL) (aA L9 (fun Wz=>BQ x5 [[97,100,100,114,101,115,115],[97,114,116,105,99,108,101],[97,115,105,100,101],[98,108,111,99,107,113,117,111,116,101],[99,101,110,116,101,114],[100,101,116,97,105,108,115],[100,105,97,108,111,103],[100,105,114],[100,105,118],[100,108],[102,105,101,108,100,115,101,116],[102,105,103,99,97,112,116,105,111,110],[102,105,103,117,114,101],[102,111,111,116,101,114],[104,101,97,100,101,114],[104,103,114,111,117,112],[109,97,105,110],[109,101,110,117],[110,97,118],[111,108],[112],[115,101,97,114,99,104],[115,101,99,116,105,111,110],[115,117,109,109,97,114,121],[117,108]] fun b91=>Wz x0 x3 x5 b91 h) fun x0 x3 x5 x60 h=>cond x60 (bJ h x3 fun t13=>zC 71 [.pointer x0,.agg ⟨aT t13⟩] h fun qO gA=>Kr gA) (aA yx (fun OD=>BQ x5 [[104,49],[104,50],[104,51],[104,52],[104,53],[104,54]] fun b90=>OD x0 x3 x5 b90 h) fun x0 x3 x5 x89 h=>cond x89 (bJ h x3 fun t16=>zC 72 [.pointer x0,.agg ⟨aT t16⟩] h fun EI gI=>Kr gI) (aA Er (fun Cf=>BQ x5 [[112,114,101],[108,105,115,116,105,110,103]] fun b89=>Cf x0 x3 x5 b89 h) fun x0 x3 x5 x99 h=>cond x99 (bJ h x3 fun t19=>zC 73 [.pointer x0,.agg ⟨aT t19⟩] h fun v20 qt=>Kr qt) (aA Ch (fun yw=>aM (x5=[102,111,114,109]) (yw x0 x3 x5 true h) (yw x0 x3 x5 false h)) fun x0 x3 x5 aja h=>cond aja (bJ h x3 fun t22=>zC 74 [.pointer x0,.agg ⟨aT t22⟩] h fun v23 mC=>Kr mC) (aA Ao (fun xS=>aM (x5=[108,105]) (xS x0 x3 x5 true h) (xS x0 x3 x5 false h)) fun x0 x3 x5 ajb h=>cond ajb (bJ h x3 fun t25=>zC 75 [.pointer x0,.agg ⟨aT t25⟩] h fun v26 CH=>Kr CH) (aA JQ (fun zb=>BQ x5 [[100,100],[100,116]] fun b88=>zb x0 x3 x5 b88 h) fun x0 x3 x5 WH h=>cond WH (bJ h x3 fun t28=>zC 76 [.pointer x0,.agg ⟨aT t28⟩] h fun Od u3=>Kr u3) (aA H6 (fun re=>aM (x5=[112,108,97,105,110,116,101,120,116]) (re x0 x3 x5 true h) (re x0 x3 x5 false h)) fun x0 x3 x5 ajd h=>cond ajd (bJ h x3 fun t31=>zC 77 [.pointer x0,.agg ⟨aT t31⟩] h fun B0 lW=>Kr lW) (aA H5 (fun lV=>aM (x5=[98,117,116,116,111,110]) (lV x0 x3 x5 true h) (lV x0 x3 x5 false h)) fun x0 x3 x5 Oa h=>cond Oa (bJ h x3 fun t34=>zC 78 [.pointer x0,.agg ⟨aT t34⟩] h fun Kj uq=>Kr uq) (aA SY (fun K9=>aM (x5=[97]) (K9 x0 x3 x5 true h) (K9 x0 x3 x5 false h)) fun x0 x3 x5 aje h=>cond aje (bJ h x3 fun t37=>zC 79 [.pointer x0,.agg ⟨aT t37⟩] h fun Mz yq=>Kr yq) (aA XT (fun K8=>aM (x5=[110,111,98,114]) (K8 x0 x3 x5 true h) (K8 x0 x3 x5 false h)) fun x0 x3 x5 ajf h=>cond ajf (bJ h x3 fun t40=>zC 80 [.pointer x0,.agg ⟨aT t40⟩] h fun ZY I9=>Kr I9) (aA L19 (fun K7=>BQ x5 [[97,112,112,108,101,116],[109,97,114,113,117,101,101],[111,98,106,101,99,116]] fun b87=>K7 x0 x3 x5 b87 h) fun x0 x3 x5 ajg h=>cond ajg (bJ h x3 fun t43=>zC 81 [.pointer x0,.agg ⟨aT t43⟩] h fun I8 uO=>Kr uO) (aA L20 (fun K6=>aM (x5=[116,97,98,108,101]) (K6 x0 x3 x5 true h) (K6 x0 x3 x5 false h)) fun x0 x3 x5 WI h=>cond WI (bJ h x3 fun t46=>zC 82 [.pointer x0,.agg ⟨aT t46⟩] h fun UR DT=>Kr DT) (aA L21 (fun K5=>BQ x5 [[97,114,101,97],[98,114],[101,109,98,101,100],[105,109,103],[107,101,121,103,101,110],[119,98,114],[105,110,112,117,116]] fun b86=>K5 x0 x3 x5 b86 h) fun x0 x3 x5 ajh h=>cond ajh (bJ h x3 fun t49=>zC 83 [.pointer x0,.agg ⟨aT t49⟩] h fun QP BV=>Kr BV) (aA L22 (fun K4=>aM (x5=[105,109,97,103,101]) (K4 x0 x3 x5 true h) (K4 x0 x3 x5 false h)) fun x0 x3 x5 aji h=>cond aji (bJ h x3 fun t52=>zC 84 [.pointer x0,.agg ⟨aT t52⟩] h fun v53 JU=>Kr JU) (aA L23 (fun K3=>aM (x5=[104,114]) (K3 x0 x3 x5 true h) (K3 x0 x3 x5 false h)) fun x0 x3 x5 ajj h=>cond ajj (bJ h x3 fun t55=>zC 85 [.pointer x0,.agg ⟨aT t55⟩] h fun v56 h57=>Kr h57) (aA L24 (fun K2=>aM (x5=[116,101,120,116,97,114,101,97]) (K2 x0 x3 x5 true h) (K2 x0 x3 x5 false h)) fun x0 x3 x5 ajk h=>cond ajk (bJ h x3 fun t58=>zC 86 [.pointer x0,.agg ⟨aT t58⟩] h fun v59 Eu=>Kr Eu) (aA L25 (fun K1=>aM (x5=[120,109,112]) (K1 x0 x3 x5 true h) (K1 x0 x3 x5 false h)) fun x0 x3 x5 WJ h=>cond WJ (bJ h x3 fun t61=>zC 87 [.pointer x0,.agg ⟨aT t61⟩] h fun Xn jZ=>Kr jZ) (BQ x5 [[111,112,116,103,114,111,117,112],[111,112,116,105,111,110]] fun b64=>cond b64 (bJ h x3 fun t65=>zC 88 [.pointer x0,.agg ⟨aT t65⟩] h fun v66 h67=>Kr h67) (BQ x5 [[114,98],[114,116,99],[114,112],[114,116]] fun b68=>cond b68 (bJ h x3 fun t69=>zC 89 [.pointer x0,.agg ⟨aT t69⟩] h fun v70 XS=>Kr XS) (BQ x5 [[109,97,116,104],[115,118,103]] fun b72=>cond b72 (bJ h x3 fun t73=>zC 90 [.pointer x0,.agg ⟨aT t73⟩] h fun Tf h75=>Kr h75) (zT h (x3.add 1) fun s76=>zC 91 [S s76] h fun Yl JH=>au Yl fun b79=>cond b79 (bJ JH x3 fun t80=>zC 92 [.pointer x0,.agg ⟨aT t80⟩] JH fun v81 SZ=>Kr SZ) (bJ JH x3 fun t83=>zC 93 [.pointer x0,.agg ⟨aT t83⟩] JH fun v84 S0=>Kr S0))))))))))))))))))))))))))) fun h=>K (.tuple ⟨[]⟩) h
theorem ok (q:asks x0 x1 K h):zC 42 [.pointer x0,.agg ⟨aT x1⟩] h K:=
 cl Tryz.func42 q (fun p q=>sq p q fun p q=>sq p q fun p q=>bl (b:=0) (sq p q fun p q=>cn (i:=15) p q (fun p q=>lf p q) fun p q=>sq p q fun p q=>cn (i:=30) p q (fun p q=>lf p q) fun p q=>sq p q fun p q=>cn (i:=42) p q (fun p q=>lf p q) fun p q=>sq p q fun p q=>cn (i:=47) p q (fun p q=>lf p q) fun p q=>sq p q fun p q=>cn (i:=55) p q (fun p q=>lf p q) fun p q=>sq p q fun p q=>cn (i:=60) p q (fun p q=>lf p q) fun p q=>sq p q fun p q=>cn (i:=89) p q (fun p q=>lf p q) fun p q=>sq p q fun p q=>cn (i:=99) p q (fun p q=>lf p q) fun p q=>sq p q fun p q=>cn (i:=105) p q (fun p q=>lf p q) fun p q=>sq p q fun p q=>cn (i:=110) p q (fun p q=>lf p q) fun p q=>sq p q fun p q=>cn (i:=115) p q (fun p q=>lf p q) fun p q=>sq p q fun p q=>cn (i:=121) p q (fun p q=>lf p q) fun p q=>sq p q fun p q=>cn (i:=126) p q (fun p q=>lf p q) fun p q=>sq p q fun p q=>cn (i:=131) p q (fun p q=>lf p q) fun p q=>sq p q fun p q=>cn (i:=136) p q (fun p q=>lf p q) fun p q=>sq p q fun p q=>cn (i:=141) p q (fun p q=>lf p q) fun p q=>sq p q fun p q=>cn (i:=148) p q (fun p q=>lf p q) fun p q=>sq p q fun p q=>cn (i:=153) p q (fun p q=>lf p q) fun p q=>sq p q fun p q=>cn (i:=164) p q (fun p q=>lf p q) fun p q=>sq p q fun p q=>cn (i:=169) p q (fun p q=>lf p q) fun p q=>sq p q fun p q=>cn (i:=174) p q (fun p q=>lf p q) fun p q=>sq p q fun p q=>lf p q)) fun p q=>rt p q
end Xcn
namespace Xbo
abbrev Ch:=[Zp 0,Za 3,Zb 84]
abbrev Er:=[Zp 0,Za 3,Zs 5,Zb 77]
abbrev yx:=[Zp 0,Za 3,Zs 5,Zb 68]
abbrev L9:=[Zp 0,Za 3,Zs 5,Zb 61]
abbrev L8:=[Zp 0,Za 3,Zs 5,Zb 57]
abbrev L6:=[Zp 0,Za 3,Zs 5,Zb 53]
abbrev L5:=[Zp 0,Za 3,Zs 5,Zb 22]
abbrev L4:=[Zp 0,Za 3,Zs 5,Zb 19]
abbrev L3:=[Zp 0,Za 3,Zs 5]
abbrev L2:=[Zp 0,Za 3]
abbrev L0:List Sl:=[]
variable (x0:OA) (x1:Tk)
variable (K:KV) (h:H)
abbrev asks (x0:OA) (x1:Tk) (K:KV) (h:H):Prop:=cF L0 (fun Kr=>aA L2 (fun lV=>aw h ⟨aT x1⟩ 45 fun Gy lX=>lV x0 Gy lX) fun x0 x3 h=>aA L3 (fun K9=>zT h (x3.add 1) fun s35=>K9 x0 x3 s35 h) fun x0 x3 x5 h=>aA L4 (fun K8=>BQ x5 [[98,111,100,121],[104,116,109,108]] fun US=>K8 x0 x3 x5 US h) fun x0 x3 x5 pZ h=>cond pZ (Kr h) (aA L5 (fun K7=>BQ x5 [[97,100,100,114,101,115,115],[97,114,116,105,99,108,101],[97,115,105,100,101],[98,108,111,99,107,113,117,111,116,101],[98,117,116,116,111,110],[99,101,110,116,101,114],[100,101,116,97,105,108,115],[100,105,97,108,111,103],[100,105,114],[100,105,118],[100,108],[102,105,101,108,100,115,101,116],[102,105,103,99,97,112,116,105,111,110],[102,105,103,117,114,101],[102,111,111,116,101,114],[104,101,97,100,101,114],[104,103,114,111,117,112],[108,105,115,116,105,110,103],[109,97,105,110],[109,101,110,117],[110,97,118],[111,108],[112,114,101],[115,101,97,114,99,104],[115,101,99,116,105,111,110],[115,117,109,109,97,114,121],[117,108]] fun U2=>K7 x0 x3 x5 U2 h) fun x0 x3 x5 x22 h=>cond x22 (bJ h x3 fun t1=>zC 94 [.pointer x0,.agg ⟨aT t1⟩] h fun v2 h3=>Kr h3) (aA L6 (fun K6=>aM (x5=[102,111,114,109]) (K6 x0 x3 x5 true h) (K6 x0 x3 x5 false h)) fun x0 x3 x5 x53 h=>cond x53 (zC 95 [.pointer x0] h fun v4 h5=>Kr h5) (aA L8 (fun K5=>aM (x5=[112]) (K5 x0 x3 x5 true h) (K5 x0 x3 x5 false h)) fun x0 x3 x5 x57 h=>cond x57 (zC 96 [.pointer x0] h fun v6 h7=>Kr h7) (aA L9 (fun K4=>BQ x5 [[108,105],[100,100],[100,116]] fun b32=>K4 x0 x3 x5 b32 h) fun x0 x3 x5 x61 h=>cond x61 (bJ h x3 fun t8=>zC 97 [.pointer x0,.agg ⟨aT t8⟩] h fun v9 df=>Kr df) (aA yx (fun K3=>BQ x5 [[104,49],[104,50],[104,51],[104,52],[104,53],[104,54]] fun b31=>K3 x0 x3 x5 b31 h) fun x0 x3 x5 x68 h=>cond x68 (zC 98 [.pointer x0] h fun v11 eL=>Kr eL) (aA Er (fun K2=>BQ x5 [[97,112,112,108,101,116],[109,97,114,113,117,101,101],[111,98,106,101,99,116]] fun b30=>K2 x0 x3 x5 b30 h) fun x0 x3 x5 x77 h=>cond x77 (bJ h x3 fun t13=>zC 99 [.pointer x0,.agg ⟨aT t13⟩] h fun qO gA=>Kr gA) (aA Ch (fun K1=>aM (x5=[98,114]) (K1 x0 x3 true h) (K1 x0 x3 false h)) fun x0 x3 x84 h=>cond x84 (zC 83 [.pointer x0,(.agg ⟨[.int .u8 0,S [98,114],.slice none 0 0,.bool false,S []]⟩)] h fun oD fh=>Kr fh) (zT h (x3.add 1) fun Sr=>zC 91 [S Sr] h fun xv gm=>au xv fun b21=>cond b21 (bJ gm x3 fun t22=>zC 100 [.pointer x0,.agg ⟨aT t22⟩] gm fun v23 mC=>Kr mC) (ae x0 fun a25=>zP gm (a25.add 0) fun Jb=>zT gm (x3.add 1) fun s27=>zC 101 [.pointer Jb,S s27] gm fun v28 uW=>Kr uW)))))))))) fun h=>K (.tuple ⟨[]⟩) h
theorem ok (q:asks x0 x1 K h):zC 43 [.pointer x0,.agg ⟨aT x1⟩] h K:=
 cl Tryz.func43 q (fun p q=>sq p q fun p q=>sq p q fun p q=>bl (b:=0) (sq p q fun p q=>cn (i:=19) p q (fun p q=>lf p q) fun p q=>sq p q fun p q=>cn (i:=22) p q (fun p q=>lf p q) fun p q=>sq p q fun p q=>cn (i:=53) p q (fun p q=>lf p q) fun p q=>sq p q fun p q=>cn (i:=57) p q (fun p q=>lf p q) fun p q=>sq p q fun p q=>cn (i:=61) p q (fun p q=>lf p q) fun p q=>sq p q fun p q=>cn (i:=68) p q (fun p q=>lf p q) fun p q=>sq p q fun p q=>cn (i:=77) p q (fun p q=>lf p q) fun p q=>sq p q fun p q=>lf p q)) fun p q=>rt p q
end Xbo
namespace Xbn
abbrev L0:List Sl:=[]
variable (x0:OA) (x1:Tk)
variable (K:KV) (h:H)
abbrev asks:Prop:=cF L0 (fun Kr=>aw h ⟨aT x1⟩ 45 fun a1 h2=>bJ h2 a1 fun t3=>zC 143 [.pointer x0,.agg ⟨aT t3⟩] h2 fun v4 h5=>zC 37 [.pointer x0] h5 fun v6 h7=>Kr h7) fun h=>K (.tuple ⟨[]⟩) h
theorem ok (q:asks x0 x1 K h):zC 67 [.pointer x0,.agg ⟨aT x1⟩] h K:=
 cl Tryz.func67 q (fun p q=>lf p q) fun p q=>rt p q
end Xbn
namespace Xck
abbrev L0:List Sl:=[]
variable (x0:OA) (x1:Tk)
variable (K:KV) (h:H)
abbrev asks:Prop:=cF L0 (fun Kr=>aw h ⟨aT x1⟩ 45 fun a1 h2=>bJ h2 a1 fun t3=>zC 143 [.pointer x0,.agg ⟨aT t3⟩] h2 fun v4 h5=>bJ h5 a1 fun t6=>zC 144 [.pointer x0,.agg ⟨aT t6⟩,.int .u8 1] h5 fun v7 h8=>Kr h8) fun h=>K (.tuple ⟨[]⟩) h
theorem ok (q:asks x0 x1 K h):zC 68 [.pointer x0,.agg ⟨aT x1⟩] h K:=
 cl Tryz.func68 q (fun p q=>lf p q) fun p q=>rt p q
end Xck
namespace Xci
abbrev L0:List Sl:=[]
variable (x0:OA) (x1:Tk)
variable (K:KV) (h:H)
abbrev asks:Prop:=cF L0 (fun Kr=>aw h ⟨aT x1⟩ 45 fun a1 h2=>bJ h2 a1 fun t3=>zC 143 [.pointer x0,.agg ⟨aT t3⟩] h2 fun v4 h5=>bJ h5 a1 fun t6=>zC 144 [.pointer x0,.agg ⟨aT t6⟩,.int .u8 2] h5 fun v7 h8=>Kr h8) fun h=>K (.tuple ⟨[]⟩) h
theorem ok (q:asks x0 x1 K h):zC 69 [.pointer x0,.agg ⟨aT x1⟩] h K:=
 cl Tryz.func69 q (fun p q=>lf p q) fun p q=>rt p q
end Xci
namespace Xcm
abbrev L0:List Sl:=[]
variable (x0:OA) (x1:Tk)
variable (K:KV) (h:H)
abbrev asks:Prop:=cF L0 (fun Kr=>aw h ⟨aT x1⟩ 45 fun a1 h2=>bJ h2 a1 fun t3=>zC 143 [.pointer x0,.agg ⟨aT t3⟩] h2 fun v4 h5=>bJ h5 a1 fun t6=>zC 144 [.pointer x0,.agg ⟨aT t6⟩,.int .u8 3] h5 fun v7 h8=>Kr h8) fun h=>K (.tuple ⟨[]⟩) h
theorem ok (q:asks x0 x1 K h):zC 70 [.pointer x0,.agg ⟨aT x1⟩] h K:=
 cl Tryz.func70 q (fun p q=>lf p q) fun p q=>rt p q
end Xcm
namespace Xbj
abbrev L0:List Sl:=[]
variable (x0:OA) (x1:Tk)
variable (K:KV) (h:H)
abbrev asks:Prop:=cF L0 (fun Kr=>aw h ⟨aT x1⟩ 45 fun a1 h2=>zC 145 [.pointer x0] h2 fun v3 h4=>bJ h4 a1 fun t5=>zC 143 [.pointer x0,.agg ⟨aT t5⟩] h4 fun v6 h7=>Kr h7) fun h=>K (.tuple ⟨[]⟩) h
theorem ok (q:asks x0 x1 K h):zC 71 [.pointer x0,.agg ⟨aT x1⟩] h K:=
 cl Tryz.func71 q (fun p q=>lf p q) fun p q=>rt p q
end Xbj
namespace Xbz
abbrev L0:List Sl:=[]
variable (x0:OA) (x1:Tk)
variable (K:KV) (h:H)
abbrev asks:Prop:=cF L0 (fun Kr=>aw h ⟨aT x1⟩ 45 fun a1 h2=>zC 145 [.pointer x0] h2 fun v3 h4=>zC 147 [] h4 fun v5 h6=>aB v5 fun yU Ab yt=>zC 146 [.pointer x0,.slice yU Ab yt] h6 fun v8 h9=>au v8 fun QC=>cond QC (zC 37 [.pointer x0] h9 fun v11 eL=>bJ eL a1 fun t13=>zC 143 [.pointer x0,.agg ⟨aT t13⟩] eL fun qO gA=>Kr gA) (bJ h9 a1 fun t16=>zC 143 [.pointer x0,.agg ⟨aT t16⟩] h9 fun EI gI=>Kr gI)) fun h=>K (.tuple ⟨[]⟩) h
theorem ok (q:asks x0 x1 K h):zC 72 [.pointer x0,.agg ⟨aT x1⟩] h K:=
 cl Tryz.func72 q (fun p q=>lf p q) fun p q=>rt p q
end Xbz
namespace Xch
abbrev L0:List Sl:=[]
variable (x0:OA) (x1:Tk)
variable (K:KV) (h:H)
abbrev asks:Prop:=cF L0 (fun Kr=>aw h ⟨aT x1⟩ 45 fun a1 h2=>bJ h2 a1 fun t3=>zC 71 [.pointer x0,.agg ⟨aT t3⟩] h2 fun v4 h5=>ae x0 fun a6=>bc (a6.add 4) [.bool true] 0 h5 fun h7=>Kr h7) fun h=>K (.tuple ⟨[]⟩) h
theorem ok (q:asks x0 x1 K h):zC 73 [.pointer x0,.agg ⟨aT x1⟩] h K:=
 cl Tryz.func73 q (fun p q=>lf p q) fun p q=>rt p q
end Xch
namespace Xbv
abbrev L3:=[Zp 0,Za 3,Zb 8]
abbrev L2:=[Zp 0,Za 3]
abbrev L0:List Sl:=[]
variable (x0:OA) (x1:Tk)
variable (K:KV) (h:H)
abbrev asks (x0:OA) (x1:Tk) (K:KV) (h:H):Prop:=cF L0 (fun Kr=>aA L2 (fun K2=>aw h ⟨aT x1⟩ 45 fun oE dx=>K2 x0 oE dx) fun x0 x3 h=>aA L3 (fun K1=>ae x0 fun jC=>zI .i64 h (jC.add 3) fun i12=>aM (i12<(0:Int)) (K1 x0 x3 true h) (K1 x0 x3 false h)) fun x0 x3 x8 h=>cond x8 (bJ h x3 fun t1=>zC 71 [.pointer x0,.agg ⟨aT t1⟩] h fun v2 h3=>ae x0 fun a4=>zP h3 (a4.add 0) fun p5=>zC 55 [.pointer p5] h3 fun v6 h7=>dO v6 fun ajo o8_1 o8_2 o8_3=>ae x0 fun a9=>bc (a9.add 3) [.int .i64 ajo] 0 h7 fun df=>Kr df) (Kr h)) fun h=>K (.tuple ⟨[]⟩) h
theorem ok (q:asks x0 x1 K h):zC 74 [.pointer x0,.agg ⟨aT x1⟩] h K:=
 cl Tryz.func74 q (fun p q=>sq p q fun p q=>sq p q fun p q=>lf p q) fun p q=>rt p q
end Xbv
namespace Xb8
abbrev L0:List Sl:=[]
variable (x0:OA) (x1:Tk)
variable (K:KV) (h:H)
abbrev asks:Prop:=cF L0 (fun Kr=>aw h ⟨aT x1⟩ 45 fun a1 h2=>aw h2 #[S [108,105]] 9 fun a3 h4=>zC 148 [.pointer x0,.slice (some a3) 1 1] h4 fun v5 h6=>bJ h6 a1 fun t7=>zC 71 [.pointer x0,.agg ⟨aT t7⟩] h6 fun v8 h9=>Kr h9) fun h=>K (.tuple ⟨[]⟩) h
theorem ok (q:asks x0 x1 K h):zC 75 [.pointer x0,.agg ⟨aT x1⟩] h K:=
 cl Tryz.func75 q (fun p q=>lf p q) fun p q=>rt p q
end Xb8
namespace Xbm
abbrev L0:List Sl:=[]
variable (x0:OA) (x1:Tk)
variable (K:KV) (h:H)
abbrev asks:Prop:=cF L0 (fun Kr=>aw h ⟨aT x1⟩ 45 fun a1 h2=>aw h2 (sW [[100,100],[100,116]]) 9 fun a3 h4=>zC 148 [.pointer x0,.slice (some a3) 2 2] h4 fun v5 h6=>bJ h6 a1 fun t7=>zC 71 [.pointer x0,.agg ⟨aT t7⟩] h6 fun v8 h9=>Kr h9) fun h=>K (.tuple ⟨[]⟩) h
theorem ok (q:asks x0 x1 K h):zC 76 [.pointer x0,.agg ⟨aT x1⟩] h K:=
 cl Tryz.func76 q (fun p q=>lf p q) fun p q=>rt p q
end Xbm
namespace Xcf
abbrev L0:List Sl:=[]
variable (x0:OA) (x1:Tk)
variable (K:KV) (h:H)
abbrev asks:Prop:=cF L0 (fun Kr=>aw h ⟨aT x1⟩ 45 fun a1 h2=>bJ h2 a1 fun t3=>zC 71 [.pointer x0,.agg ⟨aT t3⟩] h2 fun v4 h5=>ae x0 fun a6=>bc (a6.add 5) [.int .u8 4] 0 h5 fun h7=>Kr h7) fun h=>K (.tuple ⟨[]⟩) h
theorem ok (q:asks x0 x1 K h):zC 77 [.pointer x0,.agg ⟨aT x1⟩] h K:=
 cl Tryz.func77 q (fun p q=>lf p q) fun p q=>rt p q
end Xcf
namespace Xbk
abbrev L0:List Sl:=[]
variable (x0:OA) (x1:Tk)
variable (K:KV) (h:H)
abbrev asks:Prop:=cF L0 (fun Kr=>aw h ⟨aT x1⟩ 45 fun a1 h2=>aw h2 #[S [98,117,116,116,111,110]] 9 fun a3 h4=>zC 149 [.pointer x0,.int .u8 0,.slice (some a3) 1 1] h4 fun v5 h6=>au v5 fun b7=>cond b7 (zC 150 [.pointer x0,S []] h6 fun v8 h9=>aw h9 #[S [98,117,116,116,111,110]] 9 fun jB eG=>zC 151 [.pointer x0,.slice (some jB) 1 1] eG fun v12 fI=>bJ fI a1 fun t14=>zC 93 [.pointer x0,.agg ⟨aT t14⟩] fI fun vd gZ=>Kr gZ) (bJ h6 a1 fun t17=>zC 93 [.pointer x0,.agg ⟨aT t17⟩] h6 fun HP qs=>Kr qs)) fun h=>K (.tuple ⟨[]⟩) h
theorem ok (q:asks x0 x1 K h):zC 78 [.pointer x0,.agg ⟨aT x1⟩] h K:=
 cl Tryz.func78 q (fun p q=>lf p q) fun p q=>rt p q
end Xbk
namespace Xb9
abbrev L2:=[Zp 0,Za 3]
abbrev L5:=[Zp 0,Za 3,Za 5]
abbrev L4:=[Zp 0,Za 3,Z6 4,Zb 17]
abbrev L3:=[Zp 0,Za 3,Z6 4]
abbrev L0:List Sl:=[]
variable (x0:OA) (x1:Tk)
variable (K:KV) (h:H)
abbrev asks (x0:OA) (x1:Tk) (K:KV) (h:H):Prop:=cF L0 (fun Kr=>aA L2 (fun K7=>aw h ⟨aT x1⟩ 45 fun Oy h58=>K7 x0 Oy h58) fun x0 x3 h=>aA L2 (fun K1=>aA L3 (fun K6=>ae x0 fun a49=>zP h (a49.add 0) fun p50=>ae p50 fun a51=>zS h (a51.add 2) fun VM VN VO=>zT h (x3.add 1) fun s53=>zC 152 [.slice VM VN VO,S s53] h fun v54 h55=>aL .i64 v54 fun i56=>K6 x0 x3 i56 h55) fun x0 x3 x4 h=>aA L4 (fun K5=>aM (x4 ≥ 0) (K5 x0 x3 x4 true h) (K5 x0 x3 x4 false h)) fun x0 x3 x4 Z9 h=>cond Z9 (aA L5 (fun K4=>ae x0 fun a40=>zP h (a40.add 0) fun p41=>ae p41 fun QU=>zS h (QU.add 2) fun Jo GC NN=>(0<=x4/\x4<(GC:Int))/\(ae Jo fun a44=>zI .i64 h ((a44.add (Int.toNat x4*3)).add 0) fun i45=>aw h #[.int .i64 0] 3 fun a46 EW=>bc a46 [.int .i64 i45] 0 EW fun DT=>K4 x0 x3 a46 DT)) fun x0 x3 x5 h=>aA L5 (fun K3=>bJ h x3 fun t37=>zC 100 [.pointer x0,.agg ⟨aT t37⟩] h fun Mz yq=>K3 x0 x3 x5 yq) fun x0 x3 x5 h=>aA L5 (fun K2=>(ae x0 fun a9=>ae x0 fun jB=>zP h (jB.add 0) fun Fq=>ae Fq fun a12=>zS h (a12.add 2) fun jK jv lg=>zC 63 [.slice jK jv lg] h fun qO gA=>aB qO fun hU hX hZ=>zC 153 [.slice hU hX hZ,(.func (.func 154) ⟨[]⟩ ⟨[.pointer (some x5)]⟩)] gA fun EI gI=>aB EI fun qw pw pz=>zP gI (a9.add 0) fun p20=>ae p20 fun a21=>bc (a21.add 2) [.slice qw pw pz] 0 gI fun mB=>K2 x0 x3 x5 mB)/\(ae x0 fun a23=>zP h (a23.add 0) fun p24=>ae x0 fun a25=>zP h (a25.add 0) fun Jb=>ae Jb fun yp=>zS h (yp.add 2) fun Gx xP Jl=>zC 63 [.slice Gx xP Jl] h fun Od u3=>aB Od fun xw BJ yT=>bG h u3/\(zC 153 [.slice xw BJ yT,(.func (.func 154) ⟨[]⟩ ⟨[.pointer (some x5)]⟩)] u3 fun B0 lW=>aB B0 fun xx xy yV=>ae p24 fun NI=>bc (NI.add 2) [.slice xx xy yV] 0 lW fun uq=>K2 x0 x3 x5 uq))) fun x0 x3 x5 h=>ae x0 fun a4=>zP h (a4.add 0) fun p5=>zI .i64 h x5 fun i6=>zC 155 [.pointer p5,.int .i64 i6] h fun v7 h8=>K1 x0 x3 h8) (K1 x0 x3 h)) fun x0 x3 h=>bJ h x3 fun t1=>zC 92 [.pointer x0,.agg ⟨aT t1⟩] h fun v2 h3=>Kr h3) fun h=>K (.tuple ⟨[]⟩) h
theorem ok (q:asks x0 x1 K h):zC 79 [.pointer x0,.agg ⟨aT x1⟩] h K:=
 cl Tryz.func79 q (fun p q=>sq p q fun p q=>sc q (fun q=>sq p q fun p q=>sq p q fun p q=>cn (i:=17) p q (fun p q=>sq p q fun p q=>sq p q fun p q=>sq p q fun p q=>lf p q) fun p q=>lf p q) fun p q=>lf p q) fun p q=>rt p q
end Xb9
namespace Xcb
abbrev L0:List Sl:=[]
variable (x0:OA) (x1:Tk)
variable (K:KV) (h:H)
abbrev asks:Prop:=cF L0 (fun Kr=>aw h ⟨aT x1⟩ 45 fun a1 h2=>ae x0 fun a3=>zP h2 (a3.add 0) fun p4=>zC 40 [.pointer p4] h2 fun v5 h6=>zT h6 (a1.add 1) fun s7=>aw h6 #[S s7] 9 fun a8 h9=>zC 149 [.pointer x0,.int .u8 0,.slice (some a8) 1 1] h9 fun v10 eG=>au v10 fun QS=>cond QS (bJ eG a1 fun t13=>zC 100 [.pointer x0,.agg ⟨aT t13⟩] eG fun qO gA=>bJ gA a1 fun t16=>zC 92 [.pointer x0,.agg ⟨aT t16⟩] gA fun EI gI=>Kr gI) (bJ eG a1 fun t19=>zC 92 [.pointer x0,.agg ⟨aT t19⟩] eG fun v20 qt=>Kr qt)) fun h=>K (.tuple ⟨[]⟩) h
theorem ok (q:asks x0 x1 K h):zC 80 [.pointer x0,.agg ⟨aT x1⟩] h K:=
 cl Tryz.func80 q (fun p q=>lf p q) fun p q=>rt p q
end Xcb
namespace Xcc
abbrev L0:List Sl:=[]
variable (x0:OA) (x1:Tk)
variable (K:KV) (h:H)
abbrev asks:Prop:=cF L0 (fun Kr=>aw h ⟨aT x1⟩ 45 fun a1 h2=>bJ h2 a1 fun t3=>zC 93 [.pointer x0,.agg ⟨aT t3⟩] h2 fun v4 h5=>ae x0 fun a6=>zP h5 (a6.add 0) fun p7=>ae x0 fun a8=>zP h5 (a8.add 0) fun p9=>ae p9 fun jB=>zS h5 (jB.add 2) fun mN kZ lR=>zC 156 [.slice mN kZ lR,(.agg ⟨[.int .i64 (-1),S [],.slice none 0 0]⟩)] h5 fun v12 fI=>aB v12 fun xT xU xV=>bG h5 fI/\(ae p7 fun oF=>bc (oF.add 2) [.slice xT xU xV] 0 fI fun gZ=>Kr gZ)) fun h=>K (.tuple ⟨[]⟩) h
theorem ok (q:asks x0 x1 K h):zC 81 [.pointer x0,.agg ⟨aT x1⟩] h K:=
 cl Tryz.func81 q (fun p q=>lf p q) fun p q=>rt p q
end Xcc
namespace Xco
abbrev L0:List Sl:=[]
variable (x0:OA) (x1:Tk)
variable (K:KV) (h:H)
abbrev asks:Prop:=cF L0 (fun Kr=>aw h ⟨aT x1⟩ 45 fun a1 h2=>bJ h2 a1 fun t3=>zC 71 [.pointer x0,.agg ⟨aT t3⟩] h2 fun v4 h5=>ae x0 fun a6=>bc (a6.add 1) [.int .u8 2] 0 h5 fun h7=>Kr h7) fun h=>K (.tuple ⟨[]⟩) h
theorem ok (q:asks x0 x1 K h):zC 82 [.pointer x0,.agg ⟨aT x1⟩] h K:=
 cl Tryz.func82 q (fun p q=>lf p q) fun p q=>rt p q
end Xco
namespace Xbh
abbrev L0:List Sl:=[]
variable (x0:OA) (x1:Tk)
variable (K:KV) (h:H)
abbrev asks:Prop:=cF L0 (fun Kr=>aw h ⟨aT x1⟩ 45 fun a1 h2=>ae x0 fun a3=>zP h2 (a3.add 0) fun p4=>zC 40 [.pointer p4] h2 fun v5 h6=>bJ h6 a1 fun t7=>zC 67 [.pointer x0,.agg ⟨aT t7⟩] h6 fun v8 h9=>Kr h9) fun h=>K (.tuple ⟨[]⟩) h
theorem ok (q:asks x0 x1 K h):zC 83 [.pointer x0,.agg ⟨aT x1⟩] h K:=
 cl Tryz.func83 q (fun p q=>lf p q) fun p q=>rt p q
end Xbh
namespace Xb1
abbrev L0:List Sl:=[]
variable (x0:OA) (x1:Tk)
variable (K:KV) (h:H)
abbrev asks:Prop:=cF L0 (fun Kr=>aw h ⟨aT x1⟩ 45 fun a1 h2=>bc (a1.add 1) [S [105,109,103]] 0 h2 fun h3=>bJ h3 a1 fun t4=>zC 83 [.pointer x0,.agg ⟨aT t4⟩] h3 fun v5 h6=>Kr h6) fun h=>K (.tuple ⟨[]⟩) h
theorem ok (q:asks x0 x1 K h):zC 84 [.pointer x0,.agg ⟨aT x1⟩] h K:=
 cl Tryz.func84 q (fun p q=>lf p q) fun p q=>rt p q
end Xb1
namespace Xb0
abbrev L0:List Sl:=[]
variable (x0:OA) (x1:Tk)
variable (K:KV) (h:H)
abbrev asks:Prop:=cF L0 (fun Kr=>aw h ⟨aT x1⟩ 45 fun a1 h2=>zC 145 [.pointer x0] h2 fun v3 h4=>bJ h4 a1 fun t5=>zC 67 [.pointer x0,.agg ⟨aT t5⟩] h4 fun v6 h7=>Kr h7) fun h=>K (.tuple ⟨[]⟩) h
theorem ok (q:asks x0 x1 K h):zC 85 [.pointer x0,.agg ⟨aT x1⟩] h K:=
 cl Tryz.func85 q (fun p q=>lf p q) fun p q=>rt p q
end Xb0
namespace Xcp
abbrev L0:List Sl:=[]
variable (x0:OA) (x1:Tk)
variable (K:KV) (h:H)
abbrev asks:Prop:=cF L0 (fun Kr=>aw h ⟨aT x1⟩ 45 fun a1 h2=>bJ h2 a1 fun t3=>zC 68 [.pointer x0,.agg ⟨aT t3⟩] h2 fun v4 h5=>ae x0 fun a6=>bc (a6.add 4) [.bool true] 0 h5 fun h7=>Kr h7) fun h=>K (.tuple ⟨[]⟩) h
theorem ok (q:asks x0 x1 K h):zC 86 [.pointer x0,.agg ⟨aT x1⟩] h K:=
 cl Tryz.func86 q (fun p q=>lf p q) fun p q=>rt p q
end Xcp
namespace Xcr
abbrev L0:List Sl:=[]
variable (x0:OA) (x1:Tk)
variable (K:KV) (h:H)
abbrev asks:Prop:=cF L0 (fun Kr=>aw h ⟨aT x1⟩ 45 fun a1 h2=>zC 145 [.pointer x0] h2 fun v3 h4=>ae x0 fun a5=>zP h4 (a5.add 0) fun p6=>zC 40 [.pointer p6] h4 fun v7 h8=>bJ h8 a1 fun t9=>zC 69 [.pointer x0,.agg ⟨aT t9⟩] h8 fun v10 eG=>Kr eG) fun h=>K (.tuple ⟨[]⟩) h
theorem ok (q:asks x0 x1 K h):zC 87 [.pointer x0,.agg ⟨aT x1⟩] h K:=
 cl Tryz.func87 q (fun p q=>lf p q) fun p q=>rt p q
end Xcr
namespace Xcd
abbrev L0:List Sl:=[]
variable (x0:OA) (x1:Tk)
variable (K:KV) (h:H)
abbrev asks:Prop:=cF L0 (fun Kr=>aw h ⟨aT x1⟩ 45 fun a1 h2=>aw h2 #[S [111,112,116,105,111,110]] 9 fun a3 h4=>zC 146 [.pointer x0,.slice (some a3) 1 1] h4 fun v5 h6=>au v5 fun b7=>cond b7 (zC 37 [.pointer x0] h6 fun v8 h9=>bJ h9 a1 fun t10=>zC 93 [.pointer x0,.agg ⟨aT t10⟩] h9 fun v11 eL=>Kr eL) (bJ h6 a1 fun t13=>zC 93 [.pointer x0,.agg ⟨aT t13⟩] h6 fun qO gA=>Kr gA)) fun h=>K (.tuple ⟨[]⟩) h
theorem ok (q:asks x0 x1 K h):zC 88 [.pointer x0,.agg ⟨aT x1⟩] h K:=
 cl Tryz.func88 q (fun p q=>lf p q) fun p q=>rt p q
end Xcd
namespace Xcl
abbrev L3:=[Zp 0,Za 3,Zs 4]
abbrev L2:=[Zp 0,Za 3]
abbrev L0:List Sl:=[]
variable (x0:OA) (x1:Tk)
variable (K:KV) (h:H)
abbrev asks (x0:OA) (x1:Tk) (K:KV) (h:H):Prop:=cF L0 (fun Kr=>aA L2 (fun K3=>aw h ⟨aT x1⟩ 45 fun pv fh=>K3 x0 pv fh) fun x0 x3 h=>aA L3 (fun K2=>K2 x0 x3 [] h) fun x0 x3 x4 h=>aA L3 (fun K1=>zT h (x3.add 1) fun Cc=>aM (Cc=[114,112]) (K1 x0 x3 [114,116,99] h) (zT h (x3.add 1) fun Ex=>aM (Ex=[114,116]) (K1 x0 x3 [114,116,99] h) (K1 x0 x3 x4 h))) fun x0 x3 x4 h=>aw h #[S [114,117,98,121]] 9 fun a1 h2=>zC 149 [.pointer x0,.int .u8 0,.slice (some a1) 1 1] h2 fun v3 h4=>au v3 fun b5=>cond b5 (zC 150 [.pointer x0,S x4] h4 fun v6 h7=>bJ h7 x3 fun t8=>zC 143 [.pointer x0,.agg ⟨aT t8⟩] h7 fun v9 df=>Kr df) (bJ h4 x3 fun t11=>zC 143 [.pointer x0,.agg ⟨aT t11⟩] h4 fun v12 fI=>Kr fI)) fun h=>K (.tuple ⟨[]⟩) h
theorem ok (q:asks x0 x1 K h):zC 89 [.pointer x0,.agg ⟨aT x1⟩] h K:=
 cl Tryz.func89 q (fun p q=>sq p q fun p q=>sq p q fun p q=>sq p q fun p q=>lf p q) fun p q=>rt p q
end Xcl
namespace Xbi
abbrev L3:=[Zp 0,Za 3,Z8 4]
abbrev L2:=[Zp 0,Za 3]
abbrev L0:List Sl:=[]
variable (x0:OA) (x1:Tk)
variable (K:KV) (h:H)
abbrev asks (x0:OA) (x1:Tk) (K:KV) (h:H):Prop:=cF L0 (fun Kr=>aA L2 (fun K4=>aw h ⟨aT x1⟩ 45 fun oF gZ=>K4 x0 oF gZ) fun x0 x3 h=>aA L2 (fun K3=>ae x0 fun jC=>zP h (jC.add 0) fun p12=>zC 40 [.pointer p12] h fun mu dx=>K3 x0 x3 dx) fun x0 x3 h=>aA L3 (fun K2=>K2 x0 x3 2 h) fun x0 x3 x4 h=>aA L3 (fun K1=>zT h (x3.add 1) fun oY=>aM (oY=[115,118,103]) (K1 x0 x3 1 h) (K1 x0 x3 x4 h)) fun x0 x3 x4 h=>ae x0 fun a1=>zP h (a1.add 0) fun p2=>bJ h x3 fun t3=>zC 64 [.pointer p2,.int .u8 x4,.agg ⟨aT t3⟩] h fun v4 h5=>aL .i64 v4 fun i6=>zB h5 (x3.add 3) fun b7=>cond b7 (zC 37 [.pointer x0] h5 fun v8 h9=>Kr h9) (Kr h5)) fun h=>K (.tuple ⟨[]⟩) h
theorem ok (q:asks x0 x1 K h):zC 90 [.pointer x0,.agg ⟨aT x1⟩] h K:=
 cl Tryz.func90 q (fun p q=>sq p q fun p q=>sq p q fun p q=>sq p q fun p q=>sq p q fun p q=>lf p q) fun p q=>rt p q
end Xbi
namespace Xbw
abbrev L0:List Sl:=[]
variable (x0:OA) (x1:Tk)
variable (K:KV) (h:H)
abbrev asks:Prop:=cF L0 (fun Kr=>aw h ⟨aT x1⟩ 45 fun a1 h2=>bJ h2 a1 fun t3=>zC 93 [.pointer x0,.agg ⟨aT t3⟩] h2 fun v4 h5=>ae x0 fun a6=>zP h5 (a6.add 0) fun p7=>ae x0 fun a8=>zP h5 (a8.add 0) fun p9=>ae p9 fun jB=>zS h5 (jB.add 2) fun mN kZ lR=>ae x0 fun a12=>zP h5 (a12.add 0) fun Va=>zT h5 (a1.add 1) fun Cc=>zS h5 (a1.add 2) fun kH kX oz=>zC 55 [.pointer Va] h5 fun oD fh=>dO oD fun abM aq8 aq9 aqa=>bG h5 fh/\(zC 156 [.slice mN kZ lR,(.agg ⟨[.int .i64 abM,S Cc,.slice kH kX oz]⟩)] fh fun xv gm=>aB xv fun xz vA xA=>bG fh gm/\(ae p7 fun a22=>bc (a22.add 2) [.slice xz vA xA] 0 gm fun qu=>Kr qu))) fun h=>K (.tuple ⟨[]⟩) h
theorem ok (q:asks x0 x1 K h):zC 92 [.pointer x0,.agg ⟨aT x1⟩] h K:=
 cl Tryz.func92 q (fun p q=>lf p q) fun p q=>rt p q
end Xbw
namespace Xce
abbrev L0:List Sl:=[]
variable (x0:OA) (x1:Tk)
variable (K:KV) (h:H)
abbrev asks:Prop:=cF L0 (fun Kr=>aw h ⟨aT x1⟩ 45 fun a1 h2=>ae x0 fun a3=>zP h2 (a3.add 0) fun p4=>zC 40 [.pointer p4] h2 fun v5 h6=>bJ h6 a1 fun t7=>zC 143 [.pointer x0,.agg ⟨aT t7⟩] h6 fun v8 h9=>Kr h9) fun h=>K (.tuple ⟨[]⟩) h
theorem ok (q:asks x0 x1 K h):zC 93 [.pointer x0,.agg ⟨aT x1⟩] h K:=
 cl Tryz.func93 q (fun p q=>lf p q) fun p q=>rt p q
end Xce
namespace Xbp
abbrev L0:List Sl:=[]
variable (x0:OA) (x1:Tk)
variable (K:KV) (h:H)
abbrev asks:Prop:=cF L0 (fun Kr=>aw h ⟨aT x1⟩ 45 fun a1 h2=>zT h2 (a1.add 1) fun s3=>aw h2 #[S s3] 9 fun a4 h5=>zC 149 [.pointer x0,.int .u8 0,.slice (some a4) 1 1] h5 fun v6 h7=>au v6 fun b8=>cond b8 (zC 150 [.pointer x0,S []] h7 fun v9 df=>zT df (a1.add 1) fun ve=>aw df #[S ve] 9 fun a12 fI=>zC 151 [.pointer x0,.slice (some a12) 1 1] fI fun qO gA=>Kr gA) (Kr h7)) fun h=>K (.tuple ⟨[]⟩) h
theorem ok (q:asks x0 x1 K h):zC 94 [.pointer x0,.agg ⟨aT x1⟩] h K:=
 cl Tryz.func94 q (fun p q=>lf p q) fun p q=>rt p q
end Xbp
namespace Xbq
abbrev L3:=[Zp 0,Z6 2,Zb 16]
abbrev L2:=[Zp 0,Z6 2]
abbrev L0:List Sl:=[]
variable (x0:OA)
variable (K:KV) (h:H)
abbrev asks (x0:OA) (K:KV) (h:H):Prop:=cF L0 (fun Kr=>aA L2 (fun K3=>ae x0 fun a12=>zI .i64 h (a12.add 3) fun i13=>K3 x0 i13 h) fun x0 x2 h=>aA L2 (fun K2=>ae x0 fun jB=>bc (jB.add 3) [.int .i64 (-1)] 0 h fun eG=>K2 x0 x2 eG) fun x0 x2 h=>aA L3 (fun K1=>aM (x2 ≥ 0) (zC 158 [.pointer x0,.int .i64 x2] h fun v7 h8=>au v7 fun b9=>cond b9 (K1 x0 x2 true h8) (K1 x0 x2 false h8)) (K1 x0 x2 false h)) fun x0 x2 Rk h=>cond Rk (zC 150 [.pointer x0,S []] h fun v1 h2=>ae x0 fun a3=>zP h2 (a3.add 0) fun p4=>zC 155 [.pointer p4,.int .i64 x2] h2 fun v5 h6=>Kr h6) (Kr h)) fun h=>K (.tuple ⟨[]⟩) h
theorem ok (q:asks x0 K h):zC 95 [.pointer x0] h K:=
 cl Tryz.func95 q (fun p q=>sq p q fun p q=>sq p q fun p q=>sq p q fun p q=>lf p q) fun p q=>rt p q
end Xbq
namespace Xbu
abbrev L0:List Sl:=[]
variable (x0:OA)
variable (K:KV) (h:H)
abbrev asks:Prop:=cF L0 (fun Kr=>aw h #[S [112]] 9 fun a1 h2=>zC 149 [.pointer x0,.int .u8 2,.slice (some a1) 1 1] h2 fun v3 h4=>au v3 fun b5=>cond b5 (zC 145 [.pointer x0] h4 fun v6 h7=>Kr h7) (zC 143 [.pointer x0,(.agg ⟨[.int .u8 0,S [112],.slice none 0 0,.bool false,S []]⟩)] h4 fun v8 h9=>zC 145 [.pointer x0] h9 fun v10 eG=>Kr eG)) fun h=>K (.tuple ⟨[]⟩) h
theorem ok (q:asks x0 K h):zC 96 [.pointer x0] h K:=
 cl Tryz.func96 q (fun p q=>lf p q) fun p q=>rt p q
end Xbu
namespace Xbs
abbrev L3:=[Zp 0,Za 3,Z8 4]
abbrev L2:=[Zp 0,Za 3]
abbrev L0:List Sl:=[]
variable (x0:OA) (x1:Tk)
variable (K:KV) (h:H)
abbrev asks (x0:OA) (x1:Tk) (K:KV) (h:H):Prop:=cF L0 (fun Kr=>aA L2 (fun K3=>aw h ⟨aT x1⟩ 45 fun pv fh=>K3 x0 pv fh) fun x0 x3 h=>aA L3 (fun K2=>K2 x0 x3 0 h) fun x0 x3 x4 h=>aA L3 (fun K1=>zT h (x3.add 1) fun Ex=>aM (Ex=[108,105]) (K1 x0 x3 1 h) (K1 x0 x3 x4 h)) fun x0 x3 x4 h=>zT h (x3.add 1) fun s1=>aw h #[S s1] 9 fun a2 h3=>zC 149 [.pointer x0,.int .u8 x4,.slice (some a2) 1 1] h3 fun v4 h5=>au v4 fun b6=>cond b6 (zT h5 (x3.add 1) fun s7=>zC 150 [.pointer x0,S s7] h5 fun v8 h9=>zT h9 (x3.add 1) fun oY=>aw h9 #[S oY] 9 fun jC eL=>zC 151 [.pointer x0,.slice (some jC) 1 1] eL fun mu dx=>Kr dx) (Kr h5)) fun h=>K (.tuple ⟨[]⟩) h
theorem ok (q:asks x0 x1 K h):zC 97 [.pointer x0,.agg ⟨aT x1⟩] h K:=
 cl Tryz.func97 q (fun p q=>sq p q fun p q=>sq p q fun p q=>sq p q fun p q=>lf p q) fun p q=>rt p q
end Xbs
namespace Xbr
abbrev L0:List Sl:=[]
variable (x0:OA)
variable (K:KV) (h:H)
abbrev asks:Prop:=cF L0 (fun Kr=>zC 147 [] h fun v1 h2=>aB v1 fun Ai uX yv=>zC 149 [.pointer x0,.int .u8 0,.slice Ai uX yv] h2 fun v4 h5=>au v4 fun b6=>cond b6 (zC 150 [.pointer x0,S []] h5 fun v7 h8=>zC 147 [] h8 fun v9 df=>aB v9 fun mN kZ lR=>zC 151 [.pointer x0,.slice mN kZ lR] df fun v12 fI=>Kr fI) (Kr h5)) fun h=>K (.tuple ⟨[]⟩) h
theorem ok (q:asks x0 K h):zC 98 [.pointer x0] h K:=
 cl Tryz.func98 q (fun p q=>lf p q) fun p q=>rt p q
end Xbr
namespace Xbt
abbrev L3:=[Zp 0,Za 3,Zb 8]
abbrev L2:=[Zp 0,Za 3]
abbrev L0:List Sl:=[]
variable (x0:OA) (x1:Tk)
variable (K:KV) (h:H)
abbrev asks (x0:OA) (x1:Tk) (K:KV) (h:H):Prop:=cF L0 (fun Kr=>aA L2 (fun K2=>aw h ⟨aT x1⟩ 45 fun a21 mB=>K2 x0 a21 mB) fun x0 x3 h=>aA L3 (fun K1=>zT h (x3.add 1) fun Ex=>aw h #[S Ex] 9 fun pv fh=>zC 149 [.pointer x0,.int .u8 0,.slice (some pv) 1 1] fh fun HP qs=>au HP fun Wg=>cond Wg (K1 x0 x3 true qs) (K1 x0 x3 false qs)) fun x0 x3 x8 h=>cond x8 (bJ h x3 fun t1=>zC 94 [.pointer x0,.agg ⟨aT t1⟩] h fun v2 h3=>ae x0 fun a4=>zP h3 (a4.add 0) fun p5=>ae x0 fun a6=>zP h3 (a6.add 0) fun p7=>ae p7 fun a8=>zS h3 (a8.add 2) fun yu vU BP=>zC 159 [.slice yu vU BP] h3 fun v10 eG=>aB v10 fun pB lS pC=>bG h3 eG/\(ae p5 fun oE=>bc (oE.add 2) [.slice pB lS pC] 0 eG fun dx=>Kr dx)) (Kr h)) fun h=>K (.tuple ⟨[]⟩) h
theorem ok (q:asks x0 x1 K h):zC 99 [.pointer x0,.agg ⟨aT x1⟩] h K:=
 cl Tryz.func99 q (fun p q=>sq p q fun p q=>sq p q fun p q=>lf p q) fun p q=>rt p q
end Xbt
namespace Xb7
abbrev L0:List Sl:=[]
variable (x0:OA) (x1:Tk)
variable (K:KV) (h:H)
abbrev asks:Prop:=cF L0 (fun Kr=>aw h ⟨aT x1⟩ 45 fun a1 h2=>ae x0 fun a3=>zP h2 (a3.add 0) fun p4=>zT h2 (a1.add 1) fun s5=>zC 160 [.pointer p4,S s5] h2 fun v6 h7=>au v6 fun b8=>cond b8 (Kr h7) (ae x0 fun a9=>zP h7 (a9.add 0) fun p10=>zT h7 (a1.add 1) fun ve=>zC 101 [.pointer p10,S ve] h7 fun v12 fI=>Kr fI)) fun h=>K (.tuple ⟨[]⟩) h
theorem ok (q:asks x0 x1 K h):zC 100 [.pointer x0,.agg ⟨aT x1⟩] h K:=
 cl Tryz.func100 q (fun p q=>lf p q) fun p q=>rt p q
end Xb7
namespace Xb4
abbrev L0:List Sl:=[]
variable (x0:OA) (x1:Tk)
variable (K:KV) (h:H)
abbrev asks:Prop:=cF L0 (fun Kr=>aw h ⟨aT x1⟩ 45 fun a1 h2=>ae x0 fun a3=>zP h2 (a3.add 0) fun p4=>bJ h2 a1 fun t5=>zC 64 [.pointer p4,.int .u8 0,.agg ⟨aT t5⟩] h2 fun v6 h7=>aL .i64 v6 fun i8=>Kr h7) fun h=>K (.tuple ⟨[]⟩) h
theorem ok (q:asks x0 x1 K h):zC 143 [.pointer x0,.agg ⟨aT x1⟩] h K:=
 cl Tryz.func143 q (fun p q=>lf p q) fun p q=>rt p q
end Xb4
namespace Xcj
abbrev L0:List Sl:=[]
variable (x0:OA) (x1:Tk) (x2:Int)
variable (K:KV) (h:H)
abbrev asks:Prop:=cF L0 (fun Kr=>aw h ⟨aT x1⟩ 45 fun a1 h2=>ae x0 fun a3=>zI .u8 h2 (a3.add 1) fun i4=>ae x0 fun a5=>bc (a5.add 2) [.int .u8 i4] 0 h2 fun h6=>ae x0 fun a7=>bc (a7.add 1) [.int .u8 1] 0 h6 fun h8=>(ae x0 fun a9=>bc (a9.add 5) [.int .u8 x2] 0 h8 fun df=>zT df (a1.add 1) fun ve=>ae x0 fun a12=>bc (a12.add 6) [S ve] 0 df fun fI=>Kr fI)/\(zT h8 (a1.add 1) fun Cc=>ae x0 fun oF=>bc (oF.add 5) [.int .u8 x2] 0 h8 fun gZ=>ae x0 fun nE=>bc (nE.add 6) [S Cc] 0 gZ fun gI=>Kr gI)) fun h=>K (.tuple ⟨[]⟩) h
theorem ok (q:asks x0 x1 x2 K h):zC 144 [.pointer x0,.agg ⟨aT x1⟩,.int .u8 x2] h K:=
 cl Tryz.func144 q (fun p q=>lf p q) fun p q=>rt p q
end Xcj
namespace Xbl
abbrev L0:List Sl:=[]
variable (x0:OA)
variable (K:KV) (h:H)
abbrev asks:Prop:=cF L0 (fun Kr=>aw h #[S [112]] 9 fun a1 h2=>zC 149 [.pointer x0,.int .u8 2,.slice (some a1) 1 1] h2 fun v3 h4=>au v3 fun b5=>cond b5 (zC 150 [.pointer x0,S [112]] h4 fun v6 h7=>aw h7 #[S [112]] 9 fun a8 h9=>zC 151 [.pointer x0,.slice (some a8) 1 1] h9 fun v10 eG=>Kr eG) (Kr h4)) fun h=>K (.tuple ⟨[]⟩) h
theorem ok (q:asks x0 K h):zC 145 [.pointer x0] h K:=
 cl Tryz.func145 q (fun p q=>lf p q) fun p q=>rt p q
end Xbl
namespace Xb5
abbrev L0:=[Zb 4]
variable (x0 bM:OA) (bI bV:Nat)
variable (K:KV) (h:H)
abbrev asks:Prop:=cF L0 (fun Kr=>ae x0 fun a1=>zP h (a1.add 0) fun p2=>zC 55 [.pointer p2] h fun v3 h4=>dO v3 fun WK WL WN WO=>aw h4 ⟨[.int .i64 0,.int .u8 0,S [],.int .u8 0]⟩ 77 fun a6 h7=>bc a6 [.int .i64 WK,.int .u8 WL,S WN,.int .u8 WO] 0 h7 fun h8=>zI .u8 h8 (a6.add 1) fun i9=>aM (i9=(0:Int)) (zT h8 (a6.add 2) fun oY=>zC 189 [.slice bM bI bV,S oY] h8 fun v11 eL=>au v11 fun F8=>cond F8 (Kr true eL) (Kr false eL)) (Kr false h8)) fun y4 h=>K (.bool y4) h
theorem ok (q:asks x0 bM bI bV K h):zC 146 [.pointer x0,.slice bM bI bV] h K:=
 cl Tryz.func146 q (fun p q=>lf p q) fun p q=>rt p q
end Xb5
namespace Xcw
abbrev L0:=[Zl 0]
variable (K:KV) (h:H)
abbrev asks:Prop:=cF L0 (fun Kr=>aw h (sW [[104,49],[104,50],[104,51],[104,52],[104,53],[104,54]]) 9 fun a1 h2=>Kr (some a1) 6 6 h2) fun y0b y0n y0c h=>K (.slice y0b y0n y0c) h
theorem ok (q:asks K h):zC 147 [] h K:=
 cl Tryz.func147 q (fun p q=>lf p q) fun p q=>rt p q
end Xcw
namespace Xb6
abbrev L3:=[Zp 0,Z6 4,Zb 16]
abbrev L2:=[Zp 0,Z6 4]
abbrev L0:List Sl:=[]
variable (x0 bM:OA) (bI bV:Nat)
variable (K:KV) (h:H)
abbrev asks (x0 bM:OA) (bI bV:Nat) (K:KV) (h:H):Prop:=cF L0 (fun Kr=>aA L2 (fun K2=>ae x0 fun oE=>zP h (oE.add 0) fun Qd=>ae Qd fun oF=>zS h (oF.add 1) fun hU hX hZ=>zC 190 [.slice hU hX hZ,.slice bM bI bV] h fun EI gI=>aL .i64 EI fun i19=>K2 x0 i19 gI) fun x0 x4 h=>aA L3 (fun K1=>aM (x4 ≥ 0) (K1 x0 x4 true h) (K1 x0 x4 false h)) fun x0 x4 Rk h=>cond Rk (ae x0 fun a1=>zP h (a1.add 0) fun p2=>ae p2 fun a3=>zS h (a3.add 1) fun oe oI uP=>(0<=x4/\x4<(oI:Int))/\(ae oe fun a5=>zT h ((a5.add (Int.toNat x4*4)).add 2) fun s6=>zC 150 [.pointer x0,S s6] h fun v7 h8=>aw h8 #[S s6] 9 fun a9 df=>zC 151 [.pointer x0,.slice (some a9) 1 1] df fun v11 eL=>Kr eL)) (Kr h)) fun h=>K (.tuple ⟨[]⟩) h
theorem ok (q:asks x0 bM bI bV K h):zC 148 [.pointer x0,.slice bM bI bV] h K:=
 cl Tryz.func148 q (fun p q=>sq p q fun p q=>sq p q fun p q=>lf p q) fun p q=>rt p q
end Xb6
namespace Xb3
abbrev L0:=[Zb 6]
variable (x0:OA) (x1:Int) (dz:OA) (dq dC:Nat)
variable (K:KV) (h:H)
abbrev asks:Prop:=cF L0 (fun Kr=>ae x0 fun a1=>zP h (a1.add 0) fun p2=>ae p2 fun a3=>zS h (a3.add 1) fun oe oI uP=>zC 191 [.slice oe oI uP,.int .u8 x1,.slice dz dq dC] h fun v5 h6=>au v5 fun b7=>cond b7 (Kr true h6) (Kr false h6)) fun y6 h=>K (.bool y6) h
theorem ok (q:asks x0 x1 dz dq dC K h):zC 149 [.pointer x0,.int .u8 x1,.slice dz dq dC] h K:=
 cl Tryz.func149 q (fun p q=>lf p q) fun p q=>rt p q
end Xb3
namespace Xb2
abbrev L0:List Sl:=[]
variable (x0:OA) (x1:List UInt8)
variable (K:KV) (h:H)
abbrev asks:Prop:=cF L0 (fun Kr=>ae x0 fun a1=>zP h (a1.add 0) fun p2=>ae x0 fun a3=>zP h (a3.add 0) fun p4=>ae p4 fun a5=>zS h (a5.add 1) fun lO gV mM=>zC 192 [.slice lO gV mM,S x1] h fun v7 h8=>aL .i64 v7 fun i9=>bG h h8/\(zC 57 [.pointer p2,.int .i64 i9] h8 fun v10 eG=>Kr eG)) fun h=>K (.tuple ⟨[]⟩) h
theorem ok (q:asks x0 x1 K h):zC 150 [.pointer x0,S x1] h K:=
 cl Tryz.func150 q (fun p q=>lf p q) fun p q=>rt p q
end Xb2
namespace Xcq
abbrev L0:List Sl:=[]
variable (x0 bM:OA) (bI bV:Nat)
variable (K:KV) (h:H)
abbrev asks:Prop:=cF L0 (fun Kr=>ae x0 fun a1=>zP h (a1.add 0) fun p2=>ae x0 fun a3=>zP h (a3.add 0) fun p4=>ae p4 fun a5=>zS h (a5.add 1) fun lO gV mM=>zC 128 [.slice lO gV mM,.slice bM bI bV] h fun v7 h8=>aL .i64 v7 fun i9=>bG h h8/\(zC 57 [.pointer p2,.int .i64 i9] h8 fun v10 eG=>Kr eG)) fun h=>K (.tuple ⟨[]⟩) h
theorem ok (q:asks x0 bM bI bV K h):zC 151 [.pointer x0,.slice bM bI bV] h K:=
 cl Tryz.func151 q (fun p q=>lf p q) fun p q=>rt p q
end Xcq
namespace Xca
abbrev L0:=[Zb 3]
variable (cE:Int) (cG:List UInt8) (kN:OA) (kO kP:Nat) (x1:Addr)
variable (K:KV) (h:H)
abbrev asks:Prop:=cF L0 (fun Kr=>aw h ⟨[.int .i64 cE,S cG,.slice kN kO kP]⟩ 79 fun a1 h2=>zI .i64 h2 (a1.add 0) fun i3=>zI .i64 h2 x1 fun i4=>aM (i3=i4) (Kr true h2) (Kr false h2)) fun y3 h=>K (.bool y3) h
theorem ok (q:asks cE cG kN kO kP x1 K h):zC 154 [(.agg ⟨[.int .i64 cE,S cG,.slice kN kO kP]⟩),.pointer (some x1)] h K:=
 cl Tryz.func154 q (fun p q=>lf p q) fun p q=>rt p q
end Xca
namespace Tz
abbrev L4:List Sl:=[]
abbrev L5:=[Zl 28,Z6 29,Z6 30]
abbrev L0:=[Zb 4]
abbrev L3:=[Zp 0,Z6 5]
abbrev L2:=[Zp 0,Za 3]
abbrev T4:=TK L4
abbrev T0:=TK L0
abbrev T5:=TK L5
variable (x0:OA) (x1:Int)
abbrev iq (Kn Ke0:T4) (Kr:T0):T5->T5:=fun K2 Rl Rm WQ zZ JR h=>aM (JR<zZ) ((0<=JR/\JR<(Rm:Int))/\(ae Rl fun a1=>ldO h (a1.add (Int.toNat JR*4)) fun ajt aju ajv ajw=>aw h ⟨[.int .i64 0,.int .u8 0,S [],.int .u8 0]⟩ 77 fun a3 h4=>bc a3 [.int .i64 ajt,.int .u8 aju,S ajv,.int .u8 ajw] 0 h4 fun h5=>ldO h5 a3 fun WR WS WT WU=>aw h5 #[.int .i64 0,.int .u8 0,S [42],.int .u8 0,.int .i64 WR,.int .u8 WS,S WT,.int .u8 WU] 77 fun a7 h8=>aw h8 #[S [42]] 9 fun a9 df=>zC 191 [.slice (some a7) 2 2,.int .u8 0,.slice (some a9) 1 1] df fun v11 eL=>au v11 fun F8=>cond F8 (bd .i64 (JR+(1:Int))/\(K2 Rl Rm WQ zZ (JR+(1:Int)) eL)) (Kr false eL))) (Ke0 h)
abbrev gz (Kn Ke0:T4) (Kr:T0):Nat->T5:=LP L5 (iq Kn Ke0 Kr)
variable (K:KV) (h:H)
abbrev asks (x0:OA) (x1:Int) (K:KV) (h:H):Prop:=cF L0 (fun Kr=>aA L2 (fun K6=>aw h #[.int .i64 x1] 3 fun a25 od=>K6 x0 a25 od) fun x0 x3 h=>aA L3 (fun K5=>ae x0 fun sJ=>zP h (sJ.add 0) fun p19=>ae p19 fun a20=>zS h (a20.add 1) fun xz vA xA=>zC 183 [.slice xz vA xA,(.func (.func 200) ⟨[]⟩ ⟨[.pointer (some x3)]⟩)] h fun v22 qu=>aL .i64 v22 fun i24=>K5 x0 i24 qu) fun x0 x5 h=>aA L3 (fun K4=>aM (x5<(0:Int)) (Kr false h) (K4 x0 x5 h)) fun x0 x5 h=>aA L4 (fun K1=>aA L5 (fun K3=>ae x0 fun lE=>zP h (lE.add 0) fun p15=>ae p15 fun pv=>zS h (pv.add 1) fun qx oB qy=>bd .i64 (x5+(1:Int))/\((0<=(x5+(1:Int))/\(x5+(1:Int))<=(oB:Int)/\(oB:Int)<=(qy:Int))/\(K3 (if qy=Int.toNat (x5+(1:Int)) then qx else Option.map (fun q=>q.add (Int.toNat (x5+(1:Int))*4)) qx) (Int.toNat (oB:Int) - Int.toNat (x5+(1:Int))) (qy - Int.toNat (x5+(1:Int))) (((Int.toNat (oB:Int) - Int.toNat (x5+(1:Int))):Nat):Int) 0 h))) fun Rl Rm WQ zZ JR h=>iy L5 (iq K1 K1 Kr) fun K2=>K2 Rl Rm WQ zZ JR h) fun h=>Kr true h) fun y4 h=>K (.bool y4) h
theorem ok (q:asks x0 x1 K h):zC 158 [.pointer x0,.int .i64 x1] h K:=
 cl Tryz.func158 q (fun p q=>sq (l:=L2) p q fun p q=>sq (l:=L3) p q fun p q=>sq (l:=L3) p q fun p q=>sc (l:=L4) q (fun q=>sq (l:=L5) p q fun p q=>bl (b:=0) (lp p q fun p q=>lf p q)) fun p q=>lf p q) fun p q=>rt p q
end Tz
namespace Xby
abbrev L0:=[Zb 3]
variable (cE cG:Int) (eu:List UInt8) (eP:Int) (x1:Addr)
variable (K:KV) (h:H)
abbrev asks:Prop:=cF L0 (fun Kr=>aw h ⟨[.int .i64 cE,.int .u8 cG,S eu,.int .u8 eP]⟩ 77 fun a1 h2=>zI .i64 h2 (a1.add 0) fun i3=>zI .i64 h2 x1 fun i4=>aM (i3=i4) (Kr true h2) (Kr false h2)) fun y3 h=>K (.bool y3) h
theorem ok (q:asks cE cG eu eP x1 K h):zC 200 [(.agg ⟨[.int .i64 cE,.int .u8 cG,S eu,.int .u8 eP]⟩),.pointer (some x1)] h K:=
 cl Tryz.func200 q (fun p q=>lf p q) fun p q=>rt p q
end Xby
end Go.Proofs
