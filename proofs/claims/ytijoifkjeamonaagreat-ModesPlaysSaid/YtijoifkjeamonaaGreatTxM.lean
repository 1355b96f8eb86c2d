/- Own text. No condition. -/
import Derived.Test.YtijoifkjeamonaaGreatHc
import Derived.Test.YtijoifkjeamonaaGreatShR
import Derived.Test.YtijoifkjeamonaaGreatProg
namespace Go.Proofs
open Go Go.Sh
set_option linter.unusedVariables false
set_option maxRecDepth 100000
namespace Xcs
abbrev L0:=[Zp 0]
variable (K:KV) (h:H)
abbrev asks:Prop:=cF L0 (fun Kr=>zC 33 [] h fun v1 h2=>lr v1 fun p3=>aw h2 ⟨[.pointer p3,.int .u8 0,.int .u8 0,.int .i64 (-1),.bool false,.int .u8 0,S [],S []]⟩ 37 fun a4 h5=>Kr (some a4) h5) fun y0 h=>K (.pointer y0) h
theorem ok (q:asks K h):zC 14 [] h K:=
 cl Tryz.func14 q (fun p q=>lf p q) fun p q=>rt p q
end Xcs
namespace X8
abbrev L0:=[Za 4,Zb 5]
abbrev L5:=[Za 3,Za 4]
abbrev L6:=[Za 3,Za 4,Zb 24]
abbrev L4:=[Za 3,Za 4,Zb 6]
abbrev L3:=[Zp 0,Za 3,Za 4,Zb 6]
abbrev L2:=[Zp 0,Za 3,Za 4]
abbrev T0:=TK L0
variable (x0:OA) (x1:Tk) (x3 x4:Addr) (x6:Bool)
abbrev n5 (Kn Kr:T0) (h:H):Prop:=
 bL h x3 fun t1=>aZ x4 [.int .u8 t1.k,S t1.n,.slice t1.b t1.l t1.c,.bool t1.z,S t1.t] 0 h fun h2=>Kr x4 true h2
abbrev n4 (x3 x4:Addr) (x6:Bool) (Kn Kr:T0) (h:H):Prop:=
 aB L5 (fun K1=>aB L6 (fun K2=>cond x6 (zI .u8 h (x3.add 0) fun i15=>aO (i15=(1:Int)) (zT h (x3.add 4) fun Mv=>zC 35 [S Mv,S [10]] h fun EG gO=>au EG fun b19=>cond b19 (K2 x3 x4 true gO) (K2 x3 x4 false gO)) (K2 x3 x4 false h)) (K2 x3 x4 false h)) fun x3 x4 x24 h=>cond x24 (zT h (x3.add 4) fun s3=>(0<=(1:Int)/\1<=(s3.length:Int)/\(s3.length:Int)<=(s3.length:Int))/\(aZ (x3.add 4) [(S (sub s3 1 (s3.length:Int)))] 0 h fun h4=>(bL h4 x3 fun t5=>aZ x4 [.int .u8 t5.k,S t5.n,.slice t5.b t5.l t5.c,.bool t5.z,S t5.t] 0 h4 fun h6=>zT h6 (x3.add 4) fun s7=>aO (s7=[]) (Kr x4 false h6) (Kr x4 true h6))/\((bL h4 x3 fun t8=>zT h4 (x3.add 4) fun s9=>aZ x4 [.int .u8 t8.k,S t8.n,.slice t8.b t8.l t8.c,.bool t8.z,S t8.t] 0 h4 fun cS=>aO (s9=[]) (Kr x4 false cS) (Kr x4 true cS))/\(bL h4 x3 fun t11=>zT h4 (x3.add 4) fun j9=>aO (j9=[]) (aZ x4 [.int .u8 t11.k,S t11.n,.slice t11.b t11.l t11.c,.bool t11.z,S t11.t] 0 h4 fun fi=>Kr x4 false fi) (aZ x4 [.int .u8 t11.k,S t11.n,.slice t11.b t11.l t11.c,.bool t11.z,S t11.t] 0 h4 fun dA=>Kr x4 true dA))))) (K1 x3 x4 h)) fun x3 x4 h=>n5 x3 x4 Kn Kr h
variable (K:KV) (h:H)
abbrev asks (x0:OA) (x1:Tk) (K:KV) (h:H):Prop:=cF L0 (fun Kr=>aB L2 (fun K5=>aw h ⟨aT x1⟩ 45 fun a24 iG=>aw iG ⟨[.int .u8 0,S [],.slice none 0 0,.bool false,S []]⟩ 45 fun a26 AK=>K5 x0 a24 a26 AK) fun x0 x3 x4 h=>aB L3 (fun K4=>ae x0 fun a22=>zB h (a22.add 4) fun VT=>cond VT (K4 x0 x3 x4 true h) (K4 x0 x3 x4 false h)) fun x0 x3 x4 x6 h=>aB L4 (fun K3=>ae x0 fun a20=>aZ (a20.add 4) [.bool false] 0 h fun qC=>K3 x3 x4 x6 qC) fun x3 x4 x6 h=>n4 x3 x4 x6 Kr Kr h) fun y4 y5 h=>bL h y4 fun t28=>K (.tuple ⟨[.agg ⟨aT t28⟩,.bool y5]⟩) h
theorem ok (q:asks x0 x1 K h):zC 16 [.pointer x0,.agg ⟨aT x1⟩] h K:=
 cl Tryz.func16 q (fun p q=>sq (l:=L2) p q fun p q=>sq (l:=L3) p q fun p q=>sq (l:=L4) p q fun p q=>sc (l:=L5) q (fun q=>sq (l:=L6) p q fun p q=>lf p q) fun p q=>lf p q) fun p q=>rt p q
end X8
namespace Xcv
abbrev L0:List Sl:=[]
variable (x0:OA) (x1:Tk)
variable (K:KV) (h:H)
abbrev asks:Prop:=cF L0 (fun Kr=>aw h ⟨aT x1⟩ 45 fun a1 h2=>zI .u8 h2 (a1.add 0) fun i3=>aO (i3=(1:Int)) (ae x0 fun a4=>zP h2 (a4.add 0) fun p5=>zT h2 (a1.add 4) fun s6=>zC 36 [.pointer p5,S s6] h2 fun v7 h8=>Kr h8) (zC 37 [.pointer x0] h2 fun v9 cS=>ae x0 fun lk=>zI .u8 cS (lk.add 2) fun i12=>ae x0 fun pU=>aZ (pU.add 1) [.int .u8 i12] 0 cS fun dA=>ae x0 fun pV=>aZ (pV.add 5) [.int .u8 0] 0 dA fun gX=>ae x0 fun oO=>aZ (oO.add 6) [S []] 0 gX fun gO=>Kr gO)) fun h=>K (.tuple ⟨[]⟩) h
theorem ok (q:asks x0 x1 K h):zC 19 [.pointer x0,.agg ⟨aT x1⟩] h K:=
 cl Tryz.func19 q (fun p q=>lf p q) fun p q=>rt p q
end Xcv
namespace Xbg
abbrev L5:=[Zp 0,Za 3,Z8 5,Zb 20]
abbrev L4:=[Zp 0,Za 3,Z8 5,Zb 6]
abbrev L3:=[Zp 0,Za 3,Z8 5]
abbrev L2:=[Zp 0,Za 3]
abbrev L0:List Sl:=[]
variable (x0:OA) (x1:Tk)
variable (K:KV) (h:H)
abbrev asks (x0:OA) (x1:Tk) (K:KV) (h:H):Prop:=cF L0 (fun Kr=>aB L2 (fun K4=>aw h ⟨aT x1⟩ 45 fun a22 qD=>K4 x0 a22 qD) fun x0 x3 h=>aB L3 (fun K3=>zI .u8 h (x3.add 0) fun i21=>K3 x0 x3 i21 h) fun x0 x3 x5 h=>aB L4 (fun K2=>aO (x5=(1:Int)) (K2 x0 x3 x5 true h) (K2 x0 x3 x5 false h)) fun x0 x3 x5 x6 h=>cond x6 (ae x0 fun a1=>zP h (a1.add 0) fun p2=>zC 40 [.pointer p2] h fun v3 h4=>ae x0 fun a5=>zP h4 (a5.add 0) fun p6=>zT h4 (x3.add 4) fun s7=>zC 36 [.pointer p6,S s7] h4 fun v8 h9=>Kr h9) (aB L5 (fun K1=>aO (x5=(4:Int)) (K1 x0 x3 x5 true h) (K1 x0 x3 x5 false h)) fun x0 x3 x5 yt h=>cond yt (ae x0 fun jJ=>zP h (jJ.add 0) fun Fs=>zT h (x3.add 4) fun j9=>zC 41 [.pointer Fs,S j9] h fun np dA=>Kr dA) (aO (x5=(2:Int)) (bL h x3 fun t15=>zC 42 [.pointer x0,.agg ⟨aT t15⟩] h fun oT fF=>Kr fF) (aO (x5=(3:Int)) (bL h x3 fun t18=>zC 43 [.pointer x0,.agg ⟨aT t18⟩] h fun xA gx=>Kr gx) (Kr h))))) fun h=>K (.tuple ⟨[]⟩) h
theorem ok (q:asks x0 x1 K h):zC 21 [.pointer x0,.agg ⟨aT x1⟩] h K:=
 cl Tryz.func21 q (fun p q=>sq p q fun p q=>sq p q fun p q=>bl (b:=0) (sq p q fun p q=>cn (i:=6) p q (fun p q=>lf p q) fun p q=>sq p q fun p q=>lf p q)) fun p q=>rt p q
end Xbg
namespace Jx
abbrev L0:=[Zl 2]
abbrev L3:=[Zp 3]
abbrev L4:=[Zp 3,Zl 9,Z6 10,Z6 11]
abbrev L7:=[Zp 3,Za 6,Zb 7,Zl 9,Z6 10,Z6 11]
abbrev L6:=[Zp 3,Za 5,Zl 9,Z6 10,Z6 11]
abbrev L5:=[Zp 3,Zl 9,Z6 10,Z6 11,Zr 12]
abbrev L2:=[Zl 0,Zp 3]
abbrev L1:=[Zl 0]
abbrev T0:=TK L0
abbrev T3:=TK L3
abbrev T4:=TK L4
variable (ao:OA) (aj aq:Nat) (x3:OA)
abbrev n4 (Kn Kr:T0) (h:H):Prop:=
 ae x3 fun a1=>zP h (a1.add 0) fun p2=>ae p2 fun a3=>zP h (a3.add 0) fun p4=>zC 25 [.pointer p4,.int .i64 0] h fun v5 h6=>aA v5 fun yT zY yu=>Kr yT zY yu h6
abbrev fg (Kn Ke0:T3) (Kr:T0):T4->T4:=fun K2 x3 oe og oE bD cg h=>aB L5 (fun K7=>aO (cg<bD) (K7 x3 oe og oE bD cg (.bool true) h) (K7 x3 oe og oE bD cg (.bool false) h)) fun x3 oe og oE bD cg ia h=>aB L4 (fun K6=>au ia fun b37=>cond b37 (K6 x3 oe og oE bD cg h) (Ke0 x3 h)) fun x3 oe og oE bD cg h=>aB L4 (fun K3=>aB L6 (fun K5=>(0<=cg/\cg<(og:Int))/\(ae oe fun tH=>bL h (tH.add (Int.toNat cg*5)) fun t33=>aw h ⟨[.int .u8 0,S [],.slice none 0 0,.bool false,S []]⟩ 45 fun OW qz=>aZ OW [.int .u8 t33.k,S t33.n,.slice t33.b t33.l t33.c,.bool t33.z,S t33.t] 0 qz fun uC=>K5 x3 OW oe og oE bD cg uC)) fun x3 x5 oe og oE bD cg h=>aB L7 (fun K4=>bL h x5 fun t16=>zC 16 [.pointer x3,.agg ⟨aT t16⟩] h fun EG gO=>oI EG fun l19=>aH l19 fun e20 l21=>dT e20 fun t22=>aH l21 fun e23 l24=>au e23 fun b25=>dc l24 (cond b25 (aw gO ⟨[.int .u8 0,S [],.slice none 0 0,.bool false,S []]⟩ 45 fun a26 AK=>aZ a26 [.int .u8 t22.k,S t22.n,.slice t22.b t22.l t22.c,.bool t22.z,S t22.t] 0 AK fun lK=>K4 x3 a26 true oe og oE bD cg lK) (aw gO ⟨[.int .u8 0,S [],.slice none 0 0,.bool false,S []]⟩ 45 fun Sv tO=>aZ Sv [.int .u8 t22.k,S t22.n,.slice t22.b t22.l t22.c,.bool t22.z,S t22.t] 0 tO fun yj=>K4 x3 Sv false oe og oE bD cg yj))) fun x3 x6 x7 oe og oE bD cg h=>cond x7 (ae x3 fun a8=>zI .u8 h (a8.add 1) fun i9=>aO (i9=(1:Int)) (bL h x6 fun t10=>zC 19 [.pointer x3,.agg ⟨aT t10⟩] h fun v11 eM=>K3 x3 oe og oE bD cg eM) (bL h x6 fun t13=>zC 21 [.pointer x3,.agg ⟨aT t13⟩] h fun oU fZ=>K3 x3 oe og oE bD cg fZ)) (K3 x3 oe og oE bD cg h)) fun x3 oe og oE bD cg h=>bc .i64 (cg+(1:Int))/\(K2 x3 oe og oE bD (cg+(1:Int)) h)
abbrev fu (Kn Ke0:T3) (Kr:T0):Nat->T4:=LP L4 (fg Kn Ke0 Kr)
variable (K:KV) (h:H)
abbrev asks (ao:OA) (aj aq:Nat) (K:KV) (h:H):Prop:=cF L0 (fun Kr=>aB L1 (fun ng=>ng ao aj aq h) fun ao aj aq h=>aB L2 (fun K9=>zC 14 [] h fun Ms yr=>lr Ms fun p40=>K9 ao aj aq p40 yr) fun ao aj aq x3 h=>aB L3 (fun K1=>aB L4 (fun K8=>K8 x3 ao aj aq (aj:Int) 0 h) fun x3 oe og oE bD cg h=>il L4 (fg K1 K1 Kr) fun K2=>K2 x3 oe og oE bD cg h) fun x3 h=>n4 x3 Kr Kr h) fun gq gr gu h=>K (.slice gq gr gu) h
theorem ok (q:asks ao aj aq K h):zC 8 [.slice ao aj aq] h K:=
 cl Tryz.func8 q (fun p q=>sq (l:=L1) p q fun p q=>sq (l:=L2) p q fun p q=>sc (l:=L3) q (fun q=>sq (l:=L4) p q fun p q=>bl (b:=0) (lp p q fun p q=>sq (l:=L5) p q fun p q=>sq (l:=L4) p q fun p q=>sc (l:=L4) q (fun q=>bl (b:=1) (sq (l:=L6) p q fun p q=>sq (l:=L7) p q fun p q=>lf p q)) fun p q=>lf p q)) fun p q=>lf p q) fun p q=>rt p q
end Jx
namespace Xcg
abbrev L0:List Sl:=[]
variable (x0:OA)
variable (K:KV) (h:H)
abbrev asks:Prop:=cF L0 (fun Kr=>ae x0 fun a1=>zP h (a1.add 0) fun p2=>ae x0 fun a3=>zP h (a3.add 0) fun p4=>ae p4 fun a5=>zS h (a5.add 1) fun jH gn lj=>bc .i64 ((gn:Int) - 1)/\(zC 57 [.pointer p2,.int .i64 ((gn:Int) - 1)] h fun v7 h8=>Kr h8)) fun h=>K (.tuple ⟨[]⟩) h
theorem ok (q:asks x0 K h):zC 37 [.pointer x0] h K:=
 cl Tryz.func37 q (fun p q=>lf p q) fun p q=>rt p q
end Xcg
namespace Xcn
abbrev L25:=[Zp 0,Za 3,Zs 5,Zb 179]
abbrev L24:=[Zp 0,Za 3,Zs 5,Zb 174]
abbrev L23:=[Zp 0,Za 3,Zs 5,Zb 169]
abbrev L22:=[Zp 0,Za 3,Zs 5,Zb 164]
abbrev L21:=[Zp 0,Za 3,Zs 5,Zb 153]
abbrev L20:=[Zp 0,Za 3,Zs 5,Zb 148]
abbrev L19:=[Zp 0,Za 3,Zs 5,Zb 141]
abbrev Xt:=[Zp 0,Za 3,Zs 5,Zb 136]
abbrev SM:=[Zp 0,Za 3,Zs 5,Zb 131]
abbrev HW:=[Zp 0,Za 3,Zs 5,Zb 126]
abbrev HX:=[Zp 0,Za 3,Zs 5,Zb 121]
abbrev JH:=[Zp 0,Za 3,Zs 5,Zb 115]
abbrev Ak:=[Zp 0,Za 3,Zs 5,Zb 110]
abbrev Ci:=[Zp 0,Za 3,Zs 5,Zb 105]
abbrev En:=[Zp 0,Za 3,Zs 5,Zb 99]
abbrev yv:=[Zp 0,Za 3,Zs 5,Zb 89]
abbrev L9:=[Zp 0,Za 3,Zs 5,Zb 60]
abbrev L8:=[Zp 0,Za 3,Zs 5,Zb 55]
abbrev L7:=[Zp 0,Za 3,Zs 5,Zb 47]
abbrev L6:=[Zp 0,Za 3,Zs 5,Zb 42]
abbrev L5:=[Zp 0,Za 3,Zs 5,Zb 30]
abbrev L4:=[Zp 0,Za 3,Zs 5,Zb 15]
abbrev L3:=[Zp 0,Za 3,Zs 5]
abbrev L2:=[Zp 0,Za 3]
abbrev L0:List Sl:=[]
variable (x0:OA) (x1:Tk)
variable (K:KV) (h:H)
abbrev asks (x0:OA) (x1:Tk) (K:KV) (h:H):Prop:=cF L0 (fun Kr=>aB L2 (fun K24=>aw h ⟨aT x1⟩ 45 fun a96 Xu=>K24 x0 a96 Xu) fun x0 x3 h=>aB L3 (fun K23=>zT h (x3.add 1) fun s95=>K23 x0 x3 s95 h) fun x0 x3 x5 h=>aB L4 (fun K22=>BL x5 [[104,116,109,108],[98,111,100,121],[104,101,97,100],[102,114,97,109,101],[102,114,97,109,101,115,101,116],[99,97,112,116,105,111,110],[99,111,108],[99,111,108,103,114,111,117,112],[116,98,111,100,121],[116,100],[116,102,111,111,116],[116,104],[116,104,101,97,100],[116,114]] fun b94=>K22 x0 x3 x5 b94 h) fun x0 x3 x5 HY h=>cond HY (Kr h) (aB L5 (fun K21=>BL x5 [[98,97,115,101],[98,97,115,101,102,111,110,116],[98,103,115,111,117,110,100],[108,105,110,107],[109,101,116,97],[112,97,114,97,109],[115,111,117,114,99,101],[116,114,97,99,107]] fun b93=>K21 x0 x3 x5 b93 h) fun x0 x3 x5 JI h=>cond JI (bL h x3 fun t1=>zC 67 [.pointer x0,.agg ⟨aT t1⟩] h fun v2 h3=>Kr h3) (aB L6 (fun Q2=>aO (x5=[116,105,116,108,101]) (Q2 x0 x3 x5 true h) (Q2 x0 x3 x5 false h)) fun x0 x3 x5 EB h=>cond EB (bL h x3 fun t4=>zC 68 [.pointer x0,.agg ⟨aT t4⟩] h fun v5 h6=>Kr h6) (aB L7 (fun Wm=>BL x5 [[110,111,102,114,97,109,101,115],[115,116,121,108,101],[105,102,114,97,109,101],[110,111,101,109,98,101,100]] fun b92=>Wm x0 x3 x5 b92 h) fun x0 x3 x5 x47 h=>cond x47 (bL h x3 fun t7=>zC 69 [.pointer x0,.agg ⟨aT t7⟩] h fun v8 h9=>Kr h9) (aB L8 (fun Om=>aO (x5=[115,99,114,105,112,116]) (Om x0 x3 x5 true h) (Om x0 x3 x5 false h)) fun x0 x3 x5 x55 h=>cond x55 (bL h x3 fun t10=>zC 70 [.pointer x0,.agg ⟨aT t10⟩] h fun v11 eM=>Kr eM) (aB L9 (fun Wl=>BL x5 [[97,100,100,114,101,115,115],[97,114,116,105,99,108,101],[97,115,105,100,101],[98,108,111,99,107,113,117,111,116,101],[99,101,110,116,101,114],[100,101,116,97,105,108,115],[100,105,97,108,111,103],[100,105,114],[100,105,118],[100,108],[102,105,101,108,100,115,101,116],[102,105,103,99,97,112,116,105,111,110],[102,105,103,117,114,101],[102,111,111,116,101,114],[104,101,97,100,101,114],[104,103,114,111,117,112],[109,97,105,110],[109,101,110,117],[110,97,118],[111,108],[112],[115,101,97,114,99,104],[115,101,99,116,105,111,110],[115,117,109,109,97,114,121],[117,108]] fun b91=>Wl x0 x3 x5 b91 h) fun x0 x3 x5 x60 h=>cond x60 (bL h x3 fun t13=>zC 71 [.pointer x0,.agg ⟨aT t13⟩] h fun oU fZ=>Kr fZ) (aB yv (fun Ol=>BL x5 [[104,49],[104,50],[104,51],[104,52],[104,53],[104,54]] fun b90=>Ol x0 x3 x5 b90 h) fun x0 x3 x5 x89 h=>cond x89 (bL h x3 fun t16=>zC 72 [.pointer x0,.agg ⟨aT t16⟩] h fun EG gO=>Kr gO) (aB En (fun EE=>BL x5 [[112,114,101],[108,105,115,116,105,110,103]] fun b89=>EE x0 x3 x5 b89 h) fun x0 x3 x5 x99 h=>cond x99 (bL h x3 fun t19=>zC 73 [.pointer x0,.agg ⟨aT t19⟩] h fun v20 qC=>Kr qC) (aB Ci (fun Ah=>aO (x5=[102,111,114,109]) (Ah x0 x3 x5 true h) (Ah x0 x3 x5 false h)) fun x0 x3 x5 aiR h=>cond aiR (bL h x3 fun t22=>zC 74 [.pointer x0,.agg ⟨aT t22⟩] h fun v23 lX=>Kr lX) (aB Ak (fun za=>aO (x5=[108,105]) (za x0 x3 x5 true h) (za x0 x3 x5 false h)) fun x0 x3 x5 aiS h=>cond aiS (bL h x3 fun t25=>zC 75 [.pointer x0,.agg ⟨aT t25⟩] h fun v26 AK=>Kr AK) (aB JH (fun BU=>BL x5 [[100,100],[100,116]] fun b88=>BU x0 x3 x5 b88 h) fun x0 x3 x5 Wt h=>cond Wt (bL h x3 fun t28=>zC 76 [.pointer x0,.agg ⟨aT t28⟩] h fun Jv tO=>Kr tO) (aB HX (fun rZ=>aO (x5=[112,108,97,105,110,116,101,120,116]) (rZ x0 x3 x5 true h) (rZ x0 x3 x5 false h)) fun x0 x3 x5 aiT h=>cond aiT (bL h x3 fun t31=>zC 77 [.pointer x0,.agg ⟨aT t31⟩] h fun B5 mq=>Kr mq) (aB HW (fun ng=>aO (x5=[98,117,116,116,111,110]) (ng x0 x3 x5 true h) (ng x0 x3 x5 false h)) fun x0 x3 x5 N0 h=>cond N0 (bL h x3 fun t34=>zC 78 [.pointer x0,.agg ⟨aT t34⟩] h fun Kb uC=>Kr uC) (aB SM (fun K9=>aO (x5=[97]) (K9 x0 x3 x5 true h) (K9 x0 x3 x5 false h)) fun x0 x3 x5 aiU h=>cond aiU (bL h x3 fun t37=>zC 79 [.pointer x0,.agg ⟨aT t37⟩] h fun Ms yr=>Kr yr) (aB Xt (fun K8=>aO (x5=[110,111,98,114]) (K8 x0 x3 x5 true h) (K8 x0 x3 x5 false h)) fun x0 x3 x5 aiV h=>cond aiV (bL h x3 fun t40=>zC 80 [.pointer x0,.agg ⟨aT t40⟩] h fun Zy I7=>Kr I7) (aB L19 (fun K7=>BL x5 [[97,112,112,108,101,116],[109,97,114,113,117,101,101],[111,98,106,101,99,116]] fun b87=>K7 x0 x3 x5 b87 h) fun x0 x3 x5 aiW h=>cond aiW (bL h x3 fun t43=>zC 81 [.pointer x0,.agg ⟨aT t43⟩] h fun Mr Ex=>Kr Ex) (aB L20 (fun K6=>aO (x5=[116,97,98,108,101]) (K6 x0 x3 x5 true h) (K6 x0 x3 x5 false h)) fun x0 x3 x5 Wu h=>cond Wu (bL h x3 fun t46=>zC 82 [.pointer x0,.agg ⟨aT t46⟩] h fun UN DS=>Kr DS) (aB L21 (fun K5=>BL x5 [[97,114,101,97],[98,114],[101,109,98,101,100],[105,109,103],[107,101,121,103,101,110],[119,98,114],[105,110,112,117,116]] fun b86=>K5 x0 x3 x5 b86 h) fun x0 x3 x5 aiX h=>cond aiX (bL h x3 fun t49=>zC 83 [.pointer x0,.agg ⟨aT t49⟩] h fun QF BT=>Kr BT) (aB L22 (fun K4=>aO (x5=[105,109,97,103,101]) (K4 x0 x3 x5 true h) (K4 x0 x3 x5 false h)) fun x0 x3 x5 aiY h=>cond aiY (bL h x3 fun t52=>zC 84 [.pointer x0,.agg ⟨aT t52⟩] h fun v53 JP=>Kr JP) (aB L23 (fun K3=>aO (x5=[104,114]) (K3 x0 x3 x5 true h) (K3 x0 x3 x5 false h)) fun x0 x3 x5 aiZ h=>cond aiZ (bL h x3 fun t55=>zC 85 [.pointer x0,.agg ⟨aT t55⟩] h fun v56 h57=>Kr h57) (aB L24 (fun K2=>aO (x5=[116,101,120,116,97,114,101,97]) (K2 x0 x3 x5 true h) (K2 x0 x3 x5 false h)) fun x0 x3 x5 aj0 h=>cond aj0 (bL h x3 fun t58=>zC 86 [.pointer x0,.agg ⟨aT t58⟩] h fun v59 H5=>Kr H5) (aB L25 (fun K1=>aO (x5=[120,109,112]) (K1 x0 x3 x5 true h) (K1 x0 x3 x5 false h)) fun x0 x3 x5 Wv h=>cond Wv (bL h x3 fun t61=>zC 87 [.pointer x0,.agg ⟨aT t61⟩] h fun v62 ll=>Kr ll) (BL x5 [[111,112,116,103,114,111,117,112],[111,112,116,105,111,110]] fun b64=>cond b64 (bL h x3 fun t65=>zC 88 [.pointer x0,.agg ⟨aT t65⟩] h fun v66 h67=>Kr h67) (BL x5 [[114,98],[114,116,99],[114,112],[114,116]] fun b68=>cond b68 (bL h x3 fun t69=>zC 89 [.pointer x0,.agg ⟨aT t69⟩] h fun v70 Xs=>Kr Xs) (BL x5 [[109,97,116,104],[115,118,103]] fun b72=>cond b72 (bL h x3 fun t73=>zC 90 [.pointer x0,.agg ⟨aT t73⟩] h fun Ti h75=>Kr h75) (zT h (x3.add 1) fun s76=>zC 91 [S s76] h fun XZ Jz=>au XZ fun b79=>cond b79 (bL Jz x3 fun t80=>zC 92 [.pointer x0,.agg ⟨aT t80⟩] Jz fun v81 SX=>Kr SX) (bL Jz x3 fun t83=>zC 93 [.pointer x0,.agg ⟨aT t83⟩] Jz fun v84 SY=>Kr SY))))))))))))))))))))))))))) fun h=>K (.tuple ⟨[]⟩) h
theorem ok (q:asks x0 x1 K h):zC 42 [.pointer x0,.agg ⟨aT x1⟩] h K:=
 cl Tryz.func42 q (fun p q=>sq p q fun p q=>sq p q fun p q=>bl (b:=0) (sq p q fun p q=>cn (i:=15) p q (fun p q=>lf p q) fun p q=>sq p q fun p q=>cn (i:=30) p q (fun p q=>lf p q) fun p q=>sq p q fun p q=>cn (i:=42) p q (fun p q=>lf p q) fun p q=>sq p q fun p q=>cn (i:=47) p q (fun p q=>lf p q) fun p q=>sq p q fun p q=>cn (i:=55) p q (fun p q=>lf p q) fun p q=>sq p q fun p q=>cn (i:=60) p q (fun p q=>lf p q) fun p q=>sq p q fun p q=>cn (i:=89) p q (fun p q=>lf p q) fun p q=>sq p q fun p q=>cn (i:=99) p q (fun p q=>lf p q) fun p q=>sq p q fun p q=>cn (i:=105) p q (fun p q=>lf p q) fun p q=>sq p q fun p q=>cn (i:=110) p q (fun p q=>lf p q) fun p q=>sq p q fun p q=>cn (i:=115) p q (fun p q=>lf p q) fun p q=>sq p q fun p q=>cn (i:=121) p q (fun p q=>lf p q) fun p q=>sq p q fun p q=>cn (i:=126) p q (fun p q=>lf p q) fun p q=>sq p q fun p q=>cn (i:=131) p q (fun p q=>lf p q) fun p q=>sq p q fun p q=>cn (i:=136) p q (fun p q=>lf p q) fun p q=>sq p q fun p q=>cn (i:=141) p q (fun p q=>lf p q) fun p q=>sq p q fun p q=>cn (i:=148) p q (fun p q=>lf p q) fun p q=>sq p q fun p q=>cn (i:=153) p q (fun p q=>lf p q) fun p q=>sq p q fun p q=>cn (i:=164) p q (fun p q=>lf p q) fun p q=>sq p q fun p q=>cn (i:=169) p q (fun p q=>lf p q) fun p q=>sq p q fun p q=>cn (i:=174) p q (fun p q=>lf p q) fun p q=>sq p q fun p q=>lf p q)) fun p q=>rt p q
end Xcn
namespace Xbo
abbrev Ci:=[Zp 0,Za 3,Zb 84]
abbrev En:=[Zp 0,Za 3,Zs 5,Zb 77]
abbrev yv:=[Zp 0,Za 3,Zs 5,Zb 68]
abbrev L9:=[Zp 0,Za 3,Zs 5,Zb 61]
abbrev L8:=[Zp 0,Za 3,Zs 5,Zb 57]
abbrev L6:=[Zp 0,Za 3,Zs 5,Zb 53]
abbrev L5:=[Zp 0,Za 3,Zs 5,Zb 22]
abbrev L4:=[Zp 0,Za 3,Zs 5,Zb 19]
abbrev L3:=[Zp 0,Za 3,Zs 5]
abbrev L2:=[Zp 0,Za 3]
abbrev L0:List Sl:=[]
variable (x0:OA) (x1:Tk)
variable (K:KV) (h:H)
abbrev asks (x0:OA) (x1:Tk) (K:KV) (h:H):Prop:=cF L0 (fun Kr=>aB L2 (fun ng=>aw h ⟨aT x1⟩ 45 fun Ji mr=>ng x0 Ji mr) fun x0 x3 h=>aB L3 (fun K9=>zT h (x3.add 1) fun s35=>K9 x0 x3 s35 h) fun x0 x3 x5 h=>aB L4 (fun K8=>BL x5 [[98,111,100,121],[104,116,109,108]] fun UO=>K8 x0 x3 x5 UO h) fun x0 x3 x5 qu h=>cond qu (Kr h) (aB L5 (fun K7=>BL x5 [[97,100,100,114,101,115,115],[97,114,116,105,99,108,101],[97,115,105,100,101],[98,108,111,99,107,113,117,111,116,101],[98,117,116,116,111,110],[99,101,110,116,101,114],[100,101,116,97,105,108,115],[100,105,97,108,111,103],[100,105,114],[100,105,118],[100,108],[102,105,101,108,100,115,101,116],[102,105,103,99,97,112,116,105,111,110],[102,105,103,117,114,101],[102,111,111,116,101,114],[104,101,97,100,101,114],[104,103,114,111,117,112],[108,105,115,116,105,110,103],[109,97,105,110],[109,101,110,117],[110,97,118],[111,108],[112,114,101],[115,101,97,114,99,104],[115,101,99,116,105,111,110],[115,117,109,109,97,114,121],[117,108]] fun UY=>K7 x0 x3 x5 UY h) fun x0 x3 x5 x22 h=>cond x22 (bL h x3 fun t1=>zC 94 [.pointer x0,.agg ⟨aT t1⟩] h fun v2 h3=>Kr h3) (aB L6 (fun K6=>aO (x5=[102,111,114,109]) (K6 x0 x3 x5 true h) (K6 x0 x3 x5 false h)) fun x0 x3 x5 x53 h=>cond x53 (zC 95 [.pointer x0] h fun v4 h5=>Kr h5) (aB L8 (fun K5=>aO (x5=[112]) (K5 x0 x3 x5 true h) (K5 x0 x3 x5 false h)) fun x0 x3 x5 x57 h=>cond x57 (zC 96 [.pointer x0] h fun v6 h7=>Kr h7) (aB L9 (fun K4=>BL x5 [[108,105],[100,100],[100,116]] fun b32=>K4 x0 x3 x5 b32 h) fun x0 x3 x5 x61 h=>cond x61 (bL h x3 fun t8=>zC 97 [.pointer x0,.agg ⟨aT t8⟩] h fun v9 cS=>Kr cS) (aB yv (fun K3=>BL x5 [[104,49],[104,50],[104,51],[104,52],[104,53],[104,54]] fun b31=>K3 x0 x3 x5 b31 h) fun x0 x3 x5 x68 h=>cond x68 (zC 98 [.pointer x0] h fun v11 eM=>Kr eM) (aB En (fun K2=>BL x5 [[97,112,112,108,101,116],[109,97,114,113,117,101,101],[111,98,106,101,99,116]] fun b30=>K2 x0 x3 x5 b30 h) fun x0 x3 x5 x77 h=>cond x77 (bL h x3 fun t13=>zC 99 [.pointer x0,.agg ⟨aT t13⟩] h fun oU fZ=>Kr fZ) (aB Ci (fun K1=>aO (x5=[98,114]) (K1 x0 x3 true h) (K1 x0 x3 false h)) fun x0 x3 x84 h=>cond x84 (zC 83 [.pointer x0,(.agg ⟨[.int .u8 0,S [98,114],.slice none 0 0,.bool false,S []]⟩)] h fun oT fF=>Kr fF) (zT h (x3.add 1) fun R9=>zC 91 [S R9] h fun xA gx=>au xA fun ZG=>cond ZG (bL gx x3 fun t22=>zC 100 [.pointer x0,.agg ⟨aT t22⟩] gx fun v23 lX=>Kr lX) (ae x0 fun a25=>zP gx (a25.add 0) fun Mz=>zT gx (x3.add 1) fun s27=>zC 101 [.pointer Mz,S s27] gx fun v28 u5=>Kr u5)))))))))) fun h=>K (.tuple ⟨[]⟩) h
theorem ok (q:asks x0 x1 K h):zC 43 [.pointer x0,.agg ⟨aT x1⟩] h K:=
 cl Tryz.func43 q (fun p q=>sq p q fun p q=>sq p q fun p q=>bl (b:=0) (sq p q fun p q=>cn (i:=19) p q (fun p q=>lf p q) fun p q=>sq p q fun p q=>cn (i:=22) p q (fun p q=>lf p q) fun p q=>sq p q fun p q=>cn (i:=53) p q (fun p q=>lf p q) fun p q=>sq p q fun p q=>cn (i:=57) p q (fun p q=>lf p q) fun p q=>sq p q fun p q=>cn (i:=61) p q (fun p q=>lf p q) fun p q=>sq p q fun p q=>cn (i:=68) p q (fun p q=>lf p q) fun p q=>sq p q fun p q=>cn (i:=77) p q (fun p q=>lf p q) fun p q=>sq p q fun p q=>lf p q)) fun p q=>rt p q
end Xbo
namespace Xbn
abbrev L0:List Sl:=[]
variable (x0:OA) (x1:Tk)
variable (K:KV) (h:H)
abbrev asks:Prop:=cF L0 (fun Kr=>aw h ⟨aT x1⟩ 45 fun a1 h2=>bL h2 a1 fun t3=>zC 143 [.pointer x0,.agg ⟨aT t3⟩] h2 fun v4 h5=>zC 37 [.pointer x0] h5 fun v6 h7=>Kr h7) fun h=>K (.tuple ⟨[]⟩) h
theorem ok (q:asks x0 x1 K h):zC 67 [.pointer x0,.agg ⟨aT x1⟩] h K:=
 cl Tryz.func67 q (fun p q=>lf p q) fun p q=>rt p q
end Xbn
namespace Xck
abbrev L0:List Sl:=[]
variable (x0:OA) (x1:Tk)
variable (K:KV) (h:H)
abbrev asks:Prop:=cF L0 (fun Kr=>aw h ⟨aT x1⟩ 45 fun a1 h2=>bL h2 a1 fun t3=>zC 143 [.pointer x0,.agg ⟨aT t3⟩] h2 fun v4 h5=>bL h5 a1 fun t6=>zC 144 [.pointer x0,.agg ⟨aT t6⟩,.int .u8 1] h5 fun v7 h8=>Kr h8) fun h=>K (.tuple ⟨[]⟩) h
theorem ok (q:asks x0 x1 K h):zC 68 [.pointer x0,.agg ⟨aT x1⟩] h K:=
 cl Tryz.func68 q (fun p q=>lf p q) fun p q=>rt p q
end Xck
namespace Xci
abbrev L0:List Sl:=[]
variable (x0:OA) (x1:Tk)
variable (K:KV) (h:H)
abbrev asks:Prop:=cF L0 (fun Kr=>aw h ⟨aT x1⟩ 45 fun a1 h2=>bL h2 a1 fun t3=>zC 143 [.pointer x0,.agg ⟨aT t3⟩] h2 fun v4 h5=>bL h5 a1 fun t6=>zC 144 [.pointer x0,.agg ⟨aT t6⟩,.int .u8 2] h5 fun v7 h8=>Kr h8) fun h=>K (.tuple ⟨[]⟩) h
theorem ok (q:asks x0 x1 K h):zC 69 [.pointer x0,.agg ⟨aT x1⟩] h K:=
 cl Tryz.func69 q (fun p q=>lf p q) fun p q=>rt p q
end Xci
namespace Xcm
abbrev L0:List Sl:=[]
variable (x0:OA) (x1:Tk)
variable (K:KV) (h:H)
abbrev asks:Prop:=cF L0 (fun Kr=>aw h ⟨aT x1⟩ 45 fun a1 h2=>bL h2 a1 fun t3=>zC 143 [.pointer x0,.agg ⟨aT t3⟩] h2 fun v4 h5=>bL h5 a1 fun t6=>zC 144 [.pointer x0,.agg ⟨aT t6⟩,.int .u8 3] h5 fun v7 h8=>Kr h8) fun h=>K (.tuple ⟨[]⟩) h
theorem ok (q:asks x0 x1 K h):zC 70 [.pointer x0,.agg ⟨aT x1⟩] h K:=
 cl Tryz.func70 q (fun p q=>lf p q) fun p q=>rt p q
end Xcm
namespace Xbj
abbrev L0:List Sl:=[]
variable (x0:OA) (x1:Tk)
variable (K:KV) (h:H)
abbrev asks:Prop:=cF L0 (fun Kr=>aw h ⟨aT x1⟩ 45 fun a1 h2=>zC 145 [.pointer x0] h2 fun v3 h4=>bL h4 a1 fun t5=>zC 143 [.pointer x0,.agg ⟨aT t5⟩] h4 fun v6 h7=>Kr h7) fun h=>K (.tuple ⟨[]⟩) h
theorem ok (q:asks x0 x1 K h):zC 71 [.pointer x0,.agg ⟨aT x1⟩] h K:=
 cl Tryz.func71 q (fun p q=>lf p q) fun p q=>rt p q
end Xbj
namespace Xbz
abbrev L0:List Sl:=[]
variable (x0:OA) (x1:Tk)
variable (K:KV) (h:H)
abbrev asks:Prop:=cF L0 (fun Kr=>aw h ⟨aT x1⟩ 45 fun a1 h2=>zC 145 [.pointer x0] h2 fun v3 h4=>zC 147 [] h4 fun v5 h6=>aA v5 fun yT zY yu=>zC 146 [.pointer x0,.slice yT zY yu] h6 fun v8 h9=>au v8 fun J7=>cond J7 (zC 37 [.pointer x0] h9 fun v11 eM=>bL eM a1 fun t13=>zC 143 [.pointer x0,.agg ⟨aT t13⟩] eM fun oU fZ=>Kr fZ) (bL h9 a1 fun t16=>zC 143 [.pointer x0,.agg ⟨aT t16⟩] h9 fun EG gO=>Kr gO)) fun h=>K (.tuple ⟨[]⟩) h
theorem ok (q:asks x0 x1 K h):zC 72 [.pointer x0,.agg ⟨aT x1⟩] h K:=
 cl Tryz.func72 q (fun p q=>lf p q) fun p q=>rt p q
end Xbz
namespace Xch
abbrev L0:List Sl:=[]
variable (x0:OA) (x1:Tk)
variable (K:KV) (h:H)
abbrev asks:Prop:=cF L0 (fun Kr=>aw h ⟨aT x1⟩ 45 fun a1 h2=>bL h2 a1 fun t3=>zC 71 [.pointer x0,.agg ⟨aT t3⟩] h2 fun v4 h5=>ae x0 fun a6=>aZ (a6.add 4) [.bool true] 0 h5 fun h7=>Kr h7) fun h=>K (.tuple ⟨[]⟩) h
theorem ok (q:asks x0 x1 K h):zC 73 [.pointer x0,.agg ⟨aT x1⟩] h K:=
 cl Tryz.func73 q (fun p q=>lf p q) fun p q=>rt p q
end Xch
namespace Xbv
abbrev L3:=[Zp 0,Za 3,Zb 8]
abbrev L2:=[Zp 0,Za 3]
abbrev L0:List Sl:=[]
variable (x0:OA) (x1:Tk)
variable (K:KV) (h:H)
abbrev asks (x0:OA) (x1:Tk) (K:KV) (h:H):Prop:=cF L0 (fun Kr=>aB L2 (fun K2=>aw h ⟨aT x1⟩ 45 fun pU dA=>K2 x0 pU dA) fun x0 x3 h=>aB L3 (fun K1=>ae x0 fun lk=>zI .i64 h (lk.add 3) fun i12=>aO (i12<(0:Int)) (K1 x0 x3 true h) (K1 x0 x3 false h)) fun x0 x3 x8 h=>cond x8 (bL h x3 fun t1=>zC 71 [.pointer x0,.agg ⟨aT t1⟩] h fun v2 h3=>ae x0 fun a4=>zP h3 (a4.add 0) fun p5=>zC 55 [.pointer p5] h3 fun v6 h7=>dO v6 fun aj4 o8_1 o8_2 o8_3=>ae x0 fun a9=>aZ (a9.add 3) [.int .i64 aj4] 0 h7 fun cS=>Kr cS) (Kr h)) fun h=>K (.tuple ⟨[]⟩) h
theorem ok (q:asks x0 x1 K h):zC 74 [.pointer x0,.agg ⟨aT x1⟩] h K:=
 cl Tryz.func74 q (fun p q=>sq p q fun p q=>sq p q fun p q=>lf p q) fun p q=>rt p q
end Xbv
namespace Xb8
abbrev L0:List Sl:=[]
variable (x0:OA) (x1:Tk)
variable (K:KV) (h:H)
abbrev asks:Prop:=cF L0 (fun Kr=>aw h ⟨aT x1⟩ 45 fun a1 h2=>aw h2 #[S [108,105]] 9 fun a3 h4=>zC 148 [.pointer x0,.slice (some a3) 1 1] h4 fun v5 h6=>bL h6 a1 fun t7=>zC 71 [.pointer x0,.agg ⟨aT t7⟩] h6 fun v8 h9=>Kr h9) fun h=>K (.tuple ⟨[]⟩) h
theorem ok (q:asks x0 x1 K h):zC 75 [.pointer x0,.agg ⟨aT x1⟩] h K:=
 cl Tryz.func75 q (fun p q=>lf p q) fun p q=>rt p q
end Xb8
namespace Xbm
abbrev L0:List Sl:=[]
variable (x0:OA) (x1:Tk)
variable (K:KV) (h:H)
abbrev asks:Prop:=cF L0 (fun Kr=>aw h ⟨aT x1⟩ 45 fun a1 h2=>aw h2 (sW [[100,100],[100,116]]) 9 fun a3 h4=>zC 148 [.pointer x0,.slice (some a3) 2 2] h4 fun v5 h6=>bL h6 a1 fun t7=>zC 71 [.pointer x0,.agg ⟨aT t7⟩] h6 fun v8 h9=>Kr h9) fun h=>K (.tuple ⟨[]⟩) h
theorem ok (q:asks x0 x1 K h):zC 76 [.pointer x0,.agg ⟨aT x1⟩] h K:=
 cl Tryz.func76 q (fun p q=>lf p q) fun p q=>rt p q
end Xbm
namespace Xcf
abbrev L0:List Sl:=[]
variable (x0:OA) (x1:Tk)
variable (K:KV) (h:H)
abbrev asks:Prop:=cF L0 (fun Kr=>aw h ⟨aT x1⟩ 45 fun a1 h2=>bL h2 a1 fun t3=>zC 71 [.pointer x0,.agg ⟨aT t3⟩] h2 fun v4 h5=>ae x0 fun a6=>aZ (a6.add 5) [.int .u8 4] 0 h5 fun h7=>Kr h7) fun h=>K (.tuple ⟨[]⟩) h
theorem ok (q:asks x0 x1 K h):zC 77 [.pointer x0,.agg ⟨aT x1⟩] h K:=
 cl Tryz.func77 q (fun p q=>lf p q) fun p q=>rt p q
end Xcf
namespace Xbk
abbrev L0:List Sl:=[]
variable (x0:OA) (x1:Tk)
variable (K:KV) (h:H)
abbrev asks:Prop:=cF L0 (fun Kr=>aw h ⟨aT x1⟩ 45 fun a1 h2=>aw h2 #[S [98,117,116,116,111,110]] 9 fun a3 h4=>zC 149 [.pointer x0,.int .u8 0,.slice (some a3) 1 1] h4 fun v5 h6=>au v5 fun b7=>cond b7 (zC 150 [.pointer x0,S []] h6 fun v8 h9=>aw h9 #[S [98,117,116,116,111,110]] 9 fun jJ eF=>zC 151 [.pointer x0,.slice (some jJ) 1 1] eF fun v12 fi=>bL fi a1 fun t14=>zC 93 [.pointer x0,.agg ⟨aT t14⟩] fi fun tN gX=>Kr gX) (bL h6 a1 fun t17=>zC 93 [.pointer x0,.agg ⟨aT t17⟩] h6 fun Ey pB=>Kr pB)) fun h=>K (.tuple ⟨[]⟩) h
theorem ok (q:asks x0 x1 K h):zC 78 [.pointer x0,.agg ⟨aT x1⟩] h K:=
 cl Tryz.func78 q (fun p q=>lf p q) fun p q=>rt p q
end Xbk
namespace Xb9
abbrev L2:=[Zp 0,Za 3]
abbrev L5:=[Zp 0,Za 3,Za 5]
abbrev L4:=[Zp 0,Za 3,Z6 4,Zb 17]
abbrev L3:=[Zp 0,Za 3,Z6 4]
abbrev L0:List Sl:=[]
variable (x0:OA) (x1:Tk)
variable (K:KV) (h:H)
abbrev asks (x0:OA) (x1:Tk) (K:KV) (h:H):Prop:=cF L0 (fun Kr=>aB L2 (fun K7=>aw h ⟨aT x1⟩ 45 fun Sx h58=>K7 x0 Sx h58) fun x0 x3 h=>aB L2 (fun K1=>aB L3 (fun K6=>ae x0 fun a49=>zP h (a49.add 0) fun p50=>ae p50 fun a51=>zS h (a51.add 2) fun Vz VA VB=>zT h (x3.add 1) fun s53=>zC 152 [.slice Vz VA VB,S s53] h fun v54 h55=>aL .i64 v54 fun i56=>K6 x0 x3 i56 h55) fun x0 x3 x4 h=>aB L4 (fun K5=>aO (x4 ≥ 0) (K5 x0 x3 x4 true h) (K5 x0 x3 x4 false h)) fun x0 x3 x4 ZF h=>cond ZF (aB L5 (fun K4=>ae x0 fun a40=>zP h (a40.add 0) fun p41=>ae p41 fun VU=>zS h (VU.add 2) fun QK NF VV=>(0<=x4/\x4<(NF:Int))/\(ae QK fun a44=>zI .i64 h ((a44.add (Int.toNat x4*3)).add 0) fun i45=>aw h #[.int .i64 0] 3 fun a46 Fb=>aZ a46 [.int .i64 i45] 0 Fb fun DS=>K4 x0 x3 a46 DS)) fun x0 x3 x5 h=>aB L5 (fun K3=>bL h x3 fun t37=>zC 100 [.pointer x0,.agg ⟨aT t37⟩] h fun Ms yr=>K3 x0 x3 x5 yr) fun x0 x3 x5 h=>aB L5 (fun K2=>(ae x0 fun a9=>ae x0 fun jJ=>zP h (jJ.add 0) fun Fs=>ae Fs fun a12=>zS h (a12.add 2) fun jT jD lD=>zC 63 [.slice jT jD lD] h fun oU fZ=>aA oU fun gQ gR gS=>zC 153 [.slice gQ gR gS,(.func (.func 154) ⟨[]⟩ ⟨[.pointer (some x5)]⟩)] fZ fun EG gO=>aA EG fun qG pN pO=>zP gO (a9.add 0) fun p20=>ae p20 fun a21=>aZ (a21.add 2) [.slice qG pN pO] 0 gO fun lN=>K2 x0 x3 x5 lN)/\(ae x0 fun a23=>zP h (a23.add 0) fun p24=>ae x0 fun a25=>zP h (a25.add 0) fun Mz=>ae Mz fun zU=>zS h (zU.add 2) fun Nd BQ QD=>zC 63 [.slice Nd BQ QD] h fun Jv tO=>aA Jv fun xB BE yS=>bH h tO/\(zC 153 [.slice xB BE yS,(.func (.func 154) ⟨[]⟩ ⟨[.pointer (some x5)]⟩)] tO fun B5 mq=>aA B5 fun xC xD yU=>ae p24 fun Nx=>aZ (Nx.add 2) [.slice xC xD yU] 0 mq fun uC=>K2 x0 x3 x5 uC))) fun x0 x3 x5 h=>ae x0 fun a4=>zP h (a4.add 0) fun p5=>zI .i64 h x5 fun i6=>zC 155 [.pointer p5,.int .i64 i6] h fun v7 h8=>K1 x0 x3 h8) (K1 x0 x3 h)) fun x0 x3 h=>bL h x3 fun t1=>zC 92 [.pointer x0,.agg ⟨aT t1⟩] h fun v2 h3=>Kr h3) fun h=>K (.tuple ⟨[]⟩) h
theorem ok (q:asks x0 x1 K h):zC 79 [.pointer x0,.agg ⟨aT x1⟩] h K:=
 cl Tryz.func79 q (fun p q=>sq p q fun p q=>sc q (fun q=>sq p q fun p q=>sq p q fun p q=>cn (i:=17) p q (fun p q=>sq p q fun p q=>sq p q fun p q=>sq p q fun p q=>lf p q) fun p q=>lf p q) fun p q=>lf p q) fun p q=>rt p q
end Xb9
namespace Xcb
abbrev L0:List Sl:=[]
variable (x0:OA) (x1:Tk)
variable (K:KV) (h:H)
abbrev asks:Prop:=cF L0 (fun Kr=>aw h ⟨aT x1⟩ 45 fun a1 h2=>ae x0 fun a3=>zP h2 (a3.add 0) fun p4=>zC 40 [.pointer p4] h2 fun v5 h6=>zT h6 (a1.add 1) fun s7=>aw h6 #[S s7] 9 fun a8 h9=>zC 149 [.pointer x0,.int .u8 0,.slice (some a8) 1 1] h9 fun v10 eF=>au v10 fun VL=>cond VL (bL eF a1 fun t13=>zC 100 [.pointer x0,.agg ⟨aT t13⟩] eF fun oU fZ=>bL fZ a1 fun t16=>zC 92 [.pointer x0,.agg ⟨aT t16⟩] fZ fun EG gO=>Kr gO) (bL eF a1 fun t19=>zC 92 [.pointer x0,.agg ⟨aT t19⟩] eF fun v20 qC=>Kr qC)) fun h=>K (.tuple ⟨[]⟩) h
theorem ok (q:asks x0 x1 K h):zC 80 [.pointer x0,.agg ⟨aT x1⟩] h K:=
 cl Tryz.func80 q (fun p q=>lf p q) fun p q=>rt p q
end Xcb
namespace Xcc
abbrev L0:List Sl:=[]
variable (x0:OA) (x1:Tk)
variable (K:KV) (h:H)
abbrev asks:Prop:=cF L0 (fun Kr=>aw h ⟨aT x1⟩ 45 fun a1 h2=>bL h2 a1 fun t3=>zC 93 [.pointer x0,.agg ⟨aT t3⟩] h2 fun v4 h5=>ae x0 fun a6=>zP h5 (a6.add 0) fun p7=>ae x0 fun a8=>zP h5 (a8.add 0) fun p9=>ae p9 fun jJ=>zS h5 (jJ.add 2) fun mX lz mg=>zC 156 [.slice mX lz mg,(.agg ⟨[.int .i64 (-1),S [],.slice none 0 0]⟩)] h5 fun v12 fi=>aA v12 fun xV xW xX=>bH h5 fi/\(ae p7 fun pV=>aZ (pV.add 2) [.slice xV xW xX] 0 fi fun gX=>Kr gX)) fun h=>K (.tuple ⟨[]⟩) h
theorem ok (q:asks x0 x1 K h):zC 81 [.pointer x0,.agg ⟨aT x1⟩] h K:=
 cl Tryz.func81 q (fun p q=>lf p q) fun p q=>rt p q
end Xcc
namespace Xco
abbrev L0:List Sl:=[]
variable (x0:OA) (x1:Tk)
variable (K:KV) (h:H)
abbrev asks:Prop:=cF L0 (fun Kr=>aw h ⟨aT x1⟩ 45 fun a1 h2=>bL h2 a1 fun t3=>zC 71 [.pointer x0,.agg ⟨aT t3⟩] h2 fun v4 h5=>ae x0 fun a6=>aZ (a6.add 1) [.int .u8 2] 0 h5 fun h7=>Kr h7) fun h=>K (.tuple ⟨[]⟩) h
theorem ok (q:asks x0 x1 K h):zC 82 [.pointer x0,.agg ⟨aT x1⟩] h K:=
 cl Tryz.func82 q (fun p q=>lf p q) fun p q=>rt p q
end Xco
namespace Xbh
abbrev L0:List Sl:=[]
variable (x0:OA) (x1:Tk)
variable (K:KV) (h:H)
abbrev asks:Prop:=cF L0 (fun Kr=>aw h ⟨aT x1⟩ 45 fun a1 h2=>ae x0 fun a3=>zP h2 (a3.add 0) fun p4=>zC 40 [.pointer p4] h2 fun v5 h6=>bL h6 a1 fun t7=>zC 67 [.pointer x0,.agg ⟨aT t7⟩] h6 fun v8 h9=>Kr h9) fun h=>K (.tuple ⟨[]⟩) h
theorem ok (q:asks x0 x1 K h):zC 83 [.pointer x0,.agg ⟨aT x1⟩] h K:=
 cl Tryz.func83 q (fun p q=>lf p q) fun p q=>rt p q
end Xbh
namespace Xb1
abbrev L0:List Sl:=[]
variable (x0:OA) (x1:Tk)
variable (K:KV) (h:H)
abbrev asks:Prop:=cF L0 (fun Kr=>aw h ⟨aT x1⟩ 45 fun a1 h2=>aZ (a1.add 1) [S [105,109,103]] 0 h2 fun h3=>bL h3 a1 fun t4=>zC 83 [.pointer x0,.agg ⟨aT t4⟩] h3 fun v5 h6=>Kr h6) fun h=>K (.tuple ⟨[]⟩) h
theorem ok (q:asks x0 x1 K h):zC 84 [.pointer x0,.agg ⟨aT x1⟩] h K:=
 cl Tryz.func84 q (fun p q=>lf p q) fun p q=>rt p q
end Xb1
namespace Xb0
abbrev L0:List Sl:=[]
variable (x0:OA) (x1:Tk)
variable (K:KV) (h:H)
abbrev asks:Prop:=cF L0 (fun Kr=>aw h ⟨aT x1⟩ 45 fun a1 h2=>zC 145 [.pointer x0] h2 fun v3 h4=>bL h4 a1 fun t5=>zC 67 [.pointer x0,.agg ⟨aT t5⟩] h4 fun v6 h7=>Kr h7) fun h=>K (.tuple ⟨[]⟩) h
theorem ok (q:asks x0 x1 K h):zC 85 [.pointer x0,.agg ⟨aT x1⟩] h K:=
 cl Tryz.func85 q (fun p q=>lf p q) fun p q=>rt p q
end Xb0
namespace Xcp
abbrev L0:List Sl:=[]
variable (x0:OA) (x1:Tk)
variable (K:KV) (h:H)
abbrev asks:Prop:=cF L0 (fun Kr=>aw h ⟨aT x1⟩ 45 fun a1 h2=>bL h2 a1 fun t3=>zC 68 [.pointer x0,.agg ⟨aT t3⟩] h2 fun v4 h5=>ae x0 fun a6=>aZ (a6.add 4) [.bool true] 0 h5 fun h7=>Kr h7) fun h=>K (.tuple ⟨[]⟩) h
theorem ok (q:asks x0 x1 K h):zC 86 [.pointer x0,.agg ⟨aT x1⟩] h K:=
 cl Tryz.func86 q (fun p q=>lf p q) fun p q=>rt p q
end Xcp
namespace Xcr
abbrev L0:List Sl:=[]
variable (x0:OA) (x1:Tk)
variable (K:KV) (h:H)
abbrev asks:Prop:=cF L0 (fun Kr=>aw h ⟨aT x1⟩ 45 fun a1 h2=>zC 145 [.pointer x0] h2 fun v3 h4=>ae x0 fun a5=>zP h4 (a5.add 0) fun p6=>zC 40 [.pointer p6] h4 fun v7 h8=>bL h8 a1 fun t9=>zC 69 [.pointer x0,.agg ⟨aT t9⟩] h8 fun v10 eF=>Kr eF) fun h=>K (.tuple ⟨[]⟩) h
theorem ok (q:asks x0 x1 K h):zC 87 [.pointer x0,.agg ⟨aT x1⟩] h K:=
 cl Tryz.func87 q (fun p q=>lf p q) fun p q=>rt p q
end Xcr
namespace Xcd
abbrev L0:List Sl:=[]
variable (x0:OA) (x1:Tk)
variable (K:KV) (h:H)
abbrev asks:Prop:=cF L0 (fun Kr=>aw h ⟨aT x1⟩ 45 fun a1 h2=>aw h2 #[S [111,112,116,105,111,110]] 9 fun a3 h4=>zC 146 [.pointer x0,.slice (some a3) 1 1] h4 fun v5 h6=>au v5 fun b7=>cond b7 (zC 37 [.pointer x0] h6 fun v8 h9=>bL h9 a1 fun t10=>zC 93 [.pointer x0,.agg ⟨aT t10⟩] h9 fun v11 eM=>Kr eM) (bL h6 a1 fun t13=>zC 93 [.pointer x0,.agg ⟨aT t13⟩] h6 fun oU fZ=>Kr fZ)) fun h=>K (.tuple ⟨[]⟩) h
theorem ok (q:asks x0 x1 K h):zC 88 [.pointer x0,.agg ⟨aT x1⟩] h K:=
 cl Tryz.func88 q (fun p q=>lf p q) fun p q=>rt p q
end Xcd
namespace Xcl
abbrev L3:=[Zp 0,Za 3,Zs 4]
abbrev L2:=[Zp 0,Za 3]
abbrev L0:List Sl:=[]
variable (x0:OA) (x1:Tk)
variable (K:KV) (h:H)
abbrev asks (x0:OA) (x1:Tk) (K:KV) (h:H):Prop:=cF L0 (fun Kr=>aB L2 (fun K3=>aw h ⟨aT x1⟩ 45 fun pM fF=>K3 x0 pM fF) fun x0 x3 h=>aB L3 (fun K2=>K2 x0 x3 [] h) fun x0 x3 x4 h=>aB L3 (fun K1=>zT h (x3.add 1) fun Ce=>aO (Ce=[114,112]) (K1 x0 x3 [114,116,99] h) (zT h (x3.add 1) fun Ep=>aO (Ep=[114,116]) (K1 x0 x3 [114,116,99] h) (K1 x0 x3 x4 h))) fun x0 x3 x4 h=>aw h #[S [114,117,98,121]] 9 fun a1 h2=>zC 149 [.pointer x0,.int .u8 0,.slice (some a1) 1 1] h2 fun v3 h4=>au v3 fun b5=>cond b5 (zC 150 [.pointer x0,S x4] h4 fun v6 h7=>bL h7 x3 fun t8=>zC 143 [.pointer x0,.agg ⟨aT t8⟩] h7 fun v9 cS=>Kr cS) (bL h4 x3 fun t11=>zC 143 [.pointer x0,.agg ⟨aT t11⟩] h4 fun v12 fi=>Kr fi)) fun h=>K (.tuple ⟨[]⟩) h
theorem ok (q:asks x0 x1 K h):zC 89 [.pointer x0,.agg ⟨aT x1⟩] h K:=
 cl Tryz.func89 q (fun p q=>sq p q fun p q=>sq p q fun p q=>sq p q fun p q=>lf p q) fun p q=>rt p q
end Xcl
namespace Xbi
abbrev L3:=[Zp 0,Za 3,Z8 4]
abbrev L2:=[Zp 0,Za 3]
abbrev L0:List Sl:=[]
variable (x0:OA) (x1:Tk)
variable (K:KV) (h:H)
abbrev asks (x0:OA) (x1:Tk) (K:KV) (h:H):Prop:=cF L0 (fun Kr=>aB L2 (fun K4=>aw h ⟨aT x1⟩ 45 fun pV gX=>K4 x0 pV gX) fun x0 x3 h=>aB L2 (fun K3=>ae x0 fun lk=>zP h (lk.add 0) fun p12=>zC 40 [.pointer p12] h fun np dA=>K3 x0 x3 dA) fun x0 x3 h=>aB L3 (fun K2=>K2 x0 x3 2 h) fun x0 x3 x4 h=>aB L3 (fun K1=>zT h (x3.add 1) fun pv=>aO (pv=[115,118,103]) (K1 x0 x3 1 h) (K1 x0 x3 x4 h)) fun x0 x3 x4 h=>ae x0 fun a1=>zP h (a1.add 0) fun p2=>bL h x3 fun t3=>zC 64 [.pointer p2,.int .u8 x4,.agg ⟨aT t3⟩] h fun v4 h5=>aL .i64 v4 fun i6=>zB h5 (x3.add 3) fun b7=>cond b7 (zC 37 [.pointer x0] h5 fun v8 h9=>Kr h9) (Kr h5)) fun h=>K (.tuple ⟨[]⟩) h
theorem ok (q:asks x0 x1 K h):zC 90 [.pointer x0,.agg ⟨aT x1⟩] h K:=
 cl Tryz.func90 q (fun p q=>sq p q fun p q=>sq p q fun p q=>sq p q fun p q=>sq p q fun p q=>lf p q) fun p q=>rt p q
end Xbi
namespace Xbw
abbrev L0:List Sl:=[]
variable (x0:OA) (x1:Tk)
variable (K:KV) (h:H)
abbrev asks:Prop:=cF L0 (fun Kr=>aw h ⟨aT x1⟩ 45 fun a1 h2=>bL h2 a1 fun t3=>zC 93 [.pointer x0,.agg ⟨aT t3⟩] h2 fun v4 h5=>ae x0 fun a6=>zP h5 (a6.add 0) fun p7=>ae x0 fun a8=>zP h5 (a8.add 0) fun p9=>ae p9 fun jJ=>zS h5 (jJ.add 2) fun mX lz mg=>ae x0 fun a12=>zP h5 (a12.add 0) fun U4=>zT h5 (a1.add 1) fun Ce=>zS h5 (a1.add 2) fun kR ly oN=>zC 55 [.pointer U4] h5 fun oT fF=>dO oT fun abg ap6 ap7 ap8=>bH h5 fF/\(zC 156 [.slice mX lz mg,(.agg ⟨[.int .i64 abg,S Ce,.slice kR ly oN]⟩)] fF fun xA gx=>aA xA fun xE vD xF=>bH fF gx/\(ae p7 fun a22=>aZ (a22.add 2) [.slice xE vD xF] 0 gx fun qD=>Kr qD))) fun h=>K (.tuple ⟨[]⟩) h
theorem ok (q:asks x0 x1 K h):zC 92 [.pointer x0,.agg ⟨aT x1⟩] h K:=
 cl Tryz.func92 q (fun p q=>lf p q) fun p q=>rt p q
end Xbw
namespace Xce
abbrev L0:List Sl:=[]
variable (x0:OA) (x1:Tk)
variable (K:KV) (h:H)
abbrev asks:Prop:=cF L0 (fun Kr=>aw h ⟨aT x1⟩ 45 fun a1 h2=>ae x0 fun a3=>zP h2 (a3.add 0) fun p4=>zC 40 [.pointer p4] h2 fun v5 h6=>bL h6 a1 fun t7=>zC 143 [.pointer x0,.agg ⟨aT t7⟩] h6 fun v8 h9=>Kr h9) fun h=>K (.tuple ⟨[]⟩) h
theorem ok (q:asks x0 x1 K h):zC 93 [.pointer x0,.agg ⟨aT x1⟩] h K:=
 cl Tryz.func93 q (fun p q=>lf p q) fun p q=>rt p q
end Xce
namespace Xbp
abbrev L0:List Sl:=[]
variable (x0:OA) (x1:Tk)
variable (K:KV) (h:H)
abbrev asks:Prop:=cF L0 (fun Kr=>aw h ⟨aT x1⟩ 45 fun a1 h2=>zT h2 (a1.add 1) fun s3=>aw h2 #[S s3] 9 fun a4 h5=>zC 149 [.pointer x0,.int .u8 0,.slice (some a4) 1 1] h5 fun v6 h7=>au v6 fun b8=>cond b8 (zC 150 [.pointer x0,S []] h7 fun v9 cS=>zT cS (a1.add 1) fun vl=>aw cS #[S vl] 9 fun a12 fi=>zC 151 [.pointer x0,.slice (some a12) 1 1] fi fun oU fZ=>Kr fZ) (Kr h7)) fun h=>K (.tuple ⟨[]⟩) h
theorem ok (q:asks x0 x1 K h):zC 94 [.pointer x0,.agg ⟨aT x1⟩] h K:=
 cl Tryz.func94 q (fun p q=>lf p q) fun p q=>rt p q
end Xbp
namespace Xbq
abbrev L3:=[Zp 0,Z6 2,Zb 16]
abbrev L2:=[Zp 0,Z6 2]
abbrev L0:List Sl:=[]
variable (x0:OA)
variable (K:KV) (h:H)
abbrev asks (x0:OA) (K:KV) (h:H):Prop:=cF L0 (fun Kr=>aB L2 (fun K3=>ae x0 fun a12=>zI .i64 h (a12.add 3) fun i13=>K3 x0 i13 h) fun x0 x2 h=>aB L2 (fun K2=>ae x0 fun jJ=>aZ (jJ.add 3) [.int .i64 (-1)] 0 h fun eF=>K2 x0 x2 eF) fun x0 x2 h=>aB L3 (fun K1=>aO (x2 ≥ 0) (zC 158 [.pointer x0,.int .i64 x2] h fun v7 h8=>au v7 fun b9=>cond b9 (K1 x0 x2 true h8) (K1 x0 x2 false h8)) (K1 x0 x2 false h)) fun x0 x2 Q7 h=>cond Q7 (zC 150 [.pointer x0,S []] h fun v1 h2=>ae x0 fun a3=>zP h2 (a3.add 0) fun p4=>zC 155 [.pointer p4,.int .i64 x2] h2 fun v5 h6=>Kr h6) (Kr h)) fun h=>K (.tuple ⟨[]⟩) h
theorem ok (q:asks x0 K h):zC 95 [.pointer x0] h K:=
 cl Tryz.func95 q (fun p q=>sq p q fun p q=>sq p q fun p q=>sq p q fun p q=>lf p q) fun p q=>rt p q
end Xbq
namespace Xbu
abbrev L0:List Sl:=[]
variable (x0:OA)
variable (K:KV) (h:H)
abbrev asks:Prop:=cF L0 (fun Kr=>aw h #[S [112]] 9 fun a1 h2=>zC 149 [.pointer x0,.int .u8 2,.slice (some a1) 1 1] h2 fun v3 h4=>au v3 fun b5=>cond b5 (zC 145 [.pointer x0] h4 fun v6 h7=>Kr h7) (zC 143 [.pointer x0,(.agg ⟨[.int .u8 0,S [112],.slice none 0 0,.bool false,S []]⟩)] h4 fun v8 h9=>zC 145 [.pointer x0] h9 fun v10 eF=>Kr eF)) fun h=>K (.tuple ⟨[]⟩) h
theorem ok (q:asks x0 K h):zC 96 [.pointer x0] h K:=
 cl Tryz.func96 q (fun p q=>lf p q) fun p q=>rt p q
end Xbu
namespace Xbs
abbrev L3:=[Zp 0,Za 3,Z8 4]
abbrev L2:=[Zp 0,Za 3]
abbrev L0:List Sl:=[]
variable (x0:OA) (x1:Tk)
variable (K:KV) (h:H)
abbrev asks (x0:OA) (x1:Tk) (K:KV) (h:H):Prop:=cF L0 (fun Kr=>aB L2 (fun K3=>aw h ⟨aT x1⟩ 45 fun pM fF=>K3 x0 pM fF) fun x0 x3 h=>aB L3 (fun K2=>K2 x0 x3 0 h) fun x0 x3 x4 h=>aB L3 (fun K1=>zT h (x3.add 1) fun Ep=>aO (Ep=[108,105]) (K1 x0 x3 1 h) (K1 x0 x3 x4 h)) fun x0 x3 x4 h=>zT h (x3.add 1) fun s1=>aw h #[S s1] 9 fun a2 h3=>zC 149 [.pointer x0,.int .u8 x4,.slice (some a2) 1 1] h3 fun v4 h5=>au v4 fun b6=>cond b6 (zT h5 (x3.add 1) fun s7=>zC 150 [.pointer x0,S s7] h5 fun v8 h9=>zT h9 (x3.add 1) fun pv=>aw h9 #[S pv] 9 fun lk eM=>zC 151 [.pointer x0,.slice (some lk) 1 1] eM fun np dA=>Kr dA) (Kr h5)) fun h=>K (.tuple ⟨[]⟩) h
theorem ok (q:asks x0 x1 K h):zC 97 [.pointer x0,.agg ⟨aT x1⟩] h K:=
 cl Tryz.func97 q (fun p q=>sq p q fun p q=>sq p q fun p q=>sq p q fun p q=>lf p q) fun p q=>rt p q
end Xbs
namespace Xbr
abbrev L0:List Sl:=[]
variable (x0:OA)
variable (K:KV) (h:H)
abbrev asks:Prop:=cF L0 (fun Kr=>zC 147 [] h fun v1 h2=>aA v1 fun wg r8 u6=>zC 149 [.pointer x0,.int .u8 0,.slice wg r8 u6] h2 fun v4 h5=>au v4 fun b6=>cond b6 (zC 150 [.pointer x0,S []] h5 fun v7 h8=>zC 147 [] h8 fun v9 cS=>aA v9 fun mX lz mg=>zC 151 [.pointer x0,.slice mX lz mg] cS fun v12 fi=>Kr fi) (Kr h5)) fun h=>K (.tuple ⟨[]⟩) h
theorem ok (q:asks x0 K h):zC 98 [.pointer x0] h K:=
 cl Tryz.func98 q (fun p q=>lf p q) fun p q=>rt p q
end Xbr
namespace Xbt
abbrev L3:=[Zp 0,Za 3,Zb 8]
abbrev L2:=[Zp 0,Za 3]
abbrev L0:List Sl:=[]
variable (x0:OA) (x1:Tk)
variable (K:KV) (h:H)
abbrev asks (x0:OA) (x1:Tk) (K:KV) (h:H):Prop:=cF L0 (fun Kr=>aB L2 (fun K2=>aw h ⟨aT x1⟩ 45 fun a21 lN=>K2 x0 a21 lN) fun x0 x3 h=>aB L3 (fun K1=>zT h (x3.add 1) fun Ep=>aw h #[S Ep] 9 fun pM fF=>zC 149 [.pointer x0,.int .u8 0,.slice (some pM) 1 1] fF fun Ey pB=>au Ey fun V4=>cond V4 (K1 x0 x3 true pB) (K1 x0 x3 false pB)) fun x0 x3 x8 h=>cond x8 (bL h x3 fun t1=>zC 94 [.pointer x0,.agg ⟨aT t1⟩] h fun v2 h3=>ae x0 fun a4=>zP h3 (a4.add 0) fun p5=>ae x0 fun a6=>zP h3 (a6.add 0) fun p7=>ae p7 fun a8=>zS h3 (a8.add 2) fun wa uX yV=>zC 159 [.slice wa uX yV] h3 fun v10 eF=>aA v10 fun rO nX rP=>bH h3 eF/\(ae p5 fun pU=>aZ (pU.add 2) [.slice rO nX rP] 0 eF fun dA=>Kr dA)) (Kr h)) fun h=>K (.tuple ⟨[]⟩) h
theorem ok (q:asks x0 x1 K h):zC 99 [.pointer x0,.agg ⟨aT x1⟩] h K:=
 cl Tryz.func99 q (fun p q=>sq p q fun p q=>sq p q fun p q=>lf p q) fun p q=>rt p q
end Xbt
namespace Xb7
abbrev L0:List Sl:=[]
variable (x0:OA) (x1:Tk)
variable (K:KV) (h:H)
abbrev asks:Prop:=cF L0 (fun Kr=>aw h ⟨aT x1⟩ 45 fun a1 h2=>ae x0 fun a3=>zP h2 (a3.add 0) fun p4=>zT h2 (a1.add 1) fun s5=>zC 160 [.pointer p4,S s5] h2 fun v6 h7=>au v6 fun b8=>cond b8 (Kr h7) (ae x0 fun a9=>zP h7 (a9.add 0) fun p10=>zT h7 (a1.add 1) fun vl=>zC 101 [.pointer p10,S vl] h7 fun v12 fi=>Kr fi)) fun h=>K (.tuple ⟨[]⟩) h
theorem ok (q:asks x0 x1 K h):zC 100 [.pointer x0,.agg ⟨aT x1⟩] h K:=
 cl Tryz.func100 q (fun p q=>lf p q) fun p q=>rt p q
end Xb7
namespace Xb4
abbrev L0:List Sl:=[]
variable (x0:OA) (x1:Tk)
variable (K:KV) (h:H)
abbrev asks:Prop:=cF L0 (fun Kr=>aw h ⟨aT x1⟩ 45 fun a1 h2=>ae x0 fun a3=>zP h2 (a3.add 0) fun p4=>bL h2 a1 fun t5=>zC 64 [.pointer p4,.int .u8 0,.agg ⟨aT t5⟩] h2 fun v6 h7=>aL .i64 v6 fun i8=>Kr h7) fun h=>K (.tuple ⟨[]⟩) h
theorem ok (q:asks x0 x1 K h):zC 143 [.pointer x0,.agg ⟨aT x1⟩] h K:=
 cl Tryz.func143 q (fun p q=>lf p q) fun p q=>rt p q
end Xb4
namespace Xcj
abbrev L0:List Sl:=[]
variable (x0:OA) (x1:Tk) (x2:Int)
variable (K:KV) (h:H)
abbrev asks:Prop:=cF L0 (fun Kr=>aw h ⟨aT x1⟩ 45 fun a1 h2=>ae x0 fun a3=>zI .u8 h2 (a3.add 1) fun i4=>ae x0 fun a5=>aZ (a5.add 2) [.int .u8 i4] 0 h2 fun h6=>ae x0 fun a7=>aZ (a7.add 1) [.int .u8 1] 0 h6 fun h8=>(ae x0 fun a9=>aZ (a9.add 5) [.int .u8 x2] 0 h8 fun cS=>zT cS (a1.add 1) fun vl=>ae x0 fun a12=>aZ (a12.add 6) [S vl] 0 cS fun fi=>Kr fi)/\(zT h8 (a1.add 1) fun Ce=>ae x0 fun pV=>aZ (pV.add 5) [.int .u8 x2] 0 h8 fun gX=>ae x0 fun oO=>aZ (oO.add 6) [S Ce] 0 gX fun gO=>Kr gO)) fun h=>K (.tuple ⟨[]⟩) h
theorem ok (q:asks x0 x1 x2 K h):zC 144 [.pointer x0,.agg ⟨aT x1⟩,.int .u8 x2] h K:=
 cl Tryz.func144 q (fun p q=>lf p q) fun p q=>rt p q
end Xcj
namespace Xbl
abbrev L0:List Sl:=[]
variable (x0:OA)
variable (K:KV) (h:H)
abbrev asks:Prop:=cF L0 (fun Kr=>aw h #[S [112]] 9 fun a1 h2=>zC 149 [.pointer x0,.int .u8 2,.slice (some a1) 1 1] h2 fun v3 h4=>au v3 fun b5=>cond b5 (zC 150 [.pointer x0,S [112]] h4 fun v6 h7=>aw h7 #[S [112]] 9 fun a8 h9=>zC 151 [.pointer x0,.slice (some a8) 1 1] h9 fun v10 eF=>Kr eF) (Kr h4)) fun h=>K (.tuple ⟨[]⟩) h
theorem ok (q:asks x0 K h):zC 145 [.pointer x0] h K:=
 cl Tryz.func145 q (fun p q=>lf p q) fun p q=>rt p q
end Xbl
namespace Xb5
abbrev L0:=[Zb 4]
variable (x0 cf:OA) (bU cu:Nat)
variable (K:KV) (h:H)
abbrev asks:Prop:=cF L0 (fun Kr=>ae x0 fun a1=>zP h (a1.add 0) fun p2=>zC 55 [.pointer p2] h fun v3 h4=>dO v3 fun Ww Wx Wy Wz=>aw h4 ⟨[.int .i64 0,.int .u8 0,S [],.int .u8 0]⟩ 77 fun a6 h7=>aZ a6 [.int .i64 Ww,.int .u8 Wx,S Wy,.int .u8 Wz] 0 h7 fun h8=>zI .u8 h8 (a6.add 1) fun i9=>aO (i9=(0:Int)) (zT h8 (a6.add 2) fun pv=>zC 189 [.slice cf bU cu,S pv] h8 fun v11 eM=>au v11 fun F8=>cond F8 (Kr true eM) (Kr false eM)) (Kr false h8)) fun y4 h=>K (.bool y4) h
theorem ok (q:asks x0 cf bU cu K h):zC 146 [.pointer x0,.slice cf bU cu] h K:=
 cl Tryz.func146 q (fun p q=>lf p q) fun p q=>rt p q
end Xb5
namespace Xcw
abbrev L0:=[Zl 0]
variable (K:KV) (h:H)
abbrev asks:Prop:=cF L0 (fun Kr=>aw h (sW [[104,49],[104,50],[104,51],[104,52],[104,53],[104,54]]) 9 fun a1 h2=>Kr (some a1) 6 6 h2) fun y0b y0n y0c h=>K (.slice y0b y0n y0c) h
theorem ok (q:asks K h):zC 147 [] h K:=
 cl Tryz.func147 q (fun p q=>lf p q) fun p q=>rt p q
end Xcw
namespace Xb6
abbrev L3:=[Zp 0,Z6 4,Zb 16]
abbrev L2:=[Zp 0,Z6 4]
abbrev L0:List Sl:=[]
variable (x0 cf:OA) (bU cu:Nat)
variable (K:KV) (h:H)
abbrev asks (x0 cf:OA) (bU cu:Nat) (K:KV) (h:H):Prop:=cF L0 (fun Kr=>aB L2 (fun K2=>ae x0 fun pU=>zP h (pU.add 0) fun P2=>ae P2 fun pV=>zS h (pV.add 1) fun gQ gR gS=>zC 190 [.slice gQ gR gS,.slice cf bU cu] h fun EG gO=>aL .i64 EG fun i19=>K2 x0 i19 gO) fun x0 x4 h=>aB L3 (fun K1=>aO (x4 ≥ 0) (K1 x0 x4 true h) (K1 x0 x4 false h)) fun x0 x4 Q7 h=>cond Q7 (ae x0 fun a1=>zP h (a1.add 0) fun p2=>ae p2 fun a3=>zS h (a3.add 1) fun mB mC sB=>(0<=x4/\x4<(mC:Int))/\(ae mB fun a5=>zT h ((a5.add (Int.toNat x4*4)).add 2) fun s6=>zC 150 [.pointer x0,S s6] h fun v7 h8=>aw h8 #[S s6] 9 fun a9 cS=>zC 151 [.pointer x0,.slice (some a9) 1 1] cS fun v11 eM=>Kr eM)) (Kr h)) fun h=>K (.tuple ⟨[]⟩) h
theorem ok (q:asks x0 cf bU cu K h):zC 148 [.pointer x0,.slice cf bU cu] h K:=
 cl Tryz.func148 q (fun p q=>sq p q fun p q=>sq p q fun p q=>lf p q) fun p q=>rt p q
end Xb6
namespace Xb3
abbrev L0:=[Zb 6]
variable (x0:OA) (x1:Int) (dx:OA) (dq dz:Nat)
variable (K:KV) (h:H)
abbrev asks:Prop:=cF L0 (fun Kr=>ae x0 fun a1=>zP h (a1.add 0) fun p2=>ae p2 fun a3=>zS h (a3.add 1) fun mB mC sB=>zC 191 [.slice mB mC sB,.int .u8 x1,.slice dx dq dz] h fun v5 h6=>au v5 fun b7=>cond b7 (Kr true h6) (Kr false h6)) fun y6 h=>K (.bool y6) h
theorem ok (q:asks x0 x1 dx dq dz K h):zC 149 [.pointer x0,.int .u8 x1,.slice dx dq dz] h K:=
 cl Tryz.func149 q (fun p q=>lf p q) fun p q=>rt p q
end Xb3
namespace Xb2
abbrev L0:List Sl:=[]
variable (x0:OA) (x1:List UInt8)
variable (K:KV) (h:H)
abbrev asks:Prop:=cF L0 (fun Kr=>ae x0 fun a1=>zP h (a1.add 0) fun p2=>ae x0 fun a3=>zP h (a3.add 0) fun p4=>ae p4 fun a5=>zS h (a5.add 1) fun jH gn lj=>zC 192 [.slice jH gn lj,S x1] h fun v7 h8=>aL .i64 v7 fun i9=>bH h h8/\(zC 57 [.pointer p2,.int .i64 i9] h8 fun v10 eF=>Kr eF)) fun h=>K (.tuple ⟨[]⟩) h
theorem ok (q:asks x0 x1 K h):zC 150 [.pointer x0,S x1] h K:=
 cl Tryz.func150 q (fun p q=>lf p q) fun p q=>rt p q
end Xb2
namespace Xcq
abbrev L0:List Sl:=[]
variable (x0 cf:OA) (bU cu:Nat)
variable (K:KV) (h:H)
abbrev asks:Prop:=cF L0 (fun Kr=>ae x0 fun a1=>zP h (a1.add 0) fun p2=>ae x0 fun a3=>zP h (a3.add 0) fun p4=>ae p4 fun a5=>zS h (a5.add 1) fun jH gn lj=>zC 128 [.slice jH gn lj,.slice cf bU cu] h fun v7 h8=>aL .i64 v7 fun i9=>bH h h8/\(zC 57 [.pointer p2,.int .i64 i9] h8 fun v10 eF=>Kr eF)) fun h=>K (.tuple ⟨[]⟩) h
theorem ok (q:asks x0 cf bU cu K h):zC 151 [.pointer x0,.slice cf bU cu] h K:=
 cl Tryz.func151 q (fun p q=>lf p q) fun p q=>rt p q
end Xcq
namespace Xca
abbrev L0:=[Zb 3]
variable (cz:Int) (cD:List UInt8) (kX:OA) (kY kZ:Nat) (x1:Addr)
variable (K:KV) (h:H)
abbrev asks:Prop:=cF L0 (fun Kr=>aw h ⟨[.int .i64 cz,S cD,.slice kX kY kZ]⟩ 79 fun a1 h2=>zI .i64 h2 (a1.add 0) fun i3=>zI .i64 h2 x1 fun i4=>aO (i3=i4) (Kr true h2) (Kr false h2)) fun y3 h=>K (.bool y3) h
theorem ok (q:asks cz cD kX kY kZ x1 K h):zC 154 [(.agg ⟨[.int .i64 cz,S cD,.slice kX kY kZ]⟩),.pointer (some x1)] h K:=
 cl Tryz.func154 q (fun p q=>lf p q) fun p q=>rt p q
end Xca
namespace Tv
abbrev L4:List Sl:=[]
abbrev L5:=[Zl 28,Z6 29,Z6 30]
abbrev L0:=[Zb 4]
abbrev L3:=[Zp 0,Z6 5]
abbrev L2:=[Zp 0,Za 3]
abbrev T4:=TK L4
abbrev T0:=TK L0
abbrev T5:=TK L5
variable (x0:OA) (x1:Int)
abbrev ix (Kn Ke0:T4) (Kr:T0):T5->T5:=fun K2 Q8 Q9 WA zW JI h=>aO (JI<zW) ((0<=JI/\JI<(Q9:Int))/\(ae Q8 fun a1=>ldO h (a1.add (Int.toNat JI*4)) fun aj8 aj9 aja ajb=>aw h ⟨[.int .i64 0,.int .u8 0,S [],.int .u8 0]⟩ 77 fun a3 h4=>aZ a3 [.int .i64 aj8,.int .u8 aj9,S aja,.int .u8 ajb] 0 h4 fun h5=>ldO h5 a3 fun WB WC WD WE=>aw h5 #[.int .i64 0,.int .u8 0,S [42],.int .u8 0,.int .i64 WB,.int .u8 WC,S WD,.int .u8 WE] 77 fun a7 h8=>aw h8 #[S [42]] 9 fun a9 cS=>zC 191 [.slice (some a7) 2 2,.int .u8 0,.slice (some a9) 1 1] cS fun v11 eM=>au v11 fun F8=>cond F8 (bc .i64 (JI+(1:Int))/\(K2 Q8 Q9 WA zW (JI+(1:Int)) eM)) (Kr false eM))) (Ke0 h)
abbrev gJ (Kn Ke0:T4) (Kr:T0):Nat->T5:=LP L5 (ix Kn Ke0 Kr)
variable (K:KV) (h:H)
abbrev asks (x0:OA) (x1:Int) (K:KV) (h:H):Prop:=cF L0 (fun Kr=>aB L2 (fun K6=>aw h #[.int .i64 x1] 3 fun a25 oC=>K6 x0 a25 oC) fun x0 x3 h=>aB L3 (fun K5=>ae x0 fun sS=>zP h (sS.add 0) fun p19=>ae p19 fun a20=>zS h (a20.add 1) fun xE vD xF=>zC 183 [.slice xE vD xF,(.func (.func 200) ⟨[]⟩ ⟨[.pointer (some x3)]⟩)] h fun v22 qD=>aL .i64 v22 fun i24=>K5 x0 i24 qD) fun x0 x5 h=>aB L3 (fun K4=>aO (x5<(0:Int)) (Kr false h) (K4 x0 x5 h)) fun x0 x5 h=>aB L4 (fun K1=>aB L5 (fun K3=>ae x0 fun lS=>zP h (lS.add 0) fun p15=>ae p15 fun pM=>zS h (pM.add 1) fun oP mY oQ=>bc .i64 (x5+(1:Int))/\((0<=(x5+(1:Int))/\(x5+(1:Int))<=(mY:Int)/\(mY:Int)<=(oQ:Int))/\(K3 (if oQ=Int.toNat (x5+(1:Int)) then oP else Option.map (fun q=>q.add (Int.toNat (x5+(1:Int))*4)) oP) (Int.toNat (mY:Int) - Int.toNat (x5+(1:Int))) (oQ - Int.toNat (x5+(1:Int))) (((Int.toNat (mY:Int) - Int.toNat (x5+(1:Int))):Nat):Int) 0 h))) fun Q8 Q9 WA zW JI h=>il L5 (ix K1 K1 Kr) fun K2=>K2 Q8 Q9 WA zW JI h) fun h=>Kr true h) fun y4 h=>K (.bool y4) h
theorem ok (q:asks x0 x1 K h):zC 158 [.pointer x0,.int .i64 x1] h K:=
 cl Tryz.func158 q (fun p q=>sq (l:=L2) p q fun p q=>sq (l:=L3) p q fun p q=>sq (l:=L3) p q fun p q=>sc (l:=L4) q (fun q=>sq (l:=L5) p q fun p q=>bl (b:=0) (lp p q fun p q=>lf p q)) fun p q=>lf p q) fun p q=>rt p q
end Tv
namespace Xby
abbrev L0:=[Zb 3]
variable (cz cD:Int) (eA:List UInt8) (eQ:Int) (x1:Addr)
variable (K:KV) (h:H)
abbrev asks:Prop:=cF L0 (fun Kr=>aw h ⟨[.int .i64 cz,.int .u8 cD,S eA,.int .u8 eQ]⟩ 77 fun a1 h2=>zI .i64 h2 (a1.add 0) fun i3=>zI .i64 h2 x1 fun i4=>aO (i3=i4) (Kr true h2) (Kr false h2)) fun y3 h=>K (.bool y3) h
theorem ok (q:asks cz cD eA eQ x1 K h):zC 200 [(.agg ⟨[.int .i64 cz,.int .u8 cD,S eA,.int .u8 eQ]⟩),.pointer (some x1)] h K:=
 cl Tryz.func200 q (fun p q=>lf p q) fun p q=>rt p q
end Xby
end Go.Proofs
