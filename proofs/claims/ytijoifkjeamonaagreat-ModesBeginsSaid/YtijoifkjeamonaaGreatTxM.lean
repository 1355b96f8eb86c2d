/- The shallow forms of functions, printed by sh.py out of the translation; each with its proof. No condition. -/
import Derived.Test.YtijoifkjeamonaaGreatShQ
import Derived.Test.YtijoifkjeamonaaGreatProg
namespace Go.Proofs
open Go Go.Sh
set_option linter.unusedVariables false
set_option maxRecDepth 100000
namespace Sx.modes_New
abbrev L0 : List Sl := [.o 0 .p]
variable (K : Value -> H -> Prop) (h : H)
abbrev asks : Prop := cF L0 (fun Kr => HCalls Tryz.prog 33 ⟨[]⟩ h fun v1 h2 => vPtr v1 fun p3 => newx h2 ⟨[.pointer p3, .int .u8 0, .int .u8 0, .int .i64 (-1), .bool false, .int .u8 0, S [], S []]⟩ 37 fun a4 h5 => Kr (some a4) h5) fun y0 h => K (.pointer y0) h
theorem ok (hS : asks K h) : HCalls Tryz.prog 14 ⟨[]⟩ h K :=
  cl Tryz.func14 hS (fun hg hS => lf hg hS) fun hg hS => rt hg hS
end Sx.modes_New
namespace Sx.modes_Newline
abbrev L0 : List Sl := [.o 4 .a, .o 5 .b]
abbrev L5 : List Sl := [.o 3 .a, .o 4 .a]
abbrev L6 : List Sl := [.o 3 .a, .o 4 .a, .o 24 .b]
abbrev L4 : List Sl := [.o 3 .a, .o 4 .a, .o 6 .b]
abbrev L3 : List Sl := [.o 0 .p, .o 3 .a, .o 4 .a, .o 6 .b]
abbrev L2 : List Sl := [.o 0 .p, .o 3 .a, .o 4 .a]
abbrev T0 := TK L0
variable (x0 : Option Addr) (x1 : Tk) (x3 x4 : Addr) (x6 : Bool)
abbrev n5 (Kn Kr : T0) (h : H) : Prop :=
  ldT h x3 fun t1 => stL x4 [.int .u8 t1.k, S t1.n, .slice t1.b t1.l t1.c, .bool t1.z, S t1.t] 0 h fun h2 => Kr x4 true h2
abbrev n4 (x3 x4 : Addr) (x6 : Bool) (Kn Kr : T0) (h : H) : Prop :=
  sqF L5 (fun K1 => sqF L6 (fun K2 => cond x6 (∃ i15, cell h (x3.add 0) = some (.int .u8 i15) /\ (Spl (i15 = (1 : Int)) (∃ s16, cell h (x3.add 4) = some (S s16) /\ (HCalls Tryz.prog 35 ⟨[S s16, S [10]]⟩ h fun v17 h18 => vBool v17 fun b19 => cond b19 (K2 x3 x4 true h18) (K2 x3 x4 false h18))) (K2 x3 x4 false h))) (K2 x3 x4 false h)) fun x3 x4 x24 h => cond x24 (∃ s3, cell h (x3.add 4) = some (S s3) /\ ((0 <= (1 : Int) /\ (1 : Int) <= (s3.length : Int) /\ (s3.length : Int) <= (s3.length : Int)) /\ (stL (x3.add 4) [(S (sub s3 (1 : Int) (s3.length : Int)))] 0 h fun h4 => (ldT h4 x3 fun t5 => stL x4 [.int .u8 t5.k, S t5.n, .slice t5.b t5.l t5.c, .bool t5.z, S t5.t] 0 h4 fun h6 => ∃ s7, cell h6 (x3.add 4) = some (S s7) /\ (Spl (s7 = ([] : List UInt8)) (Kr x4 false h6) (Kr x4 true h6))) /\ ((ldT h4 x3 fun t8 => ∃ s9, cell h4 (x3.add 4) = some (S s9) /\ (stL x4 [.int .u8 t8.k, S t8.n, .slice t8.b t8.l t8.c, .bool t8.z, S t8.t] 0 h4 fun h10 => Spl (s9 = ([] : List UInt8)) (Kr x4 false h10) (Kr x4 true h10))) /\ (ldT h4 x3 fun t11 => ∃ s12, cell h4 (x3.add 4) = some (S s12) /\ (Spl (s12 = ([] : List UInt8)) (stL x4 [.int .u8 t11.k, S t11.n, .slice t11.b t11.l t11.c, .bool t11.z, S t11.t] 0 h4 fun h13 => Kr x4 false h13) (stL x4 [.int .u8 t11.k, S t11.n, .slice t11.b t11.l t11.c, .bool t11.z, S t11.t] 0 h4 fun h14 => Kr x4 true h14))))))) (K1 x3 x4 h)) fun x3 x4 h => n5 x3 x4 Kn Kr h
variable (K : Value -> H -> Prop) (h : H)
abbrev asks (x0 : Option Addr) (x1 : Tk) (K : Value -> H -> Prop) (h : H) : Prop := cF L0 (fun Kr => sqF L2 (fun K5 => newx h ⟨tkC x1⟩ 45 fun a24 h25 => newx h25 ⟨[.int .u8 0, S [], .slice none 0 0, .bool false, S []]⟩ 45 fun a26 h27 => K5 x0 a24 a26 h27) fun x0 x3 x4 h => sqF L3 (fun K4 => vSome x0 fun a22 => ∃ b23, cell h (a22.add 4) = some (.bool b23) /\ (cond b23 (K4 x0 x3 x4 true h) (K4 x0 x3 x4 false h))) fun x0 x3 x4 x6 h => sqF L4 (fun K3 => vSome x0 fun a20 => stL (a20.add 4) [.bool false] 0 h fun h21 => K3 x3 x4 x6 h21) fun x3 x4 x6 h => n4 x3 x4 x6 Kr Kr h) fun y4 y5 h => ldT h y4 fun t28 => K (.tuple ⟨[.agg ⟨tkC t28⟩, .bool y5]⟩) h
theorem ok (hS : asks x0 x1 K h) : HCalls Tryz.prog 16 ⟨[.pointer x0, .agg ⟨tkC x1⟩]⟩ h K :=
  cl Tryz.func16 hS (fun hg hS => sq (l := L2) hg hS fun hg hS => sq (l := L3) hg hS fun hg hS => sq (l := L4) hg hS fun hg hS => sc (l := L5) hS (fun hS => sq (l := L6) hg hS fun hg hS => lf hg hS) fun hg hS => lf hg hS) fun hg hS => rt hg hS
end Sx.modes_Newline
namespace Sx.modes_Text
abbrev L0 : List Sl := []
variable (x0 : Option Addr) (x1 : Tk)
variable (K : Value -> H -> Prop) (h : H)
abbrev asks : Prop := cF L0 (fun Kr => newx h ⟨tkC x1⟩ 45 fun a1 h2 => ∃ i3, cell h2 (a1.add 0) = some (.int .u8 i3) /\ (Spl (i3 = (1 : Int)) (vSome x0 fun a4 => ∃ p5, cell h2 (a4.add 0) = some (.pointer p5) /\ (∃ s6, cell h2 (a1.add 4) = some (S s6) /\ (HCalls Tryz.prog 36 ⟨[.pointer p5, S s6]⟩ h2 fun v7 h8 => Kr h8))) (HCalls Tryz.prog 37 ⟨[.pointer x0]⟩ h2 fun v9 h10 => vSome x0 fun a11 => ∃ i12, cell h10 (a11.add 2) = some (.int .u8 i12) /\ (vSome x0 fun a13 => stL (a13.add 1) [.int .u8 i12] 0 h10 fun h14 => vSome x0 fun a15 => stL (a15.add 5) [.int .u8 0] 0 h14 fun h16 => vSome x0 fun a17 => stL (a17.add 6) [S []] 0 h16 fun h18 => Kr h18)))) fun h => K (.tuple ⟨[]⟩) h
theorem ok (hS : asks x0 x1 K h) : HCalls Tryz.prog 19 ⟨[.pointer x0, .agg ⟨tkC x1⟩]⟩ h K :=
  cl Tryz.func19 hS (fun hg hS => lf hg hS) fun hg hS => rt hg hS
end Sx.modes_Text
namespace Sx.modes_Body
abbrev L5 : List Sl := [.o 0 .p, .o 3 .a, .o 5 (.i .u8), .o 20 .b]
abbrev L4 : List Sl := [.o 0 .p, .o 3 .a, .o 5 (.i .u8), .o 6 .b]
abbrev L3 : List Sl := [.o 0 .p, .o 3 .a, .o 5 (.i .u8)]
abbrev L2 : List Sl := [.o 0 .p, .o 3 .a]
abbrev L0 : List Sl := []
variable (x0 : Option Addr) (x1 : Tk)
variable (K : Value -> H -> Prop) (h : H)
abbrev asks (x0 : Option Addr) (x1 : Tk) (K : Value -> H -> Prop) (h : H) : Prop := cF L0 (fun Kr => sqF L2 (fun K4 => newx h ⟨tkC x1⟩ 45 fun a22 h23 => K4 x0 a22 h23) fun x0 x3 h => sqF L3 (fun K3 => ∃ i21, cell h (x3.add 0) = some (.int .u8 i21) /\ (K3 x0 x3 i21 h)) fun x0 x3 x5 h => sqF L4 (fun K2 => Spl (x5 = (1 : Int)) (K2 x0 x3 x5 true h) (K2 x0 x3 x5 false h)) fun x0 x3 x5 x6 h => cond x6 (vSome x0 fun a1 => ∃ p2, cell h (a1.add 0) = some (.pointer p2) /\ (HCalls Tryz.prog 40 ⟨[.pointer p2]⟩ h fun v3 h4 => vSome x0 fun a5 => ∃ p6, cell h4 (a5.add 0) = some (.pointer p6) /\ (∃ s7, cell h4 (x3.add 4) = some (S s7) /\ (HCalls Tryz.prog 36 ⟨[.pointer p6, S s7]⟩ h4 fun v8 h9 => Kr h9)))) (sqF L5 (fun K1 => Spl (x5 = (4 : Int)) (K1 x0 x3 x5 true h) (K1 x0 x3 x5 false h)) fun x0 x3 x5 x20 h => cond x20 (vSome x0 fun a10 => ∃ p11, cell h (a10.add 0) = some (.pointer p11) /\ (∃ s12, cell h (x3.add 4) = some (S s12) /\ (HCalls Tryz.prog 41 ⟨[.pointer p11, S s12]⟩ h fun v13 h14 => Kr h14))) (Spl (x5 = (2 : Int)) (ldT h x3 fun t15 => HCalls Tryz.prog 42 ⟨[.pointer x0, .agg ⟨tkC t15⟩]⟩ h fun v16 h17 => Kr h17) (Spl (x5 = (3 : Int)) (ldT h x3 fun t18 => HCalls Tryz.prog 43 ⟨[.pointer x0, .agg ⟨tkC t18⟩]⟩ h fun v19 h20 => Kr h20) (Kr h))))) fun h => K (.tuple ⟨[]⟩) h
theorem ok (hS : asks x0 x1 K h) : HCalls Tryz.prog 21 ⟨[.pointer x0, .agg ⟨tkC x1⟩]⟩ h K :=
  cl Tryz.func21 hS (fun hg hS => sq hg hS fun hg hS => sq hg hS fun hg hS => bl (b := 0) (sq hg hS fun hg hS => cn (i := 6) hg hS (fun hg hS => lf hg hS) fun hg hS => sq hg hS fun hg hS => lf hg hS)) fun hg hS => rt hg hS
end Sx.modes_Body
namespace Sx.modes_Play
abbrev L0 : List Sl := [.o 2 .l]
abbrev L3 : List Sl := [.o 3 .p]
abbrev L4 : List Sl := [.o 3 .p, .o 9 .l, .o 10 (.i .i64), .o 11 (.i .i64)]
abbrev L7 : List Sl := [.o 3 .p, .o 6 .a, .o 7 .b, .o 9 .l, .o 10 (.i .i64), .o 11 (.i .i64)]
abbrev L6 : List Sl := [.o 3 .p, .o 5 .a, .o 9 .l, .o 10 (.i .i64), .o 11 (.i .i64)]
abbrev L5 : List Sl := [.o 3 .p, .o 9 .l, .o 10 (.i .i64), .o 11 (.i .i64), .o 12 .r]
abbrev L2 : List Sl := [.o 0 .l, .o 3 .p]
abbrev L1 : List Sl := [.o 0 .l]
abbrev T0 := TK L0
abbrev T3 := TK L3
abbrev T4 := TK L4
variable (x0b : Option Addr) (x0n x0c : Nat) (x3 : Option Addr)
abbrev n4 (Kn Kr : T0) (h : H) : Prop :=
  vSome x3 fun a1 => ∃ p2, cell h (a1.add 0) = some (.pointer p2) /\ (vSome p2 fun a3 => ∃ p4, cell h (a3.add 0) = some (.pointer p4) /\ (HCalls Tryz.prog 25 ⟨[.pointer p4, .int .i64 0]⟩ h fun v5 h6 => vSlice v5 fun s7b s7n s7c => Kr s7b s7n s7c h6))
abbrev n7_B (Kn Ke0 : T3) (Kr : T0) : T4 -> T4 := fun K2 x3 x9b x9n x9c x10 x11 h => sqF L5 (fun K7 => Spl (x11 < x10) (K7 x3 x9b x9n x9c x10 x11 (.bool true) h) (K7 x3 x9b x9n x9c x10 x11 (.bool false) h)) fun x3 x9b x9n x9c x10 x11 x12 h => sqF L4 (fun K6 => vBool x12 fun b37 => cond b37 (K6 x3 x9b x9n x9c x10 x11 h) (Ke0 x3 h)) fun x3 x9b x9n x9c x10 x11 h => sqF L4 (fun K3 => sqF L6 (fun K5 => (0 <= x11 /\ x11 < (x9n : Int)) /\ (vSome x9b fun a32 => ldT h (a32.add (Int.toNat x11 * 5)) fun t33 => newx h ⟨[.int .u8 0, S [], .slice none 0 0, .bool false, S []]⟩ 45 fun a34 h35 => stL a34 [.int .u8 t33.k, S t33.n, .slice t33.b t33.l t33.c, .bool t33.z, S t33.t] 0 h35 fun h36 => K5 x3 a34 x9b x9n x9c x10 x11 h36)) fun x3 x5 x9b x9n x9c x10 x11 h => sqF L7 (fun K4 => ldT h x5 fun t16 => HCalls Tryz.prog 16 ⟨[.pointer x3, .agg ⟨tkC t16⟩]⟩ h fun v17 h18 => vTup v17 fun l19 => uncons l19 fun e20 l21 => dT e20 fun t22 => uncons l21 fun e23 l24 => vBool e23 fun b25 => unnil l24 (cond b25 (newx h18 ⟨[.int .u8 0, S [], .slice none 0 0, .bool false, S []]⟩ 45 fun a26 h27 => stL a26 [.int .u8 t22.k, S t22.n, .slice t22.b t22.l t22.c, .bool t22.z, S t22.t] 0 h27 fun h28 => K4 x3 a26 true x9b x9n x9c x10 x11 h28) (newx h18 ⟨[.int .u8 0, S [], .slice none 0 0, .bool false, S []]⟩ 45 fun a29 h30 => stL a29 [.int .u8 t22.k, S t22.n, .slice t22.b t22.l t22.c, .bool t22.z, S t22.t] 0 h30 fun h31 => K4 x3 a29 false x9b x9n x9c x10 x11 h31))) fun x3 x6 x7 x9b x9n x9c x10 x11 h => cond x7 (vSome x3 fun a8 => ∃ i9, cell h (a8.add 1) = some (.int .u8 i9) /\ (Spl (i9 = (1 : Int)) (ldT h x6 fun t10 => HCalls Tryz.prog 19 ⟨[.pointer x3, .agg ⟨tkC t10⟩]⟩ h fun v11 h12 => K3 x3 x9b x9n x9c x10 x11 h12) (ldT h x6 fun t13 => HCalls Tryz.prog 21 ⟨[.pointer x3, .agg ⟨tkC t13⟩]⟩ h fun v14 h15 => K3 x3 x9b x9n x9c x10 x11 h15))) (K3 x3 x9b x9n x9c x10 x11 h)) fun x3 x9b x9n x9c x10 x11 h => Rng .i64 (x11 + (1 : Int)) /\ (K2 x3 x9b x9n x9c x10 (x11 + (1 : Int)) h)
abbrev n7_L (Kn Ke0 : T3) (Kr : T0) : Nat -> T4 := LP L4 (n7_B Kn Ke0 Kr)
variable (K : Value -> H -> Prop) (h : H)
abbrev asks (x0b : Option Addr) (x0n x0c : Nat) (K : Value -> H -> Prop) (h : H) : Prop := cF L0 (fun Kr => sqF L1 (fun K10 => K10 x0b x0n x0c h) fun x0b x0n x0c h => sqF L2 (fun K9 => HCalls Tryz.prog 14 ⟨[]⟩ h fun v38 h39 => vPtr v38 fun p40 => K9 x0b x0n x0c p40 h39) fun x0b x0n x0c x3 h => sqF L3 (fun K1 => sqF L4 (fun K8 => K8 x3 x0b x0n x0c (x0n : Int) (0 : Int) h) fun x3 x9b x9n x9c x10 x11 h => lpF L4 (n7_B K1 K1 Kr) fun K2 => K2 x3 x9b x9n x9c x10 x11 h) fun x3 h => n4 x3 Kr Kr h) fun y2b y2n y2c h => K (.slice y2b y2n y2c) h
theorem ok (hS : asks x0b x0n x0c K h) : HCalls Tryz.prog 8 ⟨[.slice x0b x0n x0c]⟩ h K :=
  cl Tryz.func8 hS (fun hg hS => sq (l := L1) hg hS fun hg hS => sq (l := L2) hg hS fun hg hS => sc (l := L3) hS (fun hS => sq (l := L4) hg hS fun hg hS => bl (b := 0) (lp hg hS fun hg hS => sq (l := L5) hg hS fun hg hS => sq (l := L4) hg hS fun hg hS => sc (l := L4) hS (fun hS => bl (b := 1) (sq (l := L6) hg hS fun hg hS => sq (l := L7) hg hS fun hg hS => lf hg hS)) fun hg hS => lf hg hS)) fun hg hS => lf hg hS) fun hg hS => rt hg hS
end Sx.modes_Play
namespace Sx.modes_Machine_pop
abbrev L0 : List Sl := []
variable (x0 : Option Addr)
variable (K : Value -> H -> Prop) (h : H)
abbrev asks : Prop := cF L0 (fun Kr => vSome x0 fun a1 => ∃ p2, cell h (a1.add 0) = some (.pointer p2) /\ (vSome x0 fun a3 => ∃ p4, cell h (a3.add 0) = some (.pointer p4) /\ (vSome p4 fun a5 => ∃ s6b s6n s6c, cell h (a5.add 1) = some (.slice s6b s6n s6c) /\ (Rng .i64 ((s6n : Int) - (1 : Int)) /\ (HCalls Tryz.prog 57 ⟨[.pointer p2, .int .i64 ((s6n : Int) - (1 : Int))]⟩ h fun v7 h8 => Kr h8))))) fun h => K (.tuple ⟨[]⟩) h
theorem ok (hS : asks x0 K h) : HCalls Tryz.prog 37 ⟨[.pointer x0]⟩ h K :=
  cl Tryz.func37 hS (fun hg hS => lf hg hS) fun hg hS => rt hg hS
end Sx.modes_Machine_pop
namespace Sx.modes_Machine_start
abbrev L25 : List Sl := [.o 0 .p, .o 3 .a, .o 5 .s, .o 179 .b]
abbrev L24 : List Sl := [.o 0 .p, .o 3 .a, .o 5 .s, .o 174 .b]
abbrev L23 : List Sl := [.o 0 .p, .o 3 .a, .o 5 .s, .o 169 .b]
abbrev L22 : List Sl := [.o 0 .p, .o 3 .a, .o 5 .s, .o 164 .b]
abbrev L21 : List Sl := [.o 0 .p, .o 3 .a, .o 5 .s, .o 153 .b]
abbrev L20 : List Sl := [.o 0 .p, .o 3 .a, .o 5 .s, .o 148 .b]
abbrev L19 : List Sl := [.o 0 .p, .o 3 .a, .o 5 .s, .o 141 .b]
abbrev L18 : List Sl := [.o 0 .p, .o 3 .a, .o 5 .s, .o 136 .b]
abbrev L17 : List Sl := [.o 0 .p, .o 3 .a, .o 5 .s, .o 131 .b]
abbrev L16 : List Sl := [.o 0 .p, .o 3 .a, .o 5 .s, .o 126 .b]
abbrev L15 : List Sl := [.o 0 .p, .o 3 .a, .o 5 .s, .o 121 .b]
abbrev L14 : List Sl := [.o 0 .p, .o 3 .a, .o 5 .s, .o 115 .b]
abbrev L13 : List Sl := [.o 0 .p, .o 3 .a, .o 5 .s, .o 110 .b]
abbrev L12 : List Sl := [.o 0 .p, .o 3 .a, .o 5 .s, .o 105 .b]
abbrev L11 : List Sl := [.o 0 .p, .o 3 .a, .o 5 .s, .o 99 .b]
abbrev L10 : List Sl := [.o 0 .p, .o 3 .a, .o 5 .s, .o 89 .b]
abbrev L9 : List Sl := [.o 0 .p, .o 3 .a, .o 5 .s, .o 60 .b]
abbrev L8 : List Sl := [.o 0 .p, .o 3 .a, .o 5 .s, .o 55 .b]
abbrev L7 : List Sl := [.o 0 .p, .o 3 .a, .o 5 .s, .o 47 .b]
abbrev L6 : List Sl := [.o 0 .p, .o 3 .a, .o 5 .s, .o 42 .b]
abbrev L5 : List Sl := [.o 0 .p, .o 3 .a, .o 5 .s, .o 30 .b]
abbrev L4 : List Sl := [.o 0 .p, .o 3 .a, .o 5 .s, .o 15 .b]
abbrev L3 : List Sl := [.o 0 .p, .o 3 .a, .o 5 .s]
abbrev L2 : List Sl := [.o 0 .p, .o 3 .a]
abbrev L0 : List Sl := []
variable (x0 : Option Addr) (x1 : Tk)
variable (K : Value -> H -> Prop) (h : H)
abbrev asks (x0 : Option Addr) (x1 : Tk) (K : Value -> H -> Prop) (h : H) : Prop := cF L0 (fun Kr => sqF L2 (fun K24 => newx h ⟨tkC x1⟩ 45 fun a96 h97 => K24 x0 a96 h97) fun x0 x3 h => sqF L3 (fun K23 => ∃ s95, cell h (x3.add 1) = some (S s95) /\ (K23 x0 x3 s95 h)) fun x0 x3 x5 h => sqF L4 (fun K22 => orF x5 [[104, 116, 109, 108], [98, 111, 100, 121], [104, 101, 97, 100], [102, 114, 97, 109, 101], [102, 114, 97, 109, 101, 115, 101, 116], [99, 97, 112, 116, 105, 111, 110], [99, 111, 108], [99, 111, 108, 103, 114, 111, 117, 112], [116, 98, 111, 100, 121], [116, 100], [116, 102, 111, 111, 116], [116, 104], [116, 104, 101, 97, 100], [116, 114]] fun b94 => K22 x0 x3 x5 b94 h) fun x0 x3 x5 x15 h => cond x15 (Kr h) (sqF L5 (fun K21 => orF x5 [[98, 97, 115, 101], [98, 97, 115, 101, 102, 111, 110, 116], [98, 103, 115, 111, 117, 110, 100], [108, 105, 110, 107], [109, 101, 116, 97], [112, 97, 114, 97, 109], [115, 111, 117, 114, 99, 101], [116, 114, 97, 99, 107]] fun b93 => K21 x0 x3 x5 b93 h) fun x0 x3 x5 x30 h => cond x30 (ldT h x3 fun t1 => HCalls Tryz.prog 67 ⟨[.pointer x0, .agg ⟨tkC t1⟩]⟩ h fun v2 h3 => Kr h3) (sqF L6 (fun K20 => Spl (x5 = [116, 105, 116, 108, 101]) (K20 x0 x3 x5 true h) (K20 x0 x3 x5 false h)) fun x0 x3 x5 x42 h => cond x42 (ldT h x3 fun t4 => HCalls Tryz.prog 68 ⟨[.pointer x0, .agg ⟨tkC t4⟩]⟩ h fun v5 h6 => Kr h6) (sqF L7 (fun K19 => orF x5 [[110, 111, 102, 114, 97, 109, 101, 115], [115, 116, 121, 108, 101], [105, 102, 114, 97, 109, 101], [110, 111, 101, 109, 98, 101, 100]] fun b92 => K19 x0 x3 x5 b92 h) fun x0 x3 x5 x47 h => cond x47 (ldT h x3 fun t7 => HCalls Tryz.prog 69 ⟨[.pointer x0, .agg ⟨tkC t7⟩]⟩ h fun v8 h9 => Kr h9) (sqF L8 (fun K18 => Spl (x5 = [115, 99, 114, 105, 112, 116]) (K18 x0 x3 x5 true h) (K18 x0 x3 x5 false h)) fun x0 x3 x5 x55 h => cond x55 (ldT h x3 fun t10 => HCalls Tryz.prog 70 ⟨[.pointer x0, .agg ⟨tkC t10⟩]⟩ h fun v11 h12 => Kr h12) (sqF L9 (fun K17 => orF x5 [[97, 100, 100, 114, 101, 115, 115], [97, 114, 116, 105, 99, 108, 101], [97, 115, 105, 100, 101], [98, 108, 111, 99, 107, 113, 117, 111, 116, 101], [99, 101, 110, 116, 101, 114], [100, 101, 116, 97, 105, 108, 115], [100, 105, 97, 108, 111, 103], [100, 105, 114], [100, 105, 118], [100, 108], [102, 105, 101, 108, 100, 115, 101, 116], [102, 105, 103, 99, 97, 112, 116, 105, 111, 110], [102, 105, 103, 117, 114, 101], [102, 111, 111, 116, 101, 114], [104, 101, 97, 100, 101, 114], [104, 103, 114, 111, 117, 112], [109, 97, 105, 110], [109, 101, 110, 117], [110, 97, 118], [111, 108], [112], [115, 101, 97, 114, 99, 104], [115, 101, 99, 116, 105, 111, 110], [115, 117, 109, 109, 97, 114, 121], [117, 108]] fun b91 => K17 x0 x3 x5 b91 h) fun x0 x3 x5 x60 h => cond x60 (ldT h x3 fun t13 => HCalls Tryz.prog 71 ⟨[.pointer x0, .agg ⟨tkC t13⟩]⟩ h fun v14 h15 => Kr h15) (sqF L10 (fun K16 => orF x5 [[104, 49], [104, 50], [104, 51], [104, 52], [104, 53], [104, 54]] fun b90 => K16 x0 x3 x5 b90 h) fun x0 x3 x5 x89 h => cond x89 (ldT h x3 fun t16 => HCalls Tryz.prog 72 ⟨[.pointer x0, .agg ⟨tkC t16⟩]⟩ h fun v17 h18 => Kr h18) (sqF L11 (fun K15 => orF x5 [[112, 114, 101], [108, 105, 115, 116, 105, 110, 103]] fun b89 => K15 x0 x3 x5 b89 h) fun x0 x3 x5 x99 h => cond x99 (ldT h x3 fun t19 => HCalls Tryz.prog 73 ⟨[.pointer x0, .agg ⟨tkC t19⟩]⟩ h fun v20 h21 => Kr h21) (sqF L12 (fun K14 => Spl (x5 = [102, 111, 114, 109]) (K14 x0 x3 x5 true h) (K14 x0 x3 x5 false h)) fun x0 x3 x5 x105 h => cond x105 (ldT h x3 fun t22 => HCalls Tryz.prog 74 ⟨[.pointer x0, .agg ⟨tkC t22⟩]⟩ h fun v23 h24 => Kr h24) (sqF L13 (fun K13 => Spl (x5 = [108, 105]) (K13 x0 x3 x5 true h) (K13 x0 x3 x5 false h)) fun x0 x3 x5 x110 h => cond x110 (ldT h x3 fun t25 => HCalls Tryz.prog 75 ⟨[.pointer x0, .agg ⟨tkC t25⟩]⟩ h fun v26 h27 => Kr h27) (sqF L14 (fun K12 => orF x5 [[100, 100], [100, 116]] fun b88 => K12 x0 x3 x5 b88 h) fun x0 x3 x5 x115 h => cond x115 (ldT h x3 fun t28 => HCalls Tryz.prog 76 ⟨[.pointer x0, .agg ⟨tkC t28⟩]⟩ h fun v29 h30 => Kr h30) (sqF L15 (fun K11 => Spl (x5 = [112, 108, 97, 105, 110, 116, 101, 120, 116]) (K11 x0 x3 x5 true h) (K11 x0 x3 x5 false h)) fun x0 x3 x5 x121 h => cond x121 (ldT h x3 fun t31 => HCalls Tryz.prog 77 ⟨[.pointer x0, .agg ⟨tkC t31⟩]⟩ h fun v32 h33 => Kr h33) (sqF L16 (fun K10 => Spl (x5 = [98, 117, 116, 116, 111, 110]) (K10 x0 x3 x5 true h) (K10 x0 x3 x5 false h)) fun x0 x3 x5 x126 h => cond x126 (ldT h x3 fun t34 => HCalls Tryz.prog 78 ⟨[.pointer x0, .agg ⟨tkC t34⟩]⟩ h fun v35 h36 => Kr h36) (sqF L17 (fun K9 => Spl (x5 = [97]) (K9 x0 x3 x5 true h) (K9 x0 x3 x5 false h)) fun x0 x3 x5 x131 h => cond x131 (ldT h x3 fun t37 => HCalls Tryz.prog 79 ⟨[.pointer x0, .agg ⟨tkC t37⟩]⟩ h fun v38 h39 => Kr h39) (sqF L18 (fun K8 => Spl (x5 = [110, 111, 98, 114]) (K8 x0 x3 x5 true h) (K8 x0 x3 x5 false h)) fun x0 x3 x5 x136 h => cond x136 (ldT h x3 fun t40 => HCalls Tryz.prog 80 ⟨[.pointer x0, .agg ⟨tkC t40⟩]⟩ h fun v41 h42 => Kr h42) (sqF L19 (fun K7 => orF x5 [[97, 112, 112, 108, 101, 116], [109, 97, 114, 113, 117, 101, 101], [111, 98, 106, 101, 99, 116]] fun b87 => K7 x0 x3 x5 b87 h) fun x0 x3 x5 x141 h => cond x141 (ldT h x3 fun t43 => HCalls Tryz.prog 81 ⟨[.pointer x0, .agg ⟨tkC t43⟩]⟩ h fun v44 h45 => Kr h45) (sqF L20 (fun K6 => Spl (x5 = [116, 97, 98, 108, 101]) (K6 x0 x3 x5 true h) (K6 x0 x3 x5 false h)) fun x0 x3 x5 x148 h => cond x148 (ldT h x3 fun t46 => HCalls Tryz.prog 82 ⟨[.pointer x0, .agg ⟨tkC t46⟩]⟩ h fun v47 h48 => Kr h48) (sqF L21 (fun K5 => orF x5 [[97, 114, 101, 97], [98, 114], [101, 109, 98, 101, 100], [105, 109, 103], [107, 101, 121, 103, 101, 110], [119, 98, 114], [105, 110, 112, 117, 116]] fun b86 => K5 x0 x3 x5 b86 h) fun x0 x3 x5 x153 h => cond x153 (ldT h x3 fun t49 => HCalls Tryz.prog 83 ⟨[.pointer x0, .agg ⟨tkC t49⟩]⟩ h fun v50 h51 => Kr h51) (sqF L22 (fun K4 => Spl (x5 = [105, 109, 97, 103, 101]) (K4 x0 x3 x5 true h) (K4 x0 x3 x5 false h)) fun x0 x3 x5 x164 h => cond x164 (ldT h x3 fun t52 => HCalls Tryz.prog 84 ⟨[.pointer x0, .agg ⟨tkC t52⟩]⟩ h fun v53 h54 => Kr h54) (sqF L23 (fun K3 => Spl (x5 = [104, 114]) (K3 x0 x3 x5 true h) (K3 x0 x3 x5 false h)) fun x0 x3 x5 x169 h => cond x169 (ldT h x3 fun t55 => HCalls Tryz.prog 85 ⟨[.pointer x0, .agg ⟨tkC t55⟩]⟩ h fun v56 h57 => Kr h57) (sqF L24 (fun K2 => Spl (x5 = [116, 101, 120, 116, 97, 114, 101, 97]) (K2 x0 x3 x5 true h) (K2 x0 x3 x5 false h)) fun x0 x3 x5 x174 h => cond x174 (ldT h x3 fun t58 => HCalls Tryz.prog 86 ⟨[.pointer x0, .agg ⟨tkC t58⟩]⟩ h fun v59 h60 => Kr h60) (sqF L25 (fun K1 => Spl (x5 = [120, 109, 112]) (K1 x0 x3 x5 true h) (K1 x0 x3 x5 false h)) fun x0 x3 x5 x179 h => cond x179 (ldT h x3 fun t61 => HCalls Tryz.prog 87 ⟨[.pointer x0, .agg ⟨tkC t61⟩]⟩ h fun v62 h63 => Kr h63) (orF x5 [[111, 112, 116, 103, 114, 111, 117, 112], [111, 112, 116, 105, 111, 110]] fun b64 => cond b64 (ldT h x3 fun t65 => HCalls Tryz.prog 88 ⟨[.pointer x0, .agg ⟨tkC t65⟩]⟩ h fun v66 h67 => Kr h67) (orF x5 [[114, 98], [114, 116, 99], [114, 112], [114, 116]] fun b68 => cond b68 (ldT h x3 fun t69 => HCalls Tryz.prog 89 ⟨[.pointer x0, .agg ⟨tkC t69⟩]⟩ h fun v70 h71 => Kr h71) (orF x5 [[109, 97, 116, 104], [115, 118, 103]] fun b72 => cond b72 (ldT h x3 fun t73 => HCalls Tryz.prog 90 ⟨[.pointer x0, .agg ⟨tkC t73⟩]⟩ h fun v74 h75 => Kr h75) (∃ s76, cell h (x3.add 1) = some (S s76) /\ (HCalls Tryz.prog 91 ⟨[S s76]⟩ h fun v77 h78 => vBool v77 fun b79 => cond b79 (ldT h78 x3 fun t80 => HCalls Tryz.prog 92 ⟨[.pointer x0, .agg ⟨tkC t80⟩]⟩ h78 fun v81 h82 => Kr h82) (ldT h78 x3 fun t83 => HCalls Tryz.prog 93 ⟨[.pointer x0, .agg ⟨tkC t83⟩]⟩ h78 fun v84 h85 => Kr h85)))))))))))))))))))))))))))) fun h => K (.tuple ⟨[]⟩) h
theorem ok (hS : asks x0 x1 K h) : HCalls Tryz.prog 42 ⟨[.pointer x0, .agg ⟨tkC x1⟩]⟩ h K :=
  cl Tryz.func42 hS (fun hg hS => sq hg hS fun hg hS => sq hg hS fun hg hS => bl (b := 0) (sq hg hS fun hg hS => cn (i := 15) hg hS (fun hg hS => lf hg hS) fun hg hS => sq hg hS fun hg hS => cn (i := 30) hg hS (fun hg hS => lf hg hS) fun hg hS => sq hg hS fun hg hS => cn (i := 42) hg hS (fun hg hS => lf hg hS) fun hg hS => sq hg hS fun hg hS => cn (i := 47) hg hS (fun hg hS => lf hg hS) fun hg hS => sq hg hS fun hg hS => cn (i := 55) hg hS (fun hg hS => lf hg hS) fun hg hS => sq hg hS fun hg hS => cn (i := 60) hg hS (fun hg hS => lf hg hS) fun hg hS => sq hg hS fun hg hS => cn (i := 89) hg hS (fun hg hS => lf hg hS) fun hg hS => sq hg hS fun hg hS => cn (i := 99) hg hS (fun hg hS => lf hg hS) fun hg hS => sq hg hS fun hg hS => cn (i := 105) hg hS (fun hg hS => lf hg hS) fun hg hS => sq hg hS fun hg hS => cn (i := 110) hg hS (fun hg hS => lf hg hS) fun hg hS => sq hg hS fun hg hS => cn (i := 115) hg hS (fun hg hS => lf hg hS) fun hg hS => sq hg hS fun hg hS => cn (i := 121) hg hS (fun hg hS => lf hg hS) fun hg hS => sq hg hS fun hg hS => cn (i := 126) hg hS (fun hg hS => lf hg hS) fun hg hS => sq hg hS fun hg hS => cn (i := 131) hg hS (fun hg hS => lf hg hS) fun hg hS => sq hg hS fun hg hS => cn (i := 136) hg hS (fun hg hS => lf hg hS) fun hg hS => sq hg hS fun hg hS => cn (i := 141) hg hS (fun hg hS => lf hg hS) fun hg hS => sq hg hS fun hg hS => cn (i := 148) hg hS (fun hg hS => lf hg hS) fun hg hS => sq hg hS fun hg hS => cn (i := 153) hg hS (fun hg hS => lf hg hS) fun hg hS => sq hg hS fun hg hS => cn (i := 164) hg hS (fun hg hS => lf hg hS) fun hg hS => sq hg hS fun hg hS => cn (i := 169) hg hS (fun hg hS => lf hg hS) fun hg hS => sq hg hS fun hg hS => cn (i := 174) hg hS (fun hg hS => lf hg hS) fun hg hS => sq hg hS fun hg hS => lf hg hS)) fun hg hS => rt hg hS
end Sx.modes_Machine_start
namespace Sx.modes_Machine_end
abbrev L12 : List Sl := [.o 0 .p, .o 3 .a, .o 84 .b]
abbrev L11 : List Sl := [.o 0 .p, .o 3 .a, .o 5 .s, .o 77 .b]
abbrev L10 : List Sl := [.o 0 .p, .o 3 .a, .o 5 .s, .o 68 .b]
abbrev L9 : List Sl := [.o 0 .p, .o 3 .a, .o 5 .s, .o 61 .b]
abbrev L8 : List Sl := [.o 0 .p, .o 3 .a, .o 5 .s, .o 57 .b]
abbrev L6 : List Sl := [.o 0 .p, .o 3 .a, .o 5 .s, .o 53 .b]
abbrev L5 : List Sl := [.o 0 .p, .o 3 .a, .o 5 .s, .o 22 .b]
abbrev L4 : List Sl := [.o 0 .p, .o 3 .a, .o 5 .s, .o 19 .b]
abbrev L3 : List Sl := [.o 0 .p, .o 3 .a, .o 5 .s]
abbrev L2 : List Sl := [.o 0 .p, .o 3 .a]
abbrev L0 : List Sl := []
variable (x0 : Option Addr) (x1 : Tk)
variable (K : Value -> H -> Prop) (h : H)
abbrev asks (x0 : Option Addr) (x1 : Tk) (K : Value -> H -> Prop) (h : H) : Prop := cF L0 (fun Kr => sqF L2 (fun K10 => newx h ⟨tkC x1⟩ 45 fun a36 h37 => K10 x0 a36 h37) fun x0 x3 h => sqF L3 (fun K9 => ∃ s35, cell h (x3.add 1) = some (S s35) /\ (K9 x0 x3 s35 h)) fun x0 x3 x5 h => sqF L4 (fun K8 => orF x5 [[98, 111, 100, 121], [104, 116, 109, 108]] fun b34 => K8 x0 x3 x5 b34 h) fun x0 x3 x5 x19 h => cond x19 (Kr h) (sqF L5 (fun K7 => orF x5 [[97, 100, 100, 114, 101, 115, 115], [97, 114, 116, 105, 99, 108, 101], [97, 115, 105, 100, 101], [98, 108, 111, 99, 107, 113, 117, 111, 116, 101], [98, 117, 116, 116, 111, 110], [99, 101, 110, 116, 101, 114], [100, 101, 116, 97, 105, 108, 115], [100, 105, 97, 108, 111, 103], [100, 105, 114], [100, 105, 118], [100, 108], [102, 105, 101, 108, 100, 115, 101, 116], [102, 105, 103, 99, 97, 112, 116, 105, 111, 110], [102, 105, 103, 117, 114, 101], [102, 111, 111, 116, 101, 114], [104, 101, 97, 100, 101, 114], [104, 103, 114, 111, 117, 112], [108, 105, 115, 116, 105, 110, 103], [109, 97, 105, 110], [109, 101, 110, 117], [110, 97, 118], [111, 108], [112, 114, 101], [115, 101, 97, 114, 99, 104], [115, 101, 99, 116, 105, 111, 110], [115, 117, 109, 109, 97, 114, 121], [117, 108]] fun b33 => K7 x0 x3 x5 b33 h) fun x0 x3 x5 x22 h => cond x22 (ldT h x3 fun t1 => HCalls Tryz.prog 94 ⟨[.pointer x0, .agg ⟨tkC t1⟩]⟩ h fun v2 h3 => Kr h3) (sqF L6 (fun K6 => Spl (x5 = [102, 111, 114, 109]) (K6 x0 x3 x5 true h) (K6 x0 x3 x5 false h)) fun x0 x3 x5 x53 h => cond x53 (HCalls Tryz.prog 95 ⟨[.pointer x0]⟩ h fun v4 h5 => Kr h5) (sqF L8 (fun K5 => Spl (x5 = [112]) (K5 x0 x3 x5 true h) (K5 x0 x3 x5 false h)) fun x0 x3 x5 x57 h => cond x57 (HCalls Tryz.prog 96 ⟨[.pointer x0]⟩ h fun v6 h7 => Kr h7) (sqF L9 (fun K4 => orF x5 [[108, 105], [100, 100], [100, 116]] fun b32 => K4 x0 x3 x5 b32 h) fun x0 x3 x5 x61 h => cond x61 (ldT h x3 fun t8 => HCalls Tryz.prog 97 ⟨[.pointer x0, .agg ⟨tkC t8⟩]⟩ h fun v9 h10 => Kr h10) (sqF L10 (fun K3 => orF x5 [[104, 49], [104, 50], [104, 51], [104, 52], [104, 53], [104, 54]] fun b31 => K3 x0 x3 x5 b31 h) fun x0 x3 x5 x68 h => cond x68 (HCalls Tryz.prog 98 ⟨[.pointer x0]⟩ h fun v11 h12 => Kr h12) (sqF L11 (fun K2 => orF x5 [[97, 112, 112, 108, 101, 116], [109, 97, 114, 113, 117, 101, 101], [111, 98, 106, 101, 99, 116]] fun b30 => K2 x0 x3 x5 b30 h) fun x0 x3 x5 x77 h => cond x77 (ldT h x3 fun t13 => HCalls Tryz.prog 99 ⟨[.pointer x0, .agg ⟨tkC t13⟩]⟩ h fun v14 h15 => Kr h15) (sqF L12 (fun K1 => Spl (x5 = [98, 114]) (K1 x0 x3 true h) (K1 x0 x3 false h)) fun x0 x3 x84 h => cond x84 (HCalls Tryz.prog 83 ⟨[.pointer x0, (.agg ⟨[.int .u8 0, S [98, 114], .slice none 0 0, .bool false, S []]⟩)]⟩ h fun v16 h17 => Kr h17) (∃ s18, cell h (x3.add 1) = some (S s18) /\ (HCalls Tryz.prog 91 ⟨[S s18]⟩ h fun v19 h20 => vBool v19 fun b21 => cond b21 (ldT h20 x3 fun t22 => HCalls Tryz.prog 100 ⟨[.pointer x0, .agg ⟨tkC t22⟩]⟩ h20 fun v23 h24 => Kr h24) (vSome x0 fun a25 => ∃ p26, cell h20 (a25.add 0) = some (.pointer p26) /\ (∃ s27, cell h20 (x3.add 1) = some (S s27) /\ (HCalls Tryz.prog 101 ⟨[.pointer p26, S s27]⟩ h20 fun v28 h29 => Kr h29))))))))))))) fun h => K (.tuple ⟨[]⟩) h
theorem ok (hS : asks x0 x1 K h) : HCalls Tryz.prog 43 ⟨[.pointer x0, .agg ⟨tkC x1⟩]⟩ h K :=
  cl Tryz.func43 hS (fun hg hS => sq hg hS fun hg hS => sq hg hS fun hg hS => bl (b := 0) (sq hg hS fun hg hS => cn (i := 19) hg hS (fun hg hS => lf hg hS) fun hg hS => sq hg hS fun hg hS => cn (i := 22) hg hS (fun hg hS => lf hg hS) fun hg hS => sq hg hS fun hg hS => cn (i := 53) hg hS (fun hg hS => lf hg hS) fun hg hS => sq hg hS fun hg hS => cn (i := 57) hg hS (fun hg hS => lf hg hS) fun hg hS => sq hg hS fun hg hS => cn (i := 61) hg hS (fun hg hS => lf hg hS) fun hg hS => sq hg hS fun hg hS => cn (i := 68) hg hS (fun hg hS => lf hg hS) fun hg hS => sq hg hS fun hg hS => cn (i := 77) hg hS (fun hg hS => lf hg hS) fun hg hS => sq hg hS fun hg hS => lf hg hS)) fun hg hS => rt hg hS
end Sx.modes_Machine_end
namespace Sx.modes_Machine_empty
abbrev L0 : List Sl := []
variable (x0 : Option Addr) (x1 : Tk)
variable (K : Value -> H -> Prop) (h : H)
abbrev asks : Prop := cF L0 (fun Kr => newx h ⟨tkC x1⟩ 45 fun a1 h2 => ldT h2 a1 fun t3 => HCalls Tryz.prog 143 ⟨[.pointer x0, .agg ⟨tkC t3⟩]⟩ h2 fun v4 h5 => HCalls Tryz.prog 37 ⟨[.pointer x0]⟩ h5 fun v6 h7 => Kr h7) fun h => K (.tuple ⟨[]⟩) h
theorem ok (hS : asks x0 x1 K h) : HCalls Tryz.prog 67 ⟨[.pointer x0, .agg ⟨tkC x1⟩]⟩ h K :=
  cl Tryz.func67 hS (fun hg hS => lf hg hS) fun hg hS => rt hg hS
end Sx.modes_Machine_empty
namespace Sx.modes_Machine_refs
abbrev L0 : List Sl := []
variable (x0 : Option Addr) (x1 : Tk)
variable (K : Value -> H -> Prop) (h : H)
abbrev asks : Prop := cF L0 (fun Kr => newx h ⟨tkC x1⟩ 45 fun a1 h2 => ldT h2 a1 fun t3 => HCalls Tryz.prog 143 ⟨[.pointer x0, .agg ⟨tkC t3⟩]⟩ h2 fun v4 h5 => ldT h5 a1 fun t6 => HCalls Tryz.prog 144 ⟨[.pointer x0, .agg ⟨tkC t6⟩, .int .u8 1]⟩ h5 fun v7 h8 => Kr h8) fun h => K (.tuple ⟨[]⟩) h
theorem ok (hS : asks x0 x1 K h) : HCalls Tryz.prog 68 ⟨[.pointer x0, .agg ⟨tkC x1⟩]⟩ h K :=
  cl Tryz.func68 hS (fun hg hS => lf hg hS) fun hg hS => rt hg hS
end Sx.modes_Machine_refs
namespace Sx.modes_Machine_raw
abbrev L0 : List Sl := []
variable (x0 : Option Addr) (x1 : Tk)
variable (K : Value -> H -> Prop) (h : H)
abbrev asks : Prop := cF L0 (fun Kr => newx h ⟨tkC x1⟩ 45 fun a1 h2 => ldT h2 a1 fun t3 => HCalls Tryz.prog 143 ⟨[.pointer x0, .agg ⟨tkC t3⟩]⟩ h2 fun v4 h5 => ldT h5 a1 fun t6 => HCalls Tryz.prog 144 ⟨[.pointer x0, .agg ⟨tkC t6⟩, .int .u8 2]⟩ h5 fun v7 h8 => Kr h8) fun h => K (.tuple ⟨[]⟩) h
theorem ok (hS : asks x0 x1 K h) : HCalls Tryz.prog 69 ⟨[.pointer x0, .agg ⟨tkC x1⟩]⟩ h K :=
  cl Tryz.func69 hS (fun hg hS => lf hg hS) fun hg hS => rt hg hS
end Sx.modes_Machine_raw
namespace Sx.modes_Machine_script
abbrev L0 : List Sl := []
variable (x0 : Option Addr) (x1 : Tk)
variable (K : Value -> H -> Prop) (h : H)
abbrev asks : Prop := cF L0 (fun Kr => newx h ⟨tkC x1⟩ 45 fun a1 h2 => ldT h2 a1 fun t3 => HCalls Tryz.prog 143 ⟨[.pointer x0, .agg ⟨tkC t3⟩]⟩ h2 fun v4 h5 => ldT h5 a1 fun t6 => HCalls Tryz.prog 144 ⟨[.pointer x0, .agg ⟨tkC t6⟩, .int .u8 3]⟩ h5 fun v7 h8 => Kr h8) fun h => K (.tuple ⟨[]⟩) h
theorem ok (hS : asks x0 x1 K h) : HCalls Tryz.prog 70 ⟨[.pointer x0, .agg ⟨tkC x1⟩]⟩ h K :=
  cl Tryz.func70 hS (fun hg hS => lf hg hS) fun hg hS => rt hg hS
end Sx.modes_Machine_script
namespace Sx.modes_Machine_block
abbrev L0 : List Sl := []
variable (x0 : Option Addr) (x1 : Tk)
variable (K : Value -> H -> Prop) (h : H)
abbrev asks : Prop := cF L0 (fun Kr => newx h ⟨tkC x1⟩ 45 fun a1 h2 => HCalls Tryz.prog 145 ⟨[.pointer x0]⟩ h2 fun v3 h4 => ldT h4 a1 fun t5 => HCalls Tryz.prog 143 ⟨[.pointer x0, .agg ⟨tkC t5⟩]⟩ h4 fun v6 h7 => Kr h7) fun h => K (.tuple ⟨[]⟩) h
theorem ok (hS : asks x0 x1 K h) : HCalls Tryz.prog 71 ⟨[.pointer x0, .agg ⟨tkC x1⟩]⟩ h K :=
  cl Tryz.func71 hS (fun hg hS => lf hg hS) fun hg hS => rt hg hS
end Sx.modes_Machine_block
namespace Sx.modes_Machine_head
abbrev L0 : List Sl := []
variable (x0 : Option Addr) (x1 : Tk)
variable (K : Value -> H -> Prop) (h : H)
abbrev asks : Prop := cF L0 (fun Kr => newx h ⟨tkC x1⟩ 45 fun a1 h2 => HCalls Tryz.prog 145 ⟨[.pointer x0]⟩ h2 fun v3 h4 => HCalls Tryz.prog 147 ⟨[]⟩ h4 fun v5 h6 => vSlice v5 fun s7b s7n s7c => HCalls Tryz.prog 146 ⟨[.pointer x0, .slice s7b s7n s7c]⟩ h6 fun v8 h9 => vBool v8 fun b10 => cond b10 (HCalls Tryz.prog 37 ⟨[.pointer x0]⟩ h9 fun v11 h12 => ldT h12 a1 fun t13 => HCalls Tryz.prog 143 ⟨[.pointer x0, .agg ⟨tkC t13⟩]⟩ h12 fun v14 h15 => Kr h15) (ldT h9 a1 fun t16 => HCalls Tryz.prog 143 ⟨[.pointer x0, .agg ⟨tkC t16⟩]⟩ h9 fun v17 h18 => Kr h18)) fun h => K (.tuple ⟨[]⟩) h
theorem ok (hS : asks x0 x1 K h) : HCalls Tryz.prog 72 ⟨[.pointer x0, .agg ⟨tkC x1⟩]⟩ h K :=
  cl Tryz.func72 hS (fun hg hS => lf hg hS) fun hg hS => rt hg hS
end Sx.modes_Machine_head
namespace Sx.modes_Machine_pre
abbrev L0 : List Sl := []
variable (x0 : Option Addr) (x1 : Tk)
variable (K : Value -> H -> Prop) (h : H)
abbrev asks : Prop := cF L0 (fun Kr => newx h ⟨tkC x1⟩ 45 fun a1 h2 => ldT h2 a1 fun t3 => HCalls Tryz.prog 71 ⟨[.pointer x0, .agg ⟨tkC t3⟩]⟩ h2 fun v4 h5 => vSome x0 fun a6 => stL (a6.add 4) [.bool true] 0 h5 fun h7 => Kr h7) fun h => K (.tuple ⟨[]⟩) h
theorem ok (hS : asks x0 x1 K h) : HCalls Tryz.prog 73 ⟨[.pointer x0, .agg ⟨tkC x1⟩]⟩ h K :=
  cl Tryz.func73 hS (fun hg hS => lf hg hS) fun hg hS => rt hg hS
end Sx.modes_Machine_pre
namespace Sx.modes_Machine_form
abbrev L3 : List Sl := [.o 0 .p, .o 3 .a, .o 8 .b]
abbrev L2 : List Sl := [.o 0 .p, .o 3 .a]
abbrev L0 : List Sl := []
variable (x0 : Option Addr) (x1 : Tk)
variable (K : Value -> H -> Prop) (h : H)
abbrev asks (x0 : Option Addr) (x1 : Tk) (K : Value -> H -> Prop) (h : H) : Prop := cF L0 (fun Kr => sqF L2 (fun K2 => newx h ⟨tkC x1⟩ 45 fun a13 h14 => K2 x0 a13 h14) fun x0 x3 h => sqF L3 (fun K1 => vSome x0 fun a11 => ∃ i12, cell h (a11.add 3) = some (.int .i64 i12) /\ (Spl (i12 < (0 : Int)) (K1 x0 x3 true h) (K1 x0 x3 false h))) fun x0 x3 x8 h => cond x8 (ldT h x3 fun t1 => HCalls Tryz.prog 71 ⟨[.pointer x0, .agg ⟨tkC t1⟩]⟩ h fun v2 h3 => vSome x0 fun a4 => ∃ p5, cell h3 (a4.add 0) = some (.pointer p5) /\ (HCalls Tryz.prog 55 ⟨[.pointer p5]⟩ h3 fun v6 h7 => dO v6 fun o8_0 o8_1 o8_2 o8_3 => vSome x0 fun a9 => stL (a9.add 3) [.int .i64 o8_0] 0 h7 fun h10 => Kr h10)) (Kr h)) fun h => K (.tuple ⟨[]⟩) h
theorem ok (hS : asks x0 x1 K h) : HCalls Tryz.prog 74 ⟨[.pointer x0, .agg ⟨tkC x1⟩]⟩ h K :=
  cl Tryz.func74 hS (fun hg hS => sq hg hS fun hg hS => sq hg hS fun hg hS => lf hg hS) fun hg hS => rt hg hS
end Sx.modes_Machine_form
namespace Sx.modes_Machine_li
abbrev L0 : List Sl := []
variable (x0 : Option Addr) (x1 : Tk)
variable (K : Value -> H -> Prop) (h : H)
abbrev asks : Prop := cF L0 (fun Kr => newx h ⟨tkC x1⟩ 45 fun a1 h2 => newx h2 #[S [108, 105]] 9 fun a3 h4 => HCalls Tryz.prog 148 ⟨[.pointer x0, .slice (some a3) 1 1]⟩ h4 fun v5 h6 => ldT h6 a1 fun t7 => HCalls Tryz.prog 71 ⟨[.pointer x0, .agg ⟨tkC t7⟩]⟩ h6 fun v8 h9 => Kr h9) fun h => K (.tuple ⟨[]⟩) h
theorem ok (hS : asks x0 x1 K h) : HCalls Tryz.prog 75 ⟨[.pointer x0, .agg ⟨tkC x1⟩]⟩ h K :=
  cl Tryz.func75 hS (fun hg hS => lf hg hS) fun hg hS => rt hg hS
end Sx.modes_Machine_li
namespace Sx.modes_Machine_dd
abbrev L0 : List Sl := []
variable (x0 : Option Addr) (x1 : Tk)
variable (K : Value -> H -> Prop) (h : H)
abbrev asks : Prop := cF L0 (fun Kr => newx h ⟨tkC x1⟩ 45 fun a1 h2 => newx h2 (sW [[100, 100], [100, 116]]) 9 fun a3 h4 => HCalls Tryz.prog 148 ⟨[.pointer x0, .slice (some a3) 2 2]⟩ h4 fun v5 h6 => ldT h6 a1 fun t7 => HCalls Tryz.prog 71 ⟨[.pointer x0, .agg ⟨tkC t7⟩]⟩ h6 fun v8 h9 => Kr h9) fun h => K (.tuple ⟨[]⟩) h
theorem ok (hS : asks x0 x1 K h) : HCalls Tryz.prog 76 ⟨[.pointer x0, .agg ⟨tkC x1⟩]⟩ h K :=
  cl Tryz.func76 hS (fun hg hS => lf hg hS) fun hg hS => rt hg hS
end Sx.modes_Machine_dd
namespace Sx.modes_Machine_plaintext
abbrev L0 : List Sl := []
variable (x0 : Option Addr) (x1 : Tk)
variable (K : Value -> H -> Prop) (h : H)
abbrev asks : Prop := cF L0 (fun Kr => newx h ⟨tkC x1⟩ 45 fun a1 h2 => ldT h2 a1 fun t3 => HCalls Tryz.prog 71 ⟨[.pointer x0, .agg ⟨tkC t3⟩]⟩ h2 fun v4 h5 => vSome x0 fun a6 => stL (a6.add 5) [.int .u8 4] 0 h5 fun h7 => Kr h7) fun h => K (.tuple ⟨[]⟩) h
theorem ok (hS : asks x0 x1 K h) : HCalls Tryz.prog 77 ⟨[.pointer x0, .agg ⟨tkC x1⟩]⟩ h K :=
  cl Tryz.func77 hS (fun hg hS => lf hg hS) fun hg hS => rt hg hS
end Sx.modes_Machine_plaintext
namespace Sx.modes_Machine_button
abbrev L0 : List Sl := []
variable (x0 : Option Addr) (x1 : Tk)
variable (K : Value -> H -> Prop) (h : H)
abbrev asks : Prop := cF L0 (fun Kr => newx h ⟨tkC x1⟩ 45 fun a1 h2 => newx h2 #[S [98, 117, 116, 116, 111, 110]] 9 fun a3 h4 => HCalls Tryz.prog 149 ⟨[.pointer x0, .int .u8 0, .slice (some a3) 1 1]⟩ h4 fun v5 h6 => vBool v5 fun b7 => cond b7 (HCalls Tryz.prog 150 ⟨[.pointer x0, S []]⟩ h6 fun v8 h9 => newx h9 #[S [98, 117, 116, 116, 111, 110]] 9 fun a10 h11 => HCalls Tryz.prog 151 ⟨[.pointer x0, .slice (some a10) 1 1]⟩ h11 fun v12 h13 => ldT h13 a1 fun t14 => HCalls Tryz.prog 93 ⟨[.pointer x0, .agg ⟨tkC t14⟩]⟩ h13 fun v15 h16 => Kr h16) (ldT h6 a1 fun t17 => HCalls Tryz.prog 93 ⟨[.pointer x0, .agg ⟨tkC t17⟩]⟩ h6 fun v18 h19 => Kr h19)) fun h => K (.tuple ⟨[]⟩) h
theorem ok (hS : asks x0 x1 K h) : HCalls Tryz.prog 78 ⟨[.pointer x0, .agg ⟨tkC x1⟩]⟩ h K :=
  cl Tryz.func78 hS (fun hg hS => lf hg hS) fun hg hS => rt hg hS
end Sx.modes_Machine_button
namespace Sx.modes_Machine_link
abbrev L2 : List Sl := [.o 0 .p, .o 3 .a]
abbrev L5 : List Sl := [.o 0 .p, .o 3 .a, .o 5 .a]
abbrev L4 : List Sl := [.o 0 .p, .o 3 .a, .o 4 (.i .i64), .o 17 .b]
abbrev L3 : List Sl := [.o 0 .p, .o 3 .a, .o 4 (.i .i64)]
abbrev L0 : List Sl := []
variable (x0 : Option Addr) (x1 : Tk)
variable (K : Value -> H -> Prop) (h : H)
abbrev asks (x0 : Option Addr) (x1 : Tk) (K : Value -> H -> Prop) (h : H) : Prop := cF L0 (fun Kr => sqF L2 (fun K7 => newx h ⟨tkC x1⟩ 45 fun a57 h58 => K7 x0 a57 h58) fun x0 x3 h => sqF L2 (fun K1 => sqF L3 (fun K6 => vSome x0 fun a49 => ∃ p50, cell h (a49.add 0) = some (.pointer p50) /\ (vSome p50 fun a51 => ∃ s52b s52n s52c, cell h (a51.add 2) = some (.slice s52b s52n s52c) /\ (∃ s53, cell h (x3.add 1) = some (S s53) /\ (HCalls Tryz.prog 152 ⟨[.slice s52b s52n s52c, S s53]⟩ h fun v54 h55 => vInt .i64 v54 fun i56 => K6 x0 x3 i56 h55)))) fun x0 x3 x4 h => sqF L4 (fun K5 => Spl (x4 ≥ (0 : Int)) (K5 x0 x3 x4 true h) (K5 x0 x3 x4 false h)) fun x0 x3 x4 x17 h => cond x17 (sqF L5 (fun K4 => vSome x0 fun a40 => ∃ p41, cell h (a40.add 0) = some (.pointer p41) /\ (vSome p41 fun a42 => ∃ s43b s43n s43c, cell h (a42.add 2) = some (.slice s43b s43n s43c) /\ ((0 <= x4 /\ x4 < (s43n : Int)) /\ (vSome s43b fun a44 => ∃ i45, cell h ((a44.add (Int.toNat x4 * 3)).add 0) = some (.int .i64 i45) /\ (newx h #[.int .i64 0] 3 fun a46 h47 => stL a46 [.int .i64 i45] 0 h47 fun h48 => K4 x0 x3 a46 h48))))) fun x0 x3 x5 h => sqF L5 (fun K3 => ldT h x3 fun t37 => HCalls Tryz.prog 100 ⟨[.pointer x0, .agg ⟨tkC t37⟩]⟩ h fun v38 h39 => K3 x0 x3 x5 h39) fun x0 x3 x5 h => sqF L5 (fun K2 => (vSome x0 fun a9 => vSome x0 fun a10 => ∃ p11, cell h (a10.add 0) = some (.pointer p11) /\ (vSome p11 fun a12 => ∃ s13b s13n s13c, cell h (a12.add 2) = some (.slice s13b s13n s13c) /\ (HCalls Tryz.prog 63 ⟨[.slice s13b s13n s13c]⟩ h fun v14 h15 => vSlice v14 fun s16b s16n s16c => HCalls Tryz.prog 153 ⟨[.slice s16b s16n s16c, (.func (.func 154) ⟨[]⟩ ⟨[.pointer (some x5)]⟩)]⟩ h15 fun v17 h18 => vSlice v17 fun s19b s19n s19c => ∃ p20, cell h18 (a9.add 0) = some (.pointer p20) /\ (vSome p20 fun a21 => stL (a21.add 2) [.slice s19b s19n s19c] 0 h18 fun h22 => K2 x0 x3 x5 h22)))) /\ (vSome x0 fun a23 => ∃ p24, cell h (a23.add 0) = some (.pointer p24) /\ (vSome x0 fun a25 => ∃ p26, cell h (a25.add 0) = some (.pointer p26) /\ (vSome p26 fun a27 => ∃ s28b s28n s28c, cell h (a27.add 2) = some (.slice s28b s28n s28c) /\ (HCalls Tryz.prog 63 ⟨[.slice s28b s28n s28c]⟩ h fun v29 h30 => vSlice v29 fun s31b s31n s31c => ExtH h h30 /\ (HCalls Tryz.prog 153 ⟨[.slice s31b s31n s31c, (.func (.func 154) ⟨[]⟩ ⟨[.pointer (some x5)]⟩)]⟩ h30 fun v32 h33 => vSlice v32 fun s34b s34n s34c => vSome p24 fun a35 => stL (a35.add 2) [.slice s34b s34n s34c] 0 h33 fun h36 => K2 x0 x3 x5 h36)))))) fun x0 x3 x5 h => vSome x0 fun a4 => ∃ p5, cell h (a4.add 0) = some (.pointer p5) /\ (∃ i6, cell h x5 = some (.int .i64 i6) /\ (HCalls Tryz.prog 155 ⟨[.pointer p5, .int .i64 i6]⟩ h fun v7 h8 => K1 x0 x3 h8))) (K1 x0 x3 h)) fun x0 x3 h => ldT h x3 fun t1 => HCalls Tryz.prog 92 ⟨[.pointer x0, .agg ⟨tkC t1⟩]⟩ h fun v2 h3 => Kr h3) fun h => K (.tuple ⟨[]⟩) h
theorem ok (hS : asks x0 x1 K h) : HCalls Tryz.prog 79 ⟨[.pointer x0, .agg ⟨tkC x1⟩]⟩ h K :=
  cl Tryz.func79 hS (fun hg hS => sq hg hS fun hg hS => sc hS (fun hS => sq hg hS fun hg hS => sq hg hS fun hg hS => cn (i := 17) hg hS (fun hg hS => sq hg hS fun hg hS => sq hg hS fun hg hS => sq hg hS fun hg hS => lf hg hS) fun hg hS => lf hg hS) fun hg hS => lf hg hS) fun hg hS => rt hg hS
end Sx.modes_Machine_link
namespace Sx.modes_Machine_nobr
abbrev L0 : List Sl := []
variable (x0 : Option Addr) (x1 : Tk)
variable (K : Value -> H -> Prop) (h : H)
abbrev asks : Prop := cF L0 (fun Kr => newx h ⟨tkC x1⟩ 45 fun a1 h2 => vSome x0 fun a3 => ∃ p4, cell h2 (a3.add 0) = some (.pointer p4) /\ (HCalls Tryz.prog 40 ⟨[.pointer p4]⟩ h2 fun v5 h6 => ∃ s7, cell h6 (a1.add 1) = some (S s7) /\ (newx h6 #[S s7] 9 fun a8 h9 => HCalls Tryz.prog 149 ⟨[.pointer x0, .int .u8 0, .slice (some a8) 1 1]⟩ h9 fun v10 h11 => vBool v10 fun b12 => cond b12 (ldT h11 a1 fun t13 => HCalls Tryz.prog 100 ⟨[.pointer x0, .agg ⟨tkC t13⟩]⟩ h11 fun v14 h15 => ldT h15 a1 fun t16 => HCalls Tryz.prog 92 ⟨[.pointer x0, .agg ⟨tkC t16⟩]⟩ h15 fun v17 h18 => Kr h18) (ldT h11 a1 fun t19 => HCalls Tryz.prog 92 ⟨[.pointer x0, .agg ⟨tkC t19⟩]⟩ h11 fun v20 h21 => Kr h21)))) fun h => K (.tuple ⟨[]⟩) h
theorem ok (hS : asks x0 x1 K h) : HCalls Tryz.prog 80 ⟨[.pointer x0, .agg ⟨tkC x1⟩]⟩ h K :=
  cl Tryz.func80 hS (fun hg hS => lf hg hS) fun hg hS => rt hg hS
end Sx.modes_Machine_nobr
namespace Sx.modes_Machine_object
abbrev L0 : List Sl := []
variable (x0 : Option Addr) (x1 : Tk)
variable (K : Value -> H -> Prop) (h : H)
abbrev asks : Prop := cF L0 (fun Kr => newx h ⟨tkC x1⟩ 45 fun a1 h2 => ldT h2 a1 fun t3 => HCalls Tryz.prog 93 ⟨[.pointer x0, .agg ⟨tkC t3⟩]⟩ h2 fun v4 h5 => vSome x0 fun a6 => ∃ p7, cell h5 (a6.add 0) = some (.pointer p7) /\ (vSome x0 fun a8 => ∃ p9, cell h5 (a8.add 0) = some (.pointer p9) /\ (vSome p9 fun a10 => ∃ s11b s11n s11c, cell h5 (a10.add 2) = some (.slice s11b s11n s11c) /\ (HCalls Tryz.prog 156 ⟨[.slice s11b s11n s11c, (.agg ⟨[.int .i64 (-1), S [], .slice none 0 0]⟩)]⟩ h5 fun v12 h13 => vSlice v12 fun s14b s14n s14c => ExtH h5 h13 /\ (vSome p7 fun a15 => stL (a15.add 2) [.slice s14b s14n s14c] 0 h13 fun h16 => Kr h16))))) fun h => K (.tuple ⟨[]⟩) h
theorem ok (hS : asks x0 x1 K h) : HCalls Tryz.prog 81 ⟨[.pointer x0, .agg ⟨tkC x1⟩]⟩ h K :=
  cl Tryz.func81 hS (fun hg hS => lf hg hS) fun hg hS => rt hg hS
end Sx.modes_Machine_object
namespace Sx.modes_Machine_table
abbrev L0 : List Sl := []
variable (x0 : Option Addr) (x1 : Tk)
variable (K : Value -> H -> Prop) (h : H)
abbrev asks : Prop := cF L0 (fun Kr => newx h ⟨tkC x1⟩ 45 fun a1 h2 => ldT h2 a1 fun t3 => HCalls Tryz.prog 71 ⟨[.pointer x0, .agg ⟨tkC t3⟩]⟩ h2 fun v4 h5 => vSome x0 fun a6 => stL (a6.add 1) [.int .u8 2] 0 h5 fun h7 => Kr h7) fun h => K (.tuple ⟨[]⟩) h
theorem ok (hS : asks x0 x1 K h) : HCalls Tryz.prog 82 ⟨[.pointer x0, .agg ⟨tkC x1⟩]⟩ h K :=
  cl Tryz.func82 hS (fun hg hS => lf hg hS) fun hg hS => rt hg hS
end Sx.modes_Machine_table
namespace Sx.modes_Machine_again
abbrev L0 : List Sl := []
variable (x0 : Option Addr) (x1 : Tk)
variable (K : Value -> H -> Prop) (h : H)
abbrev asks : Prop := cF L0 (fun Kr => newx h ⟨tkC x1⟩ 45 fun a1 h2 => vSome x0 fun a3 => ∃ p4, cell h2 (a3.add 0) = some (.pointer p4) /\ (HCalls Tryz.prog 40 ⟨[.pointer p4]⟩ h2 fun v5 h6 => ldT h6 a1 fun t7 => HCalls Tryz.prog 67 ⟨[.pointer x0, .agg ⟨tkC t7⟩]⟩ h6 fun v8 h9 => Kr h9)) fun h => K (.tuple ⟨[]⟩) h
theorem ok (hS : asks x0 x1 K h) : HCalls Tryz.prog 83 ⟨[.pointer x0, .agg ⟨tkC x1⟩]⟩ h K :=
  cl Tryz.func83 hS (fun hg hS => lf hg hS) fun hg hS => rt hg hS
end Sx.modes_Machine_again
namespace Sx.modes_Machine_image
abbrev L0 : List Sl := []
variable (x0 : Option Addr) (x1 : Tk)
variable (K : Value -> H -> Prop) (h : H)
abbrev asks : Prop := cF L0 (fun Kr => newx h ⟨tkC x1⟩ 45 fun a1 h2 => stL (a1.add 1) [S [105, 109, 103]] 0 h2 fun h3 => ldT h3 a1 fun t4 => HCalls Tryz.prog 83 ⟨[.pointer x0, .agg ⟨tkC t4⟩]⟩ h3 fun v5 h6 => Kr h6) fun h => K (.tuple ⟨[]⟩) h
theorem ok (hS : asks x0 x1 K h) : HCalls Tryz.prog 84 ⟨[.pointer x0, .agg ⟨tkC x1⟩]⟩ h K :=
  cl Tryz.func84 hS (fun hg hS => lf hg hS) fun hg hS => rt hg hS
end Sx.modes_Machine_image
namespace Sx.modes_Machine_hr
abbrev L0 : List Sl := []
variable (x0 : Option Addr) (x1 : Tk)
variable (K : Value -> H -> Prop) (h : H)
abbrev asks : Prop := cF L0 (fun Kr => newx h ⟨tkC x1⟩ 45 fun a1 h2 => HCalls Tryz.prog 145 ⟨[.pointer x0]⟩ h2 fun v3 h4 => ldT h4 a1 fun t5 => HCalls Tryz.prog 67 ⟨[.pointer x0, .agg ⟨tkC t5⟩]⟩ h4 fun v6 h7 => Kr h7) fun h => K (.tuple ⟨[]⟩) h
theorem ok (hS : asks x0 x1 K h) : HCalls Tryz.prog 85 ⟨[.pointer x0, .agg ⟨tkC x1⟩]⟩ h K :=
  cl Tryz.func85 hS (fun hg hS => lf hg hS) fun hg hS => rt hg hS
end Sx.modes_Machine_hr
namespace Sx.modes_Machine_textarea
abbrev L0 : List Sl := []
variable (x0 : Option Addr) (x1 : Tk)
variable (K : Value -> H -> Prop) (h : H)
abbrev asks : Prop := cF L0 (fun Kr => newx h ⟨tkC x1⟩ 45 fun a1 h2 => ldT h2 a1 fun t3 => HCalls Tryz.prog 68 ⟨[.pointer x0, .agg ⟨tkC t3⟩]⟩ h2 fun v4 h5 => vSome x0 fun a6 => stL (a6.add 4) [.bool true] 0 h5 fun h7 => Kr h7) fun h => K (.tuple ⟨[]⟩) h
theorem ok (hS : asks x0 x1 K h) : HCalls Tryz.prog 86 ⟨[.pointer x0, .agg ⟨tkC x1⟩]⟩ h K :=
  cl Tryz.func86 hS (fun hg hS => lf hg hS) fun hg hS => rt hg hS
end Sx.modes_Machine_textarea
namespace Sx.modes_Machine_xmp
abbrev L0 : List Sl := []
variable (x0 : Option Addr) (x1 : Tk)
variable (K : Value -> H -> Prop) (h : H)
abbrev asks : Prop := cF L0 (fun Kr => newx h ⟨tkC x1⟩ 45 fun a1 h2 => HCalls Tryz.prog 145 ⟨[.pointer x0]⟩ h2 fun v3 h4 => vSome x0 fun a5 => ∃ p6, cell h4 (a5.add 0) = some (.pointer p6) /\ (HCalls Tryz.prog 40 ⟨[.pointer p6]⟩ h4 fun v7 h8 => ldT h8 a1 fun t9 => HCalls Tryz.prog 69 ⟨[.pointer x0, .agg ⟨tkC t9⟩]⟩ h8 fun v10 h11 => Kr h11)) fun h => K (.tuple ⟨[]⟩) h
theorem ok (hS : asks x0 x1 K h) : HCalls Tryz.prog 87 ⟨[.pointer x0, .agg ⟨tkC x1⟩]⟩ h K :=
  cl Tryz.func87 hS (fun hg hS => lf hg hS) fun hg hS => rt hg hS
end Sx.modes_Machine_xmp
namespace Sx.modes_Machine_option
abbrev L0 : List Sl := []
variable (x0 : Option Addr) (x1 : Tk)
variable (K : Value -> H -> Prop) (h : H)
abbrev asks : Prop := cF L0 (fun Kr => newx h ⟨tkC x1⟩ 45 fun a1 h2 => newx h2 #[S [111, 112, 116, 105, 111, 110]] 9 fun a3 h4 => HCalls Tryz.prog 146 ⟨[.pointer x0, .slice (some a3) 1 1]⟩ h4 fun v5 h6 => vBool v5 fun b7 => cond b7 (HCalls Tryz.prog 37 ⟨[.pointer x0]⟩ h6 fun v8 h9 => ldT h9 a1 fun t10 => HCalls Tryz.prog 93 ⟨[.pointer x0, .agg ⟨tkC t10⟩]⟩ h9 fun v11 h12 => Kr h12) (ldT h6 a1 fun t13 => HCalls Tryz.prog 93 ⟨[.pointer x0, .agg ⟨tkC t13⟩]⟩ h6 fun v14 h15 => Kr h15)) fun h => K (.tuple ⟨[]⟩) h
theorem ok (hS : asks x0 x1 K h) : HCalls Tryz.prog 88 ⟨[.pointer x0, .agg ⟨tkC x1⟩]⟩ h K :=
  cl Tryz.func88 hS (fun hg hS => lf hg hS) fun hg hS => rt hg hS
end Sx.modes_Machine_option
namespace Sx.modes_Machine_ruby
abbrev L3 : List Sl := [.o 0 .p, .o 3 .a, .o 4 .s]
abbrev L2 : List Sl := [.o 0 .p, .o 3 .a]
abbrev L0 : List Sl := []
variable (x0 : Option Addr) (x1 : Tk)
variable (K : Value -> H -> Prop) (h : H)
abbrev asks (x0 : Option Addr) (x1 : Tk) (K : Value -> H -> Prop) (h : H) : Prop := cF L0 (fun Kr => sqF L2 (fun K3 => newx h ⟨tkC x1⟩ 45 fun a16 h17 => K3 x0 a16 h17) fun x0 x3 h => sqF L3 (fun K2 => K2 x0 x3 ([] : List UInt8) h) fun x0 x3 x4 h => sqF L3 (fun K1 => ∃ s14, cell h (x3.add 1) = some (S s14) /\ (Spl (s14 = [114, 112]) (K1 x0 x3 ([114, 116, 99] : List UInt8) h) (∃ s15, cell h (x3.add 1) = some (S s15) /\ (Spl (s15 = [114, 116]) (K1 x0 x3 ([114, 116, 99] : List UInt8) h) (K1 x0 x3 x4 h))))) fun x0 x3 x4 h => newx h #[S [114, 117, 98, 121]] 9 fun a1 h2 => HCalls Tryz.prog 149 ⟨[.pointer x0, .int .u8 0, .slice (some a1) 1 1]⟩ h2 fun v3 h4 => vBool v3 fun b5 => cond b5 (HCalls Tryz.prog 150 ⟨[.pointer x0, S x4]⟩ h4 fun v6 h7 => ldT h7 x3 fun t8 => HCalls Tryz.prog 143 ⟨[.pointer x0, .agg ⟨tkC t8⟩]⟩ h7 fun v9 h10 => Kr h10) (ldT h4 x3 fun t11 => HCalls Tryz.prog 143 ⟨[.pointer x0, .agg ⟨tkC t11⟩]⟩ h4 fun v12 h13 => Kr h13)) fun h => K (.tuple ⟨[]⟩) h
theorem ok (hS : asks x0 x1 K h) : HCalls Tryz.prog 89 ⟨[.pointer x0, .agg ⟨tkC x1⟩]⟩ h K :=
  cl Tryz.func89 hS (fun hg hS => sq hg hS fun hg hS => sq hg hS fun hg hS => sq hg hS fun hg hS => lf hg hS) fun hg hS => rt hg hS
end Sx.modes_Machine_ruby
namespace Sx.modes_Machine_alien
abbrev L3 : List Sl := [.o 0 .p, .o 3 .a, .o 4 (.i .u8)]
abbrev L2 : List Sl := [.o 0 .p, .o 3 .a]
abbrev L0 : List Sl := []
variable (x0 : Option Addr) (x1 : Tk)
variable (K : Value -> H -> Prop) (h : H)
abbrev asks (x0 : Option Addr) (x1 : Tk) (K : Value -> H -> Prop) (h : H) : Prop := cF L0 (fun Kr => sqF L2 (fun K4 => newx h ⟨tkC x1⟩ 45 fun a15 h16 => K4 x0 a15 h16) fun x0 x3 h => sqF L2 (fun K3 => vSome x0 fun a11 => ∃ p12, cell h (a11.add 0) = some (.pointer p12) /\ (HCalls Tryz.prog 40 ⟨[.pointer p12]⟩ h fun v13 h14 => K3 x0 x3 h14)) fun x0 x3 h => sqF L3 (fun K2 => K2 x0 x3 (2 : Int) h) fun x0 x3 x4 h => sqF L3 (fun K1 => ∃ s10, cell h (x3.add 1) = some (S s10) /\ (Spl (s10 = [115, 118, 103]) (K1 x0 x3 (1 : Int) h) (K1 x0 x3 x4 h))) fun x0 x3 x4 h => vSome x0 fun a1 => ∃ p2, cell h (a1.add 0) = some (.pointer p2) /\ (ldT h x3 fun t3 => HCalls Tryz.prog 64 ⟨[.pointer p2, .int .u8 x4, .agg ⟨tkC t3⟩]⟩ h fun v4 h5 => vInt .i64 v4 fun i6 => ∃ b7, cell h5 (x3.add 3) = some (.bool b7) /\ (cond b7 (HCalls Tryz.prog 37 ⟨[.pointer x0]⟩ h5 fun v8 h9 => Kr h9) (Kr h5)))) fun h => K (.tuple ⟨[]⟩) h
theorem ok (hS : asks x0 x1 K h) : HCalls Tryz.prog 90 ⟨[.pointer x0, .agg ⟨tkC x1⟩]⟩ h K :=
  cl Tryz.func90 hS (fun hg hS => sq hg hS fun hg hS => sq hg hS fun hg hS => sq hg hS fun hg hS => sq hg hS fun hg hS => lf hg hS) fun hg hS => rt hg hS
end Sx.modes_Machine_alien
namespace Sx.modes_Machine_format
abbrev L0 : List Sl := []
variable (x0 : Option Addr) (x1 : Tk)
variable (K : Value -> H -> Prop) (h : H)
abbrev asks : Prop := cF L0 (fun Kr => newx h ⟨tkC x1⟩ 45 fun a1 h2 => ldT h2 a1 fun t3 => HCalls Tryz.prog 93 ⟨[.pointer x0, .agg ⟨tkC t3⟩]⟩ h2 fun v4 h5 => vSome x0 fun a6 => ∃ p7, cell h5 (a6.add 0) = some (.pointer p7) /\ (vSome x0 fun a8 => ∃ p9, cell h5 (a8.add 0) = some (.pointer p9) /\ (vSome p9 fun a10 => ∃ s11b s11n s11c, cell h5 (a10.add 2) = some (.slice s11b s11n s11c) /\ (vSome x0 fun a12 => ∃ p13, cell h5 (a12.add 0) = some (.pointer p13) /\ (∃ s14, cell h5 (a1.add 1) = some (S s14) /\ (∃ s15b s15n s15c, cell h5 (a1.add 2) = some (.slice s15b s15n s15c) /\ (HCalls Tryz.prog 55 ⟨[.pointer p13]⟩ h5 fun v16 h17 => dO v16 fun o18_0 o18_1 o18_2 o18_3 => ExtH h5 h17 /\ (HCalls Tryz.prog 156 ⟨[.slice s11b s11n s11c, (.agg ⟨[.int .i64 o18_0, S s14, .slice s15b s15n s15c]⟩)]⟩ h17 fun v19 h20 => vSlice v19 fun s21b s21n s21c => ExtH h17 h20 /\ (vSome p7 fun a22 => stL (a22.add 2) [.slice s21b s21n s21c] 0 h20 fun h23 => Kr h23))))))))) fun h => K (.tuple ⟨[]⟩) h
theorem ok (hS : asks x0 x1 K h) : HCalls Tryz.prog 92 ⟨[.pointer x0, .agg ⟨tkC x1⟩]⟩ h K :=
  cl Tryz.func92 hS (fun hg hS => lf hg hS) fun hg hS => rt hg hS
end Sx.modes_Machine_format
namespace Sx.modes_Machine_plain
abbrev L0 : List Sl := []
variable (x0 : Option Addr) (x1 : Tk)
variable (K : Value -> H -> Prop) (h : H)
abbrev asks : Prop := cF L0 (fun Kr => newx h ⟨tkC x1⟩ 45 fun a1 h2 => vSome x0 fun a3 => ∃ p4, cell h2 (a3.add 0) = some (.pointer p4) /\ (HCalls Tryz.prog 40 ⟨[.pointer p4]⟩ h2 fun v5 h6 => ldT h6 a1 fun t7 => HCalls Tryz.prog 143 ⟨[.pointer x0, .agg ⟨tkC t7⟩]⟩ h6 fun v8 h9 => Kr h9)) fun h => K (.tuple ⟨[]⟩) h
theorem ok (hS : asks x0 x1 K h) : HCalls Tryz.prog 93 ⟨[.pointer x0, .agg ⟨tkC x1⟩]⟩ h K :=
  cl Tryz.func93 hS (fun hg hS => lf hg hS) fun hg hS => rt hg hS
end Sx.modes_Machine_plain
namespace Sx.modes_Machine_endBlock
abbrev L0 : List Sl := []
variable (x0 : Option Addr) (x1 : Tk)
variable (K : Value -> H -> Prop) (h : H)
abbrev asks : Prop := cF L0 (fun Kr => newx h ⟨tkC x1⟩ 45 fun a1 h2 => ∃ s3, cell h2 (a1.add 1) = some (S s3) /\ (newx h2 #[S s3] 9 fun a4 h5 => HCalls Tryz.prog 149 ⟨[.pointer x0, .int .u8 0, .slice (some a4) 1 1]⟩ h5 fun v6 h7 => vBool v6 fun b8 => cond b8 (HCalls Tryz.prog 150 ⟨[.pointer x0, S []]⟩ h7 fun v9 h10 => ∃ s11, cell h10 (a1.add 1) = some (S s11) /\ (newx h10 #[S s11] 9 fun a12 h13 => HCalls Tryz.prog 151 ⟨[.pointer x0, .slice (some a12) 1 1]⟩ h13 fun v14 h15 => Kr h15)) (Kr h7))) fun h => K (.tuple ⟨[]⟩) h
theorem ok (hS : asks x0 x1 K h) : HCalls Tryz.prog 94 ⟨[.pointer x0, .agg ⟨tkC x1⟩]⟩ h K :=
  cl Tryz.func94 hS (fun hg hS => lf hg hS) fun hg hS => rt hg hS
end Sx.modes_Machine_endBlock
namespace Sx.modes_Machine_endForm
abbrev L3 : List Sl := [.o 0 .p, .o 2 (.i .i64), .o 16 .b]
abbrev L2 : List Sl := [.o 0 .p, .o 2 (.i .i64)]
abbrev L0 : List Sl := []
variable (x0 : Option Addr)
variable (K : Value -> H -> Prop) (h : H)
abbrev asks (x0 : Option Addr) (K : Value -> H -> Prop) (h : H) : Prop := cF L0 (fun Kr => sqF L2 (fun K3 => vSome x0 fun a12 => ∃ i13, cell h (a12.add 3) = some (.int .i64 i13) /\ (K3 x0 i13 h)) fun x0 x2 h => sqF L2 (fun K2 => vSome x0 fun a10 => stL (a10.add 3) [.int .i64 (-1)] 0 h fun h11 => K2 x0 x2 h11) fun x0 x2 h => sqF L3 (fun K1 => Spl (x2 ≥ (0 : Int)) (HCalls Tryz.prog 158 ⟨[.pointer x0, .int .i64 x2]⟩ h fun v7 h8 => vBool v7 fun b9 => cond b9 (K1 x0 x2 true h8) (K1 x0 x2 false h8)) (K1 x0 x2 false h)) fun x0 x2 x16 h => cond x16 (HCalls Tryz.prog 150 ⟨[.pointer x0, S []]⟩ h fun v1 h2 => vSome x0 fun a3 => ∃ p4, cell h2 (a3.add 0) = some (.pointer p4) /\ (HCalls Tryz.prog 155 ⟨[.pointer p4, .int .i64 x2]⟩ h2 fun v5 h6 => Kr h6)) (Kr h)) fun h => K (.tuple ⟨[]⟩) h
theorem ok (hS : asks x0 K h) : HCalls Tryz.prog 95 ⟨[.pointer x0]⟩ h K :=
  cl Tryz.func95 hS (fun hg hS => sq hg hS fun hg hS => sq hg hS fun hg hS => sq hg hS fun hg hS => lf hg hS) fun hg hS => rt hg hS
end Sx.modes_Machine_endForm
namespace Sx.modes_Machine_endP
abbrev L0 : List Sl := []
variable (x0 : Option Addr)
variable (K : Value -> H -> Prop) (h : H)
abbrev asks : Prop := cF L0 (fun Kr => newx h #[S [112]] 9 fun a1 h2 => HCalls Tryz.prog 149 ⟨[.pointer x0, .int .u8 2, .slice (some a1) 1 1]⟩ h2 fun v3 h4 => vBool v3 fun b5 => cond b5 (HCalls Tryz.prog 145 ⟨[.pointer x0]⟩ h4 fun v6 h7 => Kr h7) (HCalls Tryz.prog 143 ⟨[.pointer x0, (.agg ⟨[.int .u8 0, S [112], .slice none 0 0, .bool false, S []]⟩)]⟩ h4 fun v8 h9 => HCalls Tryz.prog 145 ⟨[.pointer x0]⟩ h9 fun v10 h11 => Kr h11)) fun h => K (.tuple ⟨[]⟩) h
theorem ok (hS : asks x0 K h) : HCalls Tryz.prog 96 ⟨[.pointer x0]⟩ h K :=
  cl Tryz.func96 hS (fun hg hS => lf hg hS) fun hg hS => rt hg hS
end Sx.modes_Machine_endP
namespace Sx.modes_Machine_endItem
abbrev L3 : List Sl := [.o 0 .p, .o 3 .a, .o 4 (.i .u8)]
abbrev L2 : List Sl := [.o 0 .p, .o 3 .a]
abbrev L0 : List Sl := []
variable (x0 : Option Addr) (x1 : Tk)
variable (K : Value -> H -> Prop) (h : H)
abbrev asks (x0 : Option Addr) (x1 : Tk) (K : Value -> H -> Prop) (h : H) : Prop := cF L0 (fun Kr => sqF L2 (fun K3 => newx h ⟨tkC x1⟩ 45 fun a16 h17 => K3 x0 a16 h17) fun x0 x3 h => sqF L3 (fun K2 => K2 x0 x3 (0 : Int) h) fun x0 x3 x4 h => sqF L3 (fun K1 => ∃ s15, cell h (x3.add 1) = some (S s15) /\ (Spl (s15 = [108, 105]) (K1 x0 x3 (1 : Int) h) (K1 x0 x3 x4 h))) fun x0 x3 x4 h => ∃ s1, cell h (x3.add 1) = some (S s1) /\ (newx h #[S s1] 9 fun a2 h3 => HCalls Tryz.prog 149 ⟨[.pointer x0, .int .u8 x4, .slice (some a2) 1 1]⟩ h3 fun v4 h5 => vBool v4 fun b6 => cond b6 (∃ s7, cell h5 (x3.add 1) = some (S s7) /\ (HCalls Tryz.prog 150 ⟨[.pointer x0, S s7]⟩ h5 fun v8 h9 => ∃ s10, cell h9 (x3.add 1) = some (S s10) /\ (newx h9 #[S s10] 9 fun a11 h12 => HCalls Tryz.prog 151 ⟨[.pointer x0, .slice (some a11) 1 1]⟩ h12 fun v13 h14 => Kr h14))) (Kr h5))) fun h => K (.tuple ⟨[]⟩) h
theorem ok (hS : asks x0 x1 K h) : HCalls Tryz.prog 97 ⟨[.pointer x0, .agg ⟨tkC x1⟩]⟩ h K :=
  cl Tryz.func97 hS (fun hg hS => sq hg hS fun hg hS => sq hg hS fun hg hS => sq hg hS fun hg hS => lf hg hS) fun hg hS => rt hg hS
end Sx.modes_Machine_endItem
namespace Sx.modes_Machine_endHead
abbrev L0 : List Sl := []
variable (x0 : Option Addr)
variable (K : Value -> H -> Prop) (h : H)
abbrev asks : Prop := cF L0 (fun Kr => HCalls Tryz.prog 147 ⟨[]⟩ h fun v1 h2 => vSlice v1 fun s3b s3n s3c => HCalls Tryz.prog 149 ⟨[.pointer x0, .int .u8 0, .slice s3b s3n s3c]⟩ h2 fun v4 h5 => vBool v4 fun b6 => cond b6 (HCalls Tryz.prog 150 ⟨[.pointer x0, S []]⟩ h5 fun v7 h8 => HCalls Tryz.prog 147 ⟨[]⟩ h8 fun v9 h10 => vSlice v9 fun s11b s11n s11c => HCalls Tryz.prog 151 ⟨[.pointer x0, .slice s11b s11n s11c]⟩ h10 fun v12 h13 => Kr h13) (Kr h5)) fun h => K (.tuple ⟨[]⟩) h
theorem ok (hS : asks x0 K h) : HCalls Tryz.prog 98 ⟨[.pointer x0]⟩ h K :=
  cl Tryz.func98 hS (fun hg hS => lf hg hS) fun hg hS => rt hg hS
end Sx.modes_Machine_endHead
namespace Sx.modes_Machine_endObject
abbrev L3 : List Sl := [.o 0 .p, .o 3 .a, .o 8 .b]
abbrev L2 : List Sl := [.o 0 .p, .o 3 .a]
abbrev L0 : List Sl := []
variable (x0 : Option Addr) (x1 : Tk)
variable (K : Value -> H -> Prop) (h : H)
abbrev asks (x0 : Option Addr) (x1 : Tk) (K : Value -> H -> Prop) (h : H) : Prop := cF L0 (fun Kr => sqF L2 (fun K2 => newx h ⟨tkC x1⟩ 45 fun a21 h22 => K2 x0 a21 h22) fun x0 x3 h => sqF L3 (fun K1 => ∃ s15, cell h (x3.add 1) = some (S s15) /\ (newx h #[S s15] 9 fun a16 h17 => HCalls Tryz.prog 149 ⟨[.pointer x0, .int .u8 0, .slice (some a16) 1 1]⟩ h17 fun v18 h19 => vBool v18 fun b20 => cond b20 (K1 x0 x3 true h19) (K1 x0 x3 false h19))) fun x0 x3 x8 h => cond x8 (ldT h x3 fun t1 => HCalls Tryz.prog 94 ⟨[.pointer x0, .agg ⟨tkC t1⟩]⟩ h fun v2 h3 => vSome x0 fun a4 => ∃ p5, cell h3 (a4.add 0) = some (.pointer p5) /\ (vSome x0 fun a6 => ∃ p7, cell h3 (a6.add 0) = some (.pointer p7) /\ (vSome p7 fun a8 => ∃ s9b s9n s9c, cell h3 (a8.add 2) = some (.slice s9b s9n s9c) /\ (HCalls Tryz.prog 159 ⟨[.slice s9b s9n s9c]⟩ h3 fun v10 h11 => vSlice v10 fun s12b s12n s12c => ExtH h3 h11 /\ (vSome p5 fun a13 => stL (a13.add 2) [.slice s12b s12n s12c] 0 h11 fun h14 => Kr h14))))) (Kr h)) fun h => K (.tuple ⟨[]⟩) h
theorem ok (hS : asks x0 x1 K h) : HCalls Tryz.prog 99 ⟨[.pointer x0, .agg ⟨tkC x1⟩]⟩ h K :=
  cl Tryz.func99 hS (fun hg hS => sq hg hS fun hg hS => sq hg hS fun hg hS => lf hg hS) fun hg hS => rt hg hS
end Sx.modes_Machine_endObject
namespace Sx.modes_Machine_leave
abbrev L0 : List Sl := []
variable (x0 : Option Addr) (x1 : Tk)
variable (K : Value -> H -> Prop) (h : H)
abbrev asks : Prop := cF L0 (fun Kr => newx h ⟨tkC x1⟩ 45 fun a1 h2 => vSome x0 fun a3 => ∃ p4, cell h2 (a3.add 0) = some (.pointer p4) /\ (∃ s5, cell h2 (a1.add 1) = some (S s5) /\ (HCalls Tryz.prog 160 ⟨[.pointer p4, S s5]⟩ h2 fun v6 h7 => vBool v6 fun b8 => cond b8 (Kr h7) (vSome x0 fun a9 => ∃ p10, cell h7 (a9.add 0) = some (.pointer p10) /\ (∃ s11, cell h7 (a1.add 1) = some (S s11) /\ (HCalls Tryz.prog 101 ⟨[.pointer p10, S s11]⟩ h7 fun v12 h13 => Kr h13)))))) fun h => K (.tuple ⟨[]⟩) h
theorem ok (hS : asks x0 x1 K h) : HCalls Tryz.prog 100 ⟨[.pointer x0, .agg ⟨tkC x1⟩]⟩ h K :=
  cl Tryz.func100 hS (fun hg hS => lf hg hS) fun hg hS => rt hg hS
end Sx.modes_Machine_leave
namespace Sx.modes_Machine_insert
abbrev L0 : List Sl := []
variable (x0 : Option Addr) (x1 : Tk)
variable (K : Value -> H -> Prop) (h : H)
abbrev asks : Prop := cF L0 (fun Kr => newx h ⟨tkC x1⟩ 45 fun a1 h2 => vSome x0 fun a3 => ∃ p4, cell h2 (a3.add 0) = some (.pointer p4) /\ (ldT h2 a1 fun t5 => HCalls Tryz.prog 64 ⟨[.pointer p4, .int .u8 0, .agg ⟨tkC t5⟩]⟩ h2 fun v6 h7 => vInt .i64 v6 fun i8 => Kr h7)) fun h => K (.tuple ⟨[]⟩) h
theorem ok (hS : asks x0 x1 K h) : HCalls Tryz.prog 143 ⟨[.pointer x0, .agg ⟨tkC x1⟩]⟩ h K :=
  cl Tryz.func143 hS (fun hg hS => lf hg hS) fun hg hS => rt hg hS
end Sx.modes_Machine_insert
namespace Sx.modes_Machine_reads
abbrev L0 : List Sl := []
variable (x0 : Option Addr) (x1 : Tk) (x2 : Int)
variable (K : Value -> H -> Prop) (h : H)
abbrev asks : Prop := cF L0 (fun Kr => newx h ⟨tkC x1⟩ 45 fun a1 h2 => vSome x0 fun a3 => ∃ i4, cell h2 (a3.add 1) = some (.int .u8 i4) /\ (vSome x0 fun a5 => stL (a5.add 2) [.int .u8 i4] 0 h2 fun h6 => vSome x0 fun a7 => stL (a7.add 1) [.int .u8 1] 0 h6 fun h8 => (vSome x0 fun a9 => stL (a9.add 5) [.int .u8 x2] 0 h8 fun h10 => ∃ s11, cell h10 (a1.add 1) = some (S s11) /\ (vSome x0 fun a12 => stL (a12.add 6) [S s11] 0 h10 fun h13 => Kr h13)) /\ (∃ s14, cell h8 (a1.add 1) = some (S s14) /\ (vSome x0 fun a15 => stL (a15.add 5) [.int .u8 x2] 0 h8 fun h16 => vSome x0 fun a17 => stL (a17.add 6) [S s14] 0 h16 fun h18 => Kr h18)))) fun h => K (.tuple ⟨[]⟩) h
theorem ok (hS : asks x0 x1 x2 K h) : HCalls Tryz.prog 144 ⟨[.pointer x0, .agg ⟨tkC x1⟩, .int .u8 x2]⟩ h K :=
  cl Tryz.func144 hS (fun hg hS => lf hg hS) fun hg hS => rt hg hS
end Sx.modes_Machine_reads
namespace Sx.modes_Machine_closeP
abbrev L0 : List Sl := []
variable (x0 : Option Addr)
variable (K : Value -> H -> Prop) (h : H)
abbrev asks : Prop := cF L0 (fun Kr => newx h #[S [112]] 9 fun a1 h2 => HCalls Tryz.prog 149 ⟨[.pointer x0, .int .u8 2, .slice (some a1) 1 1]⟩ h2 fun v3 h4 => vBool v3 fun b5 => cond b5 (HCalls Tryz.prog 150 ⟨[.pointer x0, S [112]]⟩ h4 fun v6 h7 => newx h7 #[S [112]] 9 fun a8 h9 => HCalls Tryz.prog 151 ⟨[.pointer x0, .slice (some a8) 1 1]⟩ h9 fun v10 h11 => Kr h11) (Kr h4)) fun h => K (.tuple ⟨[]⟩) h
theorem ok (hS : asks x0 K h) : HCalls Tryz.prog 145 ⟨[.pointer x0]⟩ h K :=
  cl Tryz.func145 hS (fun hg hS => lf hg hS) fun hg hS => rt hg hS
end Sx.modes_Machine_closeP
namespace Sx.modes_Machine_is
abbrev L0 : List Sl := [.o 4 .b]
variable (x0 x1b : Option Addr) (x1n x1c : Nat)
variable (K : Value -> H -> Prop) (h : H)
abbrev asks : Prop := cF L0 (fun Kr => vSome x0 fun a1 => ∃ p2, cell h (a1.add 0) = some (.pointer p2) /\ (HCalls Tryz.prog 55 ⟨[.pointer p2]⟩ h fun v3 h4 => dO v3 fun o5_0 o5_1 o5_2 o5_3 => newx h4 ⟨[.int .i64 0, .int .u8 0, S [], .int .u8 0]⟩ 77 fun a6 h7 => stL a6 [.int .i64 o5_0, .int .u8 o5_1, S o5_2, .int .u8 o5_3] 0 h7 fun h8 => ∃ i9, cell h8 (a6.add 1) = some (.int .u8 i9) /\ (Spl (i9 = (0 : Int)) (∃ s10, cell h8 (a6.add 2) = some (S s10) /\ (HCalls Tryz.prog 189 ⟨[.slice x1b x1n x1c, S s10]⟩ h8 fun v11 h12 => vBool v11 fun b13 => cond b13 (Kr true h12) (Kr false h12))) (Kr false h8)))) fun y4 h => K (.bool y4) h
theorem ok (hS : asks x0 x1b x1n x1c K h) : HCalls Tryz.prog 146 ⟨[.pointer x0, .slice x1b x1n x1c]⟩ h K :=
  cl Tryz.func146 hS (fun hg hS => lf hg hS) fun hg hS => rt hg hS
end Sx.modes_Machine_is
namespace Sx.modes_heads
abbrev L0 : List Sl := [.o 0 .l]
variable (K : Value -> H -> Prop) (h : H)
abbrev asks : Prop := cF L0 (fun Kr => newx h (sW [[104, 49], [104, 50], [104, 51], [104, 52], [104, 53], [104, 54]]) 9 fun a1 h2 => Kr (some a1) 6 6 h2) fun y0b y0n y0c h => K (.slice y0b y0n y0c) h
theorem ok (hS : asks K h) : HCalls Tryz.prog 147 ⟨[]⟩ h K :=
  cl Tryz.func147 hS (fun hg hS => lf hg hS) fun hg hS => rt hg hS
end Sx.modes_heads
namespace Sx.modes_Machine_item
abbrev L3 : List Sl := [.o 0 .p, .o 4 (.i .i64), .o 16 .b]
abbrev L2 : List Sl := [.o 0 .p, .o 4 (.i .i64)]
abbrev L0 : List Sl := []
variable (x0 x1b : Option Addr) (x1n x1c : Nat)
variable (K : Value -> H -> Prop) (h : H)
abbrev asks (x0 x1b : Option Addr) (x1n x1c : Nat) (K : Value -> H -> Prop) (h : H) : Prop := cF L0 (fun Kr => sqF L2 (fun K2 => vSome x0 fun a13 => ∃ p14, cell h (a13.add 0) = some (.pointer p14) /\ (vSome p14 fun a15 => ∃ s16b s16n s16c, cell h (a15.add 1) = some (.slice s16b s16n s16c) /\ (HCalls Tryz.prog 190 ⟨[.slice s16b s16n s16c, .slice x1b x1n x1c]⟩ h fun v17 h18 => vInt .i64 v17 fun i19 => K2 x0 i19 h18))) fun x0 x4 h => sqF L3 (fun K1 => Spl (x4 ≥ (0 : Int)) (K1 x0 x4 true h) (K1 x0 x4 false h)) fun x0 x4 x16 h => cond x16 (vSome x0 fun a1 => ∃ p2, cell h (a1.add 0) = some (.pointer p2) /\ (vSome p2 fun a3 => ∃ s4b s4n s4c, cell h (a3.add 1) = some (.slice s4b s4n s4c) /\ ((0 <= x4 /\ x4 < (s4n : Int)) /\ (vSome s4b fun a5 => ∃ s6, cell h ((a5.add (Int.toNat x4 * 4)).add 2) = some (S s6) /\ (HCalls Tryz.prog 150 ⟨[.pointer x0, S s6]⟩ h fun v7 h8 => newx h8 #[S s6] 9 fun a9 h10 => HCalls Tryz.prog 151 ⟨[.pointer x0, .slice (some a9) 1 1]⟩ h10 fun v11 h12 => Kr h12))))) (Kr h)) fun h => K (.tuple ⟨[]⟩) h
theorem ok (hS : asks x0 x1b x1n x1c K h) : HCalls Tryz.prog 148 ⟨[.pointer x0, .slice x1b x1n x1c]⟩ h K :=
  cl Tryz.func148 hS (fun hg hS => sq hg hS fun hg hS => sq hg hS fun hg hS => lf hg hS) fun hg hS => rt hg hS
end Sx.modes_Machine_item
namespace Sx.modes_Machine_in
abbrev L0 : List Sl := [.o 6 .b]
variable (x0 : Option Addr) (x1 : Int) (x2b : Option Addr) (x2n x2c : Nat)
variable (K : Value -> H -> Prop) (h : H)
abbrev asks : Prop := cF L0 (fun Kr => vSome x0 fun a1 => ∃ p2, cell h (a1.add 0) = some (.pointer p2) /\ (vSome p2 fun a3 => ∃ s4b s4n s4c, cell h (a3.add 1) = some (.slice s4b s4n s4c) /\ (HCalls Tryz.prog 191 ⟨[.slice s4b s4n s4c, .int .u8 x1, .slice x2b x2n x2c]⟩ h fun v5 h6 => vBool v5 fun b7 => cond b7 (Kr true h6) (Kr false h6)))) fun y6 h => K (.bool y6) h
theorem ok (hS : asks x0 x1 x2b x2n x2c K h) : HCalls Tryz.prog 149 ⟨[.pointer x0, .int .u8 x1, .slice x2b x2n x2c]⟩ h K :=
  cl Tryz.func149 hS (fun hg hS => lf hg hS) fun hg hS => rt hg hS
end Sx.modes_Machine_in
namespace Sx.modes_Machine_implied
abbrev L0 : List Sl := []
variable (x0 : Option Addr) (x1 : List UInt8)
variable (K : Value -> H -> Prop) (h : H)
abbrev asks : Prop := cF L0 (fun Kr => vSome x0 fun a1 => ∃ p2, cell h (a1.add 0) = some (.pointer p2) /\ (vSome x0 fun a3 => ∃ p4, cell h (a3.add 0) = some (.pointer p4) /\ (vSome p4 fun a5 => ∃ s6b s6n s6c, cell h (a5.add 1) = some (.slice s6b s6n s6c) /\ (HCalls Tryz.prog 192 ⟨[.slice s6b s6n s6c, S x1]⟩ h fun v7 h8 => vInt .i64 v7 fun i9 => ExtH h h8 /\ (HCalls Tryz.prog 57 ⟨[.pointer p2, .int .i64 i9]⟩ h8 fun v10 h11 => Kr h11))))) fun h => K (.tuple ⟨[]⟩) h
theorem ok (hS : asks x0 x1 K h) : HCalls Tryz.prog 150 ⟨[.pointer x0, S x1]⟩ h K :=
  cl Tryz.func150 hS (fun hg hS => lf hg hS) fun hg hS => rt hg hS
end Sx.modes_Machine_implied
namespace Sx.modes_Machine_up
abbrev L0 : List Sl := []
variable (x0 x1b : Option Addr) (x1n x1c : Nat)
variable (K : Value -> H -> Prop) (h : H)
abbrev asks : Prop := cF L0 (fun Kr => vSome x0 fun a1 => ∃ p2, cell h (a1.add 0) = some (.pointer p2) /\ (vSome x0 fun a3 => ∃ p4, cell h (a3.add 0) = some (.pointer p4) /\ (vSome p4 fun a5 => ∃ s6b s6n s6c, cell h (a5.add 1) = some (.slice s6b s6n s6c) /\ (HCalls Tryz.prog 128 ⟨[.slice s6b s6n s6c, .slice x1b x1n x1c]⟩ h fun v7 h8 => vInt .i64 v7 fun i9 => ExtH h h8 /\ (HCalls Tryz.prog 57 ⟨[.pointer p2, .int .i64 i9]⟩ h8 fun v10 h11 => Kr h11))))) fun h => K (.tuple ⟨[]⟩) h
theorem ok (hS : asks x0 x1b x1n x1c K h) : HCalls Tryz.prog 151 ⟨[.pointer x0, .slice x1b x1n x1c]⟩ h K :=
  cl Tryz.func151 hS (fun hg hS => lf hg hS) fun hg hS => rt hg hS
end Sx.modes_Machine_up
namespace Sx.modes_Machine_link_1
abbrev L0 : List Sl := [.o 3 .b]
variable (x0_0 : Int) (x0_1 : List UInt8) (x0_2b : Option Addr) (x0_2n x0_2c : Nat) (x1 : Addr)
variable (K : Value -> H -> Prop) (h : H)
abbrev asks : Prop := cF L0 (fun Kr => newx h ⟨[.int .i64 x0_0, S x0_1, .slice x0_2b x0_2n x0_2c]⟩ 79 fun a1 h2 => ∃ i3, cell h2 (a1.add 0) = some (.int .i64 i3) /\ (∃ i4, cell h2 x1 = some (.int .i64 i4) /\ (Spl (i3 = i4) (Kr true h2) (Kr false h2)))) fun y3 h => K (.bool y3) h
theorem ok (hS : asks x0_0 x0_1 x0_2b x0_2n x0_2c x1 K h) : HCalls Tryz.prog 154 ⟨[(.agg ⟨[.int .i64 x0_0, S x0_1, .slice x0_2b x0_2n x0_2c]⟩), .pointer (some x1)]⟩ h K :=
  cl Tryz.func154 hS (fun hg hS => lf hg hS) fun hg hS => rt hg hS
end Sx.modes_Machine_link_1
namespace Sx.modes_Machine_free
abbrev L4 : List Sl := []
abbrev L5 : List Sl := [.o 28 .l, .o 29 (.i .i64), .o 30 (.i .i64)]
abbrev L0 : List Sl := [.o 4 .b]
abbrev L3 : List Sl := [.o 0 .p, .o 5 (.i .i64)]
abbrev L2 : List Sl := [.o 0 .p, .o 3 .a]
abbrev T4 := TK L4
abbrev T0 := TK L0
abbrev T5 := TK L5
variable (x0 : Option Addr) (x1 : Int)
abbrev n8_B (Kn Ke0 : T4) (Kr : T0) : T5 -> T5 := fun K2 x28b x28n x28c x29 x30 h => Spl (x30 < x29) ((0 <= x30 /\ x30 < (x28n : Int)) /\ (vSome x28b fun a1 => ldO h (a1.add (Int.toNat x30 * 4)) fun o2_0 o2_1 o2_2 o2_3 => newx h ⟨[.int .i64 0, .int .u8 0, S [], .int .u8 0]⟩ 77 fun a3 h4 => stL a3 [.int .i64 o2_0, .int .u8 o2_1, S o2_2, .int .u8 o2_3] 0 h4 fun h5 => ldO h5 a3 fun o6_0 o6_1 o6_2 o6_3 => newx h5 #[.int .i64 0, .int .u8 0, S [42], .int .u8 0, .int .i64 o6_0, .int .u8 o6_1, S o6_2, .int .u8 o6_3] 77 fun a7 h8 => newx h8 #[S [42]] 9 fun a9 h10 => HCalls Tryz.prog 191 ⟨[.slice (some a7) 2 2, .int .u8 0, .slice (some a9) 1 1]⟩ h10 fun v11 h12 => vBool v11 fun b13 => cond b13 (Rng .i64 (x30 + (1 : Int)) /\ (K2 x28b x28n x28c x29 (x30 + (1 : Int)) h12)) (Kr false h12))) (Ke0 h)
abbrev n8_L (Kn Ke0 : T4) (Kr : T0) : Nat -> T5 := LP L5 (n8_B Kn Ke0 Kr)
variable (K : Value -> H -> Prop) (h : H)
abbrev asks (x0 : Option Addr) (x1 : Int) (K : Value -> H -> Prop) (h : H) : Prop := cF L0 (fun Kr => sqF L2 (fun K6 => newx h #[.int .i64 x1] 3 fun a25 h26 => K6 x0 a25 h26) fun x0 x3 h => sqF L3 (fun K5 => vSome x0 fun a18 => ∃ p19, cell h (a18.add 0) = some (.pointer p19) /\ (vSome p19 fun a20 => ∃ s21b s21n s21c, cell h (a20.add 1) = some (.slice s21b s21n s21c) /\ (HCalls Tryz.prog 183 ⟨[.slice s21b s21n s21c, (.func (.func 200) ⟨[]⟩ ⟨[.pointer (some x3)]⟩)]⟩ h fun v22 h23 => vInt .i64 v22 fun i24 => K5 x0 i24 h23))) fun x0 x5 h => sqF L3 (fun K4 => Spl (x5 < (0 : Int)) (Kr false h) (K4 x0 x5 h)) fun x0 x5 h => sqF L4 (fun K1 => sqF L5 (fun K3 => vSome x0 fun a14 => ∃ p15, cell h (a14.add 0) = some (.pointer p15) /\ (vSome p15 fun a16 => ∃ s17b s17n s17c, cell h (a16.add 1) = some (.slice s17b s17n s17c) /\ (Rng .i64 (x5 + (1 : Int)) /\ ((0 <= (x5 + (1 : Int)) /\ (x5 + (1 : Int)) <= (s17n : Int) /\ (s17n : Int) <= (s17c : Int)) /\ (K3 (if s17c = Int.toNat (x5 + (1 : Int)) then s17b else Option.map (fun q => q.add (Int.toNat (x5 + (1 : Int)) * 4)) s17b) (Int.toNat (s17n : Int) - Int.toNat (x5 + (1 : Int))) (s17c - Int.toNat (x5 + (1 : Int))) (((Int.toNat (s17n : Int) - Int.toNat (x5 + (1 : Int))) : Nat) : Int) (0 : Int) h))))) fun x28b x28n x28c x29 x30 h => lpF L5 (n8_B K1 K1 Kr) fun K2 => K2 x28b x28n x28c x29 x30 h) fun h => Kr true h) fun y4 h => K (.bool y4) h
theorem ok (hS : asks x0 x1 K h) : HCalls Tryz.prog 158 ⟨[.pointer x0, .int .i64 x1]⟩ h K :=
  cl Tryz.func158 hS (fun hg hS => sq (l := L2) hg hS fun hg hS => sq (l := L3) hg hS fun hg hS => sq (l := L3) hg hS fun hg hS => sc (l := L4) hS (fun hS => sq (l := L5) hg hS fun hg hS => bl (b := 0) (lp hg hS fun hg hS => lf hg hS)) fun hg hS => lf hg hS) fun hg hS => rt hg hS
end Sx.modes_Machine_free
namespace Sx.modes_Machine_free_1
abbrev L0 : List Sl := [.o 3 .b]
variable (x0_0 x0_1 : Int) (x0_2 : List UInt8) (x0_3 : Int) (x1 : Addr)
variable (K : Value -> H -> Prop) (h : H)
abbrev asks : Prop := cF L0 (fun Kr => newx h ⟨[.int .i64 x0_0, .int .u8 x0_1, S x0_2, .int .u8 x0_3]⟩ 77 fun a1 h2 => ∃ i3, cell h2 (a1.add 0) = some (.int .i64 i3) /\ (∃ i4, cell h2 x1 = some (.int .i64 i4) /\ (Spl (i3 = i4) (Kr true h2) (Kr false h2)))) fun y3 h => K (.bool y3) h
theorem ok (hS : asks x0_0 x0_1 x0_2 x0_3 x1 K h) : HCalls Tryz.prog 200 ⟨[(.agg ⟨[.int .i64 x0_0, .int .u8 x0_1, S x0_2, .int .u8 x0_3]⟩), .pointer (some x1)]⟩ h K :=
  cl Tryz.func200 hS (fun hg hS => lf hg hS) fun hg hS => rt hg hS
end Sx.modes_Machine_free_1
end Go.Proofs
