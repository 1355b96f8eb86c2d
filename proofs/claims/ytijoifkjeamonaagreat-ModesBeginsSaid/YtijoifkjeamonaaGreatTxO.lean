/- The shallow forms of functions, printed by sh.py out of the translation; each with its proof. No condition. -/
import Derived.Test.YtijoifkjeamonaaGreatShQ
import Derived.Test.YtijoifkjeamonaaGreatProg
namespace Go.Proofs
open Go Go.Sh
set_option linter.unusedVariables false
set_option maxRecDepth 100000
namespace Sx.l15_ModesBegins
abbrev L0 : List Sl := [.o 4 .b]
abbrev L3 : List Sl := [.o 0 .l, .o 5 (.i .i64)]
abbrev L2 : List Sl := [.o 0 .l, .o 1 (.i .i64), .o 5 (.i .i64)]
abbrev L1 : List Sl := [.o 0 .l, .o 1 (.i .i64)]
abbrev T0 := TK L0
variable (x0b : Option Addr) (x0n x0c : Nat) (x1 x5 : Int)
abbrev n5 (Kn Kr : T0) (h : H) : Prop :=
  (0 <= (0 : Int) /\ (0 : Int) <= x5 /\ x5 <= (x0c : Int)) /\ (HCalls Tryz.prog 8 ⟨[(.slice (if x0c = Int.toNat (0 : Int) then x0b else Option.map (fun q => q.add (Int.toNat (0 : Int) * 5)) x0b) (Int.toNat x5 - Int.toNat (0 : Int)) (x0c - Int.toNat (0 : Int)))]⟩ h fun v1 h2 => vSlice v1 fun s3b s3n s3c => HCalls Tryz.prog 27 ⟨[.slice s3b s3n s3c]⟩ h2 fun v4 h5 => vInt .i64 v4 fun i6 => HCalls Tryz.prog 8 ⟨[.slice x0b x0n x0c]⟩ h5 fun v7 h8 => vSlice v7 fun s9b s9n s9c => HCalls Tryz.prog 27 ⟨[.slice s9b s9n s9c]⟩ h8 fun v10 h11 => vInt .i64 v10 fun i12 => Spl (i6 <= i12) (Kr true h11) (Kr false h11))
variable (K : Value -> H -> Prop) (h : H)
abbrev asks (x0b : Option Addr) (x0n x0c : Nat) (x1 : Int) (K : Value -> H -> Prop) (h : H) : Prop := cF L0 (fun Kr => sqF L1 (fun K4 => K4 x0b x0n x0c x1 h) fun x0b x0n x0c x1 h => sqF L1 (fun K3 => HCalls Tryz.prog 6 ⟨[.slice x0b x0n x0c]⟩ h fun v13 h14 => vBool v13 fun b15 => cond b15 (HCalls Tryz.prog 11 ⟨[]⟩ h14 fun v16 h17 => vBool v16 fun b18 => cond b18 (Kr true h17) (Kr false h17)) (HCalls Tryz.prog 11 ⟨[]⟩ h14 fun v19 h20 => vBool v19 fun b21 => cond b21 (K3 x0b x0n x0c x1 h20) (HCalls Tryz.prog 11 ⟨[]⟩ h20 fun v22 h23 => vBool v22 fun b24 => cond b24 (Kr true h23) (Kr false h23)))) fun x0b x0n x0c x1 h => sqF L2 (fun K2 => K2 x0b x0n x0c x1 (0 : Int) h) fun x0b x0n x0c x1 x5 h => sqF L3 (fun K1 => Spl ((x0n : Int) > (0 : Int)) (Rng .i64 ((x0n : Int) + (1 : Int)) /\ (((x0n : Int) + (1 : Int)) ≠ 0 /\ (K1 x0b x0n x0c (Int.tmod (if (0 : Int) > x1 then (0 : Int) else x1) ((x0n : Int) + (1 : Int))) h))) (K1 x0b x0n x0c x5 h)) fun x0b x0n x0c x5 h => n5 x0b x0n x0c x5 Kr Kr h) fun y4 h => K (.bool y4) h
theorem ok (hS : asks x0b x0n x0c x1 K h) : HCalls Tryz.prog 5 ⟨[.slice x0b x0n x0c, .int .i64 x1]⟩ h K :=
  cl Tryz.func5 hS (fun hg hS => sq (l := L1) hg hS fun hg hS => sq (l := L1) hg hS fun hg hS => sq (l := L2) hg hS fun hg hS => sq (l := L3) hg hS fun hg hS => lf hg hS) fun hg hS => rt hg hS
end Sx.l15_ModesBegins
namespace Sx.l15_heavy
abbrev L0 : List Sl := [.o 2 .b]
variable (x0b : Option Addr) (x0n x0c : Nat)
variable (K : Value -> H -> Prop) (h : H)
abbrev asks : Prop := cF L0 (fun Kr => Spl ((x0n : Int) > (200 : Int)) (Kr true h) (HCalls Tryz.prog 28 ⟨[.slice x0b x0n x0c, .int .i64 400]⟩ h fun v1 h2 => vInt .i64 v1 fun i3 => Spl (i3 > (400 : Int)) (Kr true h2) (Kr false h2))) fun y2 h => K (.bool y2) h
theorem ok (hS : asks x0b x0n x0c K h) : HCalls Tryz.prog 6 ⟨[.slice x0b x0n x0c]⟩ h K :=
  cl Tryz.func6 hS (fun hg hS => lf hg hS) fun hg hS => rt hg hS
end Sx.l15_heavy
namespace Sx.l15_known
abbrev L4 : List Sl := [.o 2 .l, .o 3 .b]
abbrev L3 : List Sl := [.o 1 .l, .o 2 .l]
abbrev L2 : List Sl := [.o 1 .l]
abbrev L1 : List Sl := []
abbrev L0 : List Sl := [.o 0 .b]
variable (K : Value -> H -> Prop) (h : H)
abbrev asks : Prop := cF L0 (fun Kr => sqF L1 (fun K4 => K4 h) fun h => sqF L2 (fun K3 => HCalls Tryz.prog 30 ⟨[S [112]]⟩ h fun v35 h36 => dT v35 fun t37 => HCalls Tryz.prog 31 ⟨[S [49]]⟩ h36 fun v38 h39 => dT v38 fun t40 => HCalls Tryz.prog 30 ⟨[S [98]]⟩ h39 fun v41 h42 => dT v41 fun t43 => HCalls Tryz.prog 31 ⟨[S [50]]⟩ h42 fun v44 h45 => dT v44 fun t46 => HCalls Tryz.prog 30 ⟨[S [112]]⟩ h45 fun v47 h48 => dT v47 fun t49 => HCalls Tryz.prog 31 ⟨[S [51]]⟩ h48 fun v50 h51 => dT v50 fun t52 => newx h51 #[.int .u8 t37.k, S t37.n, .slice t37.b t37.l t37.c, .bool t37.z, S t37.t, .int .u8 t40.k, S t40.n, .slice t40.b t40.l t40.c, .bool t40.z, S t40.t, .int .u8 t43.k, S t43.n, .slice t43.b t43.l t43.c, .bool t43.z, S t43.t, .int .u8 t46.k, S t46.n, .slice t46.b t46.l t46.c, .bool t46.z, S t46.t, .int .u8 t49.k, S t49.n, .slice t49.b t49.l t49.c, .bool t49.z, S t49.t, .int .u8 t52.k, S t52.n, .slice t52.b t52.l t52.c, .bool t52.z, S t52.t] 45 fun a53 h54 => HCalls Tryz.prog 8 ⟨[.slice (some a53) 6 6]⟩ h54 fun v55 h56 => vSlice v55 fun s57b s57n s57c => K3 s57b s57n s57c h56) fun x1b x1n x1c h => sqF L3 (fun K2 => HCalls Tryz.prog 30 ⟨[S [97]]⟩ h fun v18 h19 => dT v18 fun t20 => HCalls Tryz.prog 31 ⟨[S [49]]⟩ h19 fun v21 h22 => dT v21 fun t23 => HCalls Tryz.prog 30 ⟨[S [97]]⟩ h22 fun v24 h25 => dT v24 fun t26 => HCalls Tryz.prog 31 ⟨[S [50]]⟩ h25 fun v27 h28 => dT v27 fun t29 => newx h28 #[.int .u8 t20.k, S t20.n, .slice t20.b t20.l t20.c, .bool t20.z, S t20.t, .int .u8 t23.k, S t23.n, .slice t23.b t23.l t23.c, .bool t23.z, S t23.t, .int .u8 t26.k, S t26.n, .slice t26.b t26.l t26.c, .bool t26.z, S t26.t, .int .u8 t29.k, S t29.n, .slice t29.b t29.l t29.c, .bool t29.z, S t29.t] 45 fun a30 h31 => HCalls Tryz.prog 8 ⟨[.slice (some a30) 4 4]⟩ h31 fun v32 h33 => vSlice v32 fun s34b s34n s34c => K2 x1b x1n x1c s34b s34n s34c h33) fun x1b x1n x1c x2b x2n x2c h => sqF L4 (fun K1 => Spl ((x1n : Int) = (2 : Int)) ((0 <= (0 : Int) /\ (0 : Int) < (x1n : Int)) /\ (vSome x1b fun a10 => ∃ s11b s11n s11c, cell h ((a10.add (Int.toNat (0 : Int) * 6)).add 5) = some (.slice s11b s11n s11c) /\ (Spl ((s11n : Int) = (2 : Int)) ((0 <= (1 : Int) /\ (1 : Int) < (x1n : Int)) /\ (vSome x1b fun a12 => ∃ s13b s13n s13c, cell h ((a12.add (Int.toNat (1 : Int) * 6)).add 5) = some (.slice s13b s13n s13c) /\ (Spl ((s13n : Int) = (1 : Int)) ((0 <= (1 : Int) /\ (1 : Int) < (x1n : Int)) /\ (vSome x1b fun a14 => ∃ s15b s15n s15c, cell h ((a14.add (Int.toNat (1 : Int) * 6)).add 5) = some (.slice s15b s15n s15c) /\ ((0 <= (0 : Int) /\ (0 : Int) < (s15n : Int)) /\ (vSome s15b fun a16 => ∃ s17, cell h ((a16.add (Int.toNat (0 : Int) * 6)).add 2) = some (S s17) /\ (Spl (s17 = [98]) (K1 x2b x2n x2c true h) (K1 x2b x2n x2c false h)))))) (K1 x2b x2n x2c false h)))) (K1 x2b x2n x2c false h)))) (K1 x2b x2n x2c false h)) fun x2b x2n x2c x3 h => newx h #[.int .u8 3, S [112], .slice none 0 0, .bool false, S []] 45 fun a1 h2 => HCalls Tryz.prog 8 ⟨[.slice (some a1) 1 1]⟩ h2 fun v3 h4 => vSlice v3 fun s5b s5n s5c => cond x3 (Spl ((x2n : Int) = (2 : Int)) ((0 <= (1 : Int) /\ (1 : Int) < (x2n : Int)) /\ (vSome x2b fun a6 => ∃ s7, cell h4 ((a6.add (Int.toNat (1 : Int) * 6)).add 2) = some (S s7) /\ (Spl (s7 = [97]) (Spl ((s5n : Int) = (1 : Int)) ((0 <= (0 : Int) /\ (0 : Int) < (s5n : Int)) /\ (vSome s5b fun a8 => ∃ s9, cell h4 ((a8.add (Int.toNat (0 : Int) * 6)).add 2) = some (S s9) /\ (Spl (s9 = [112]) (Kr true h4) (Kr false h4)))) (Kr false h4)) (Kr false h4)))) (Kr false h4)) (Kr false h4)) fun y0 h => K (.bool y0) h
theorem ok (hS : asks K h) : HCalls Tryz.prog 11 ⟨[]⟩ h K :=
  cl Tryz.func11 hS (fun hg hS => sq hg hS fun hg hS => sq hg hS fun hg hS => sq hg hS fun hg hS => sq hg hS fun hg hS => lf hg hS) fun hg hS => rt hg hS
end Sx.l15_known
namespace Sx.l15_size
abbrev L0 : List Sl := [.o 2 (.i .i64)]
abbrev L3 : List Sl := [.o 3 (.i .i64)]
abbrev L4 : List Sl := [.o 0 .l, .o 3 (.i .i64), .o 4 (.i .i64)]
abbrev L2 : List Sl := [.o 0 .l, .o 3 (.i .i64)]
abbrev L1 : List Sl := [.o 0 .l]
abbrev T0 := TK L0
abbrev T3 := TK L3
abbrev T4 := TK L4
variable (x0b : Option Addr) (x0n x0c : Nat) (x3 : Int)
abbrev n4 (Kn Kr : T0) (h : H) : Prop :=
  Kr x3 h
abbrev n7_B (Kn Ke0 : T3) (Kr : T0) : T4 -> T4 := fun K2 x0b x0n x0c x3 x4 h => sqF L4 (fun K4 => Spl (x4 < (x0n : Int)) (K4 x0b x0n x0c x3 x4 h) (Ke0 x3 h)) fun x0b x0n x0c x3 x4 h => sqF L4 (fun K3 => (0 <= x4 /\ x4 < (x0n : Int)) /\ (vSome x0b fun a1 => ∃ s2b s2n s2c, cell h ((a1.add (Int.toNat x4 * 6)).add 5) = some (.slice s2b s2n s2c) /\ (HCalls Tryz.prog 27 ⟨[.slice s2b s2n s2c]⟩ h fun v3 h4 => vInt .i64 v3 fun i5 => Rng .i64 (x3 + i5) /\ ((0 <= x4 /\ x4 < (x0n : Int)) /\ (vSome x0b fun a6 => ∃ i7, cell h4 ((a6.add (Int.toNat x4 * 6)).add 0) = some (.int .u8 i7) /\ (Spl (i7 = (2 : Int)) ((0 <= x4 /\ x4 < (x0n : Int)) /\ (vSome x0b fun a8 => ∃ s9, cell h4 ((a8.add (Int.toNat x4 * 6)).add 4) = some (S s9) /\ (Rng .i64 ((x3 + i5) + (s9.length : Int)) /\ (K3 x0b x0n x0c ((x3 + i5) + (s9.length : Int)) x4 h4)))) (Rng .i64 ((x3 + i5) + (1 : Int)) /\ (K3 x0b x0n x0c ((x3 + i5) + (1 : Int)) x4 h4)))))))) fun x0b x0n x0c x3 x4 h => Rng .i64 (x4 + (1 : Int)) /\ (K2 x0b x0n x0c x3 (x4 + (1 : Int)) h)
abbrev n7_L (Kn Ke0 : T3) (Kr : T0) : Nat -> T4 := LP L4 (n7_B Kn Ke0 Kr)
variable (K : Value -> H -> Prop) (h : H)
abbrev asks (x0b : Option Addr) (x0n x0c : Nat) (K : Value -> H -> Prop) (h : H) : Prop := cF L0 (fun Kr => sqF L1 (fun K7 => K7 x0b x0n x0c h) fun x0b x0n x0c h => sqF L2 (fun K6 => K6 x0b x0n x0c (0 : Int) h) fun x0b x0n x0c x3 h => sqF L3 (fun K1 => sqF L4 (fun K5 => K5 x0b x0n x0c x3 (0 : Int) h) fun x0b x0n x0c x3 x4 h => lpF L4 (n7_B K1 K1 Kr) fun K2 => K2 x0b x0n x0c x3 x4 h) fun x3 h => n4 x3 Kr Kr h) fun y2 h => K (.int .i64 y2) h
theorem ok (hS : asks x0b x0n x0c K h) : HCalls Tryz.prog 27 ⟨[.slice x0b x0n x0c]⟩ h K :=
  cl Tryz.func27 hS (fun hg hS => sq (l := L1) hg hS fun hg hS => sq (l := L2) hg hS fun hg hS => sc (l := L3) hS (fun hS => sq (l := L4) hg hS fun hg hS => bl (b := 0) (lp hg hS fun hg hS => sq (l := L4) hg hS fun hg hS => sq (l := L4) hg hS fun hg hS => lf hg hS)) fun hg hS => lf hg hS) fun hg hS => rt hg hS
end Sx.l15_size
namespace Sx.l15_start
abbrev L0 : List Sl := [.o 2 .a]
variable (x0 : List UInt8)
variable (K : Value -> H -> Prop) (h : H)
abbrev asks : Prop := cF L0 (fun Kr => newx h ⟨[.int .u8 0, S [], .slice none 0 0, .bool false, S []]⟩ 45 fun a1 h2 => stL a1 [.int .u8 2, S x0, .slice none 0 0, .bool false, S []] 0 h2 fun h3 => Kr a1 h3) fun y2 h => ldT h y2 fun t4 => K (.agg ⟨tkC t4⟩) h
theorem ok (hS : asks x0 K h) : HCalls Tryz.prog 30 ⟨[S x0]⟩ h K :=
  cl Tryz.func30 hS (fun hg hS => lf hg hS) fun hg hS => rt hg hS
end Sx.l15_start
namespace Sx.l15_text
abbrev L0 : List Sl := [.o 2 .a]
variable (x0 : List UInt8)
variable (K : Value -> H -> Prop) (h : H)
abbrev asks : Prop := cF L0 (fun Kr => newx h ⟨[.int .u8 0, S [], .slice none 0 0, .bool false, S []]⟩ 45 fun a1 h2 => stL a1 [.int .u8 1, S [], .slice none 0 0, .bool false, S x0] 0 h2 fun h3 => Kr a1 h3) fun y2 h => ldT h y2 fun t4 => K (.agg ⟨tkC t4⟩) h
theorem ok (hS : asks x0 K h) : HCalls Tryz.prog 31 ⟨[S x0]⟩ h K :=
  cl Tryz.func31 hS (fun hg hS => lf hg hS) fun hg hS => rt hg hS
end Sx.l15_text
end Go.Proofs
