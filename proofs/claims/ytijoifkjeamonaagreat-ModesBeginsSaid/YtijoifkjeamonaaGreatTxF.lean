/- The shallow forms of functions, printed by sh.py out of the translation; each with its proof. No condition. -/
import Derived.Test.YtijoifkjeamonaaGreatShQ
import Derived.Test.YtijoifkjeamonaaGreatProg
namespace Go.Proofs
open Go Go.Sh
set_option linter.unusedVariables false
set_option maxRecDepth 100000
namespace Sx.place_World_Note
abbrev L0 : List Sl := []
variable (x0 : Option Addr) (x1 : List UInt8)
variable (K : Value -> H -> Prop) (h : H)
abbrev asks : Prop := cF L0 (fun Kr => HCalls Tryz.prog 55 ⟨[.pointer x0]⟩ h fun v1 h2 => vAgg v1 fun l3 => uncons l3 fun e4 l5 => vInt .i64 e4 fun i6 => uncons l5 fun e7 l8 => vInt .u8 e7 fun i9 => uncons l8 fun e10 l11 => vStr e10 fun s12 => uncons l11 fun e13 l14 => vInt .u8 e13 fun i15 => unnil l14 (HCalls Tryz.prog 54 ⟨[.pointer x0, (.agg ⟨[.int .i64 i6, .int .u8 i9, S s12, .int .u8 i15]⟩)]⟩ h2 fun v16 h17 => vTup v16 fun l18 => uncons l18 fun e19 l20 => vInt .i64 e19 fun i21 => uncons l20 fun e22 l23 => vInt .i64 e22 fun i24 => unnil l23 ((vSome x0 fun a25 => vSome x0 fun a26 => ∃ p27, cell h17 (a26.add 0) = some (.pointer p27) /\ (HCalls Tryz.prog 66 ⟨[.pointer p27, (.agg ⟨[.int .u8 (3 : Int), .int .u8 (0 : Int), S ([] : List UInt8), .slice none 0 0, S x1, .slice none 0 0]⟩)]⟩ h17 fun v28 h29 => vInt .i64 v28 fun i30 => ∃ p31, cell h29 (a25.add 0) = some (.pointer p31) /\ (HCalls Tryz.prog 65 ⟨[.pointer p31, .int .i64 i21, .int .i64 i24, .int .i64 i30]⟩ h29 fun v32 h33 => vBool v32 fun b34 => cond b34 (Kr h33) (Kr h33)))) /\ (vSome x0 fun a35 => ∃ p36, cell h17 (a35.add 0) = some (.pointer p36) /\ (vSome x0 fun a37 => ∃ p38, cell h17 (a37.add 0) = some (.pointer p38) /\ (HCalls Tryz.prog 66 ⟨[.pointer p38, (.agg ⟨[.int .u8 (3 : Int), .int .u8 (0 : Int), S ([] : List UInt8), .slice none 0 0, S x1, .slice none 0 0]⟩)]⟩ h17 fun v39 h40 => vInt .i64 v39 fun i41 => HCalls Tryz.prog 65 ⟨[.pointer p36, .int .i64 i21, .int .i64 i24, .int .i64 i41]⟩ h40 fun v42 h43 => vBool v42 fun b44 => cond b44 (Kr h43) (Kr h43))))))) fun h => K (.tuple ⟨[]⟩) h
theorem ok (hS : asks x0 x1 K h) : HCalls Tryz.prog 41 ⟨[.pointer x0, S x1]⟩ h K :=
  cl Tryz.func41 hS (fun hg hS => lf hg hS) fun hg hS => rt hg hS
end Sx.place_World_Note
namespace Sx.place_World_Rebuild
abbrev L3 : List Sl := [.o 0 .p, .o 2 (.i .i64), .o 28 (.i .i64), .o 29 (.i .i64)]
abbrev L0 : List Sl := []
abbrev L2 : List Sl := [.o 0 .p, .o 2 (.i .i64)]
abbrev T0 := TK L0
abbrev T3 := TK L3
variable (x0 : Option Addr)
abbrev n5_B (Kn Ke0 Kr : T0) : T3 -> T3 := fun K1 x0 x2 x28 x29 h => Spl (x29 < x28) (vSome x0 fun a1 => ∃ s2b s2n s2c, cell h (a1.add 2) = some (.slice s2b s2n s2c) /\ (Rng .i64 (x2 + x29) /\ ((0 <= (x2 + x29) /\ (x2 + x29) < (s2n : Int)) /\ (vSome s2b fun a3 => ∃ s4, cell h ((a3.add (Int.toNat (x2 + x29) * 3)).add 1) = some (S s4) /\ (∃ s5b s5n s5c, cell h ((a3.add (Int.toNat (x2 + x29) * 3)).add 2) = some (.slice s5b s5n s5c) /\ (HCalls Tryz.prog 64 ⟨[.pointer x0, .int .u8 (0 : Int), (.agg ⟨[.int .u8 (0 : Int), S s4, .slice s5b s5n s5c, .bool false, S ([] : List UInt8)]⟩)]⟩ h fun v6 h7 => vInt .i64 v6 fun i8 => stL ((a3.add (Int.toNat (x2 + x29) * 3)).add 0) [.int .i64 i8] 0 h7 fun h9 => Rng .i64 (x29 + (1 : Int)) /\ (K1 x0 x2 x28 (x29 + (1 : Int)) h9))))))) (Ke0 h)
abbrev n5_L (Kn Ke0 Kr : T0) : Nat -> T3 := LP L3 (n5_B Kn Ke0 Kr)
variable (K : Value -> H -> Prop) (h : H)
abbrev asks (x0 : Option Addr) (K : Value -> H -> Prop) (h : H) : Prop := cF L0 (fun Kr => sqF L2 (fun K4 => vSome x0 fun a19 => ∃ s20b s20n s20c, cell h (a19.add 2) = some (.slice s20b s20n s20c) /\ (vSome x0 fun a21 => ∃ s22b s22n s22c, cell h (a21.add 1) = some (.slice s22b s22n s22c) /\ (HCalls Tryz.prog 62 ⟨[.slice s20b s20n s20c, .slice s22b s22n s22c]⟩ h fun v23 h24 => vInt .i64 v23 fun i25 => K4 x0 i25 h24))) fun x0 x2 h => sqF L2 (fun K3 => vSome x0 fun a12 => ∃ s13b s13n s13c, cell h (a12.add 2) = some (.slice s13b s13n s13c) /\ (HCalls Tryz.prog 63 ⟨[.slice s13b s13n s13c]⟩ h fun v14 h15 => vSlice v14 fun s16b s16n s16c => vSome x0 fun a17 => stL (a17.add 2) [.slice s16b s16n s16c] 0 h15 fun h18 => K3 x0 x2 h18)) fun x0 x2 h => sqF L3 (fun K2 => vSome x0 fun a10 => ∃ s11b s11n s11c, cell h (a10.add 2) = some (.slice s11b s11n s11c) /\ ((0 <= x2 /\ x2 <= (s11n : Int) /\ (s11n : Int) <= (s11c : Int)) /\ (K2 x0 x2 (((Int.toNat (s11n : Int) - Int.toNat x2) : Nat) : Int) (0 : Int) h))) fun x0 x2 x28 x29 h => lpF L3 (n5_B Kr Kr Kr) fun K1 => K1 x0 x2 x28 x29 h) fun h => K (.tuple ⟨[]⟩) h
theorem ok (hS : asks x0 K h) : HCalls Tryz.prog 40 ⟨[.pointer x0]⟩ h K :=
  cl Tryz.func40 hS (fun hg hS => sq (l := L2) hg hS fun hg hS => sq (l := L2) hg hS fun hg hS => sq (l := L3) hg hS fun hg hS => bl (b := 0) (lp hg hS fun hg hS => lf hg hS)) fun hg hS => rt hg hS
end Sx.place_World_Rebuild
namespace Sx.place_World_Drop
abbrev L4 : List Sl := [.o 0 .p, .o 4 (.i .i64), .o 12 .b]
abbrev L3 : List Sl := [.o 0 .p, .o 4 (.i .i64)]
abbrev L2 : List Sl := [.o 0 .p, .o 3 .a]
abbrev L0 : List Sl := []
variable (x0 : Option Addr) (x1 : Int)
variable (K : Value -> H -> Prop) (h : H)
abbrev asks (x0 : Option Addr) (x1 : Int) (K : Value -> H -> Prop) (h : H) : Prop := cF L0 (fun Kr => sqF L2 (fun K3 => newx h #[.int .i64 x1] 3 fun a16 h17 => K3 x0 a16 h17) fun x0 x3 h => sqF L3 (fun K2 => vSome x0 fun a11 => ∃ s12b s12n s12c, cell h (a11.add 1) = some (.slice s12b s12n s12c) /\ (HCalls Tryz.prog 183 ⟨[.slice s12b s12n s12c, (.func (.func 194) ⟨[]⟩ ⟨[.pointer (some x3)]⟩)]⟩ h fun v13 h14 => vInt .i64 v13 fun i15 => K2 x0 i15 h14)) fun x0 x4 h => sqF L4 (fun K1 => Spl (x4 > (0 : Int)) (K1 x0 x4 true h) (K1 x0 x4 false h)) fun x0 x4 x12 h => cond x12 (vSome x0 fun a1 => ∃ s2b s2n s2c, cell h (a1.add 1) = some (.slice s2b s2n s2c) /\ (HCalls Tryz.prog 196 ⟨[.slice s2b s2n s2c]⟩ h fun v3 h4 => vSlice v3 fun s5b s5n s5c => Rng .i64 (x4 + (1 : Int)) /\ (HCalls Tryz.prog 195 ⟨[.slice s5b s5n s5c, .int .i64 x4, .int .i64 (x4 + (1 : Int))]⟩ h4 fun v6 h7 => vSlice v6 fun s8b s8n s8c => vSome x0 fun a9 => stL (a9.add 1) [.slice s8b s8n s8c] 0 h7 fun h10 => Kr h10))) (Kr h)) fun h => K (.tuple ⟨[]⟩) h
theorem ok (hS : asks x0 x1 K h) : HCalls Tryz.prog 155 ⟨[.pointer x0, .int .i64 x1]⟩ h K :=
  cl Tryz.func155 hS (fun hg hS => sq hg hS fun hg hS => sq hg hS fun hg hS => sq hg hS fun hg hS => lf hg hS) fun hg hS => rt hg hS
end Sx.place_World_Drop
namespace Sx.slices_IndexFunc_apiOpen
abbrev L2 : List Sl := []
abbrev L3 : List Sl := [.o 0 .l, .o 1 .r, .o 7 (.i .i64), .o 8 (.i .i64)]
abbrev L0 : List Sl := [.o 4 (.i .i64)]
abbrev L1 : List Sl := [.o 0 .l, .o 1 .r]
abbrev T2 := TK L2
abbrev T0 := TK L0
abbrev T3 := TK L3
variable (x0b : Option Addr) (x0n x0c : Nat) (x1 : Value)
abbrev n6_B (Kn Ke0 : T2) (Kr : T0) : T3 -> T3 := fun K2 x0b x0n x0c x1 x7 x8 h => Spl (x8 < x7) ((0 <= x8 /\ x8 < (x0n : Int)) /\ (vSome x0b fun a1 => ∃ i2, cell h (((a1.add (Int.toNat x8 * 4))).add 0) = some (.int .i64 i2) /\ (∃ i3, cell h (((a1.add (Int.toNat x8 * 4))).add 1) = some (.int .u8 i3) /\ (∃ s4, cell h (((a1.add (Int.toNat x8 * 4))).add 2) = some (S s4) /\ (∃ i5, cell h (((a1.add (Int.toNat x8 * 4))).add 3) = some (.int .u8 i5) /\ (CallV Tryz.prog 4 x1 ⟨[(.agg ⟨[.int .i64 i2, .int .u8 i3, S s4, .int .u8 i5]⟩)]⟩ h fun v6 h7 => vBool v6 fun b8 => cond b8 (Kr x8 h7) (Rng .i64 (x8 + (1 : Int)) /\ (K2 x0b x0n x0c x1 x7 (x8 + (1 : Int)) h7)))))))) (Ke0 h)
abbrev n6_L (Kn Ke0 : T2) (Kr : T0) : Nat -> T3 := LP L3 (n6_B Kn Ke0 Kr)
variable (K : Value -> H -> Prop) (h : H)
abbrev asks (x0b : Option Addr) (x0n x0c : Nat) (x1 : Value) (K : Value -> H -> Prop) (h : H) : Prop := cF L0 (fun Kr => sqF L1 (fun K4 => K4 x0b x0n x0c x1 h) fun x0b x0n x0c x1 h => sqF L2 (fun K1 => sqF L3 (fun K3 => K3 x0b x0n x0c x1 (x0n : Int) (0 : Int) h) fun x0b x0n x0c x1 x7 x8 h => lpF L3 (n6_B K1 K1 Kr) fun K2 => K2 x0b x0n x0c x1 x7 x8 h) fun h => Kr (-1 : Int) h) fun y4 h => K (.int .i64 y4) h
theorem ok (hS : asks x0b x0n x0c x1 K h) : HCalls Tryz.prog 183 ⟨[.slice x0b x0n x0c, x1]⟩ h K :=
  cl Tryz.func183 hS (fun hg hS => sq (l := L1) hg hS fun hg hS => sc (l := L2) hS (fun hS => sq (l := L3) hg hS fun hg hS => bl (b := 0) (lp hg hS fun hg hS => lf hg hS)) fun hg hS => lf hg hS) fun hg hS => rt hg hS
end Sx.slices_IndexFunc_apiOpen
namespace Sx.place_World_Drop_1
abbrev L0 : List Sl := [.o 3 .b]
variable (x0_0 x0_1 : Int) (x0_2 : List UInt8) (x0_3 : Int) (x1 : Addr)
variable (K : Value -> H -> Prop) (h : H)
abbrev asks : Prop := cF L0 (fun Kr => newx h ⟨[.int .i64 x0_0, .int .u8 x0_1, S x0_2, .int .u8 x0_3]⟩ 77 fun a1 h2 => ∃ i3, cell h2 (a1.add 0) = some (.int .i64 i3) /\ (∃ i4, cell h2 x1 = some (.int .i64 i4) /\ (Spl (i3 = i4) (Kr true h2) (Kr false h2)))) fun y3 h => K (.bool y3) h
theorem ok (hS : asks x0_0 x0_1 x0_2 x0_3 x1 K h) : HCalls Tryz.prog 194 ⟨[(.agg ⟨[.int .i64 x0_0, .int .u8 x0_1, S x0_2, .int .u8 x0_3]⟩), .pointer (some x1)]⟩ h K :=
  cl Tryz.func194 hS (fun hg hS => lf hg hS) fun hg hS => rt hg hS
end Sx.place_World_Drop_1
namespace Sx.slices_Delete_apiOpen
abbrev L0 : List Sl := [.o 6 .l]
variable (x0b : Option Addr) (x0n x0c : Nat) (x1 x2 : Int)
variable (K : Value -> H -> Prop) (h : H)
abbrev asks : Prop := cF L0 (fun Kr => (0 <= x1 /\ x1 <= x2 /\ x2 <= (x0n : Int) /\ (x0n : Int) <= (x0c : Int)) /\ (Spl (x1 = x2) (Kr x0b x0n x0c h) ((0 <= (0 : Int) /\ (0 : Int) <= x1 /\ x1 <= (x0c : Int)) /\ ((0 <= x2 /\ x2 <= (x0n : Int) /\ (x0n : Int) <= (x0c : Int)) /\ (SemH Tryz.prog (Builtin.append_ #[39, 39] 39 ⟨[(.slice (if x0c = Int.toNat (0 : Int) then x0b else Option.map (fun q => q.add (Int.toNat (0 : Int) * 4)) x0b) (Int.toNat x1 - Int.toNat (0 : Int)) (x0c - Int.toNat (0 : Int))), (.slice (if x0c = Int.toNat x2 then x0b else Option.map (fun q => q.add (Int.toNat x2 * 4)) x0b) (Int.toNat (x0n : Int) - Int.toNat x2) (x0c - Int.toNat x2))]⟩) h fun v1 h2 => vSlice v1 fun s3b s3n s3c => (0 <= (s3n : Int) /\ (s3n : Int) <= (x0n : Int) /\ (x0n : Int) <= (s3c : Int)) /\ (SemH Tryz.prog (Builtin.clear_ #[39] 0 ⟨[(.slice (if s3c = Int.toNat (s3n : Int) then s3b else Option.map (fun q => q.add (Int.toNat (s3n : Int) * 4)) s3b) (Int.toNat (x0n : Int) - Int.toNat (s3n : Int)) (s3c - Int.toNat (s3n : Int)))]⟩) h2 fun v4 h5 => Kr s3b s3n s3c h5)))))) fun y6b y6n y6c h => K (.slice y6b y6n y6c) h
theorem ok (hS : asks x0b x0n x0c x1 x2 K h) : HCalls Tryz.prog 195 ⟨[.slice x0b x0n x0c, .int .i64 x1, .int .i64 x2]⟩ h K :=
  cl Tryz.func195 hS (fun hg hS => lf hg hS) fun hg hS => rt hg hS
end Sx.slices_Delete_apiOpen
namespace Sx.slices_Clone_apiOpen
abbrev L0 : List Sl := [.o 2 .l]
variable (x0b : Option Addr) (x0n x0c : Nat)
variable (K : Value -> H -> Prop) (h : H)
abbrev asks : Prop := cF L0 (fun Kr => SemH Tryz.prog (binS .eql 39 (.tmp 3) (.const (.slice none 0 0)) (.slice x0b x0n x0c) (.slice none 0 0)) h fun v1 h2 => vBool v1 fun b3 => cond b3 (Kr none 0 0 h2) (newx h2 #[] 77 fun a4 h5 => SemH Tryz.prog (Builtin.append_ #[39, 39] 39 ⟨[.slice (some a4) 0 0, .slice x0b x0n x0c]⟩) h5 fun v6 h7 => vSlice v6 fun s8b s8n s8c => Kr s8b s8n s8c h7)) fun y2b y2n y2c h => K (.slice y2b y2n y2c) h
theorem ok (hS : asks x0b x0n x0c K h) : HCalls Tryz.prog 196 ⟨[.slice x0b x0n x0c]⟩ h K :=
  cl Tryz.func196 hS (fun hg hS => lf hg hS) fun hg hS => rt hg hS
end Sx.slices_Clone_apiOpen
end Go.Proofs
