/- The shallow forms of functions, printed by sh.py out of the translation; each with its proof. No condition. -/
import Derived.Test.YtakddeombdgdgaaGreatShQ
import Derived.Test.YtakddeombdgdgaaGreatProg
namespace Go.Proofs
open Go Go.Sh
set_option linter.unusedVariables false
set_option maxRecDepth 100000
namespace Sx.r13_New
abbrev L0 : List Sl := [.o 0 .p]
variable (K : Value -> H -> Prop) (h : H)
abbrev asks : Prop := cF L0 (fun Kr => HCalls Tryz.prog 23 ⟨[]⟩ h fun v1 h2 => vPtr v1 fun p3 => newx h2 #[.int .i64 (0 : Int), .int .u8 (0 : Int), (S ([104, 116, 109, 108] : List UInt8)), .int .u8 (0 : Int)] 60 fun a4 h5 => newx h5 ⟨[.pointer p3, .slice (some a4) 1 1, .slice none 0 0, .bool false, .int .i64 (1 : Int)]⟩ 42 fun a6 h7 => Kr (some a6) h7) fun y0 h => K (.pointer y0) h
theorem ok (hS : asks K h) : HCalls Tryz.prog 7 ⟨[]⟩ h K :=
  cl Tryz.func7 hS (fun hg hS => lf hg hS) fun hg hS => rt hg hS
end Sx.r13_New
namespace Sx.r13_World_Insert
abbrev L0 : List Sl := [.o 6 (.i .i64)]
abbrev L5 : List Sl := [.o 0 .p, .o 1 (.i .u8), .o 5 .a, .o 9 (.i .i64)]
abbrev L4 : List Sl := [.o 0 .p, .o 1 (.i .u8), .o 5 .a, .o 7 (.i .i64), .o 8 (.i .i64), .o 9 (.i .i64)]
abbrev L3 : List Sl := [.o 0 .p, .o 1 (.i .u8), .o 5 .a, .o 7 (.i .i64), .o 8 (.i .i64)]
abbrev L2 : List Sl := [.o 0 .p, .o 1 (.i .u8), .o 5 .a]
abbrev T0 := TK L0
variable (x0 : Option Addr) (x1 x2_0 : Int) (x2_1 : List UInt8) (x2_2b : Option Addr) (x2_2n x2_2c : Nat) (x2_3 : Bool) (x2_4 : List UInt8) (x5 : Addr) (x9 : Int)
abbrev n5 (Kn Kr : T0) (h : H) : Prop :=
  vSome x0 fun a1 => ∃ s2b s2n s2c, cell h (a1.add 1) = some (.slice s2b s2n s2c) /\ (∃ s3, cell h (x5.add 1) = some (S s3) /\ (∃ i4, cell h (x5.add 0) = some (.int .u8 i4) /\ (∃ s5, cell h (x5.add 1) = some (S s5) /\ (∃ s6b s6n s6c, cell h (x5.add 2) = some (.slice s6b s6n s6c) /\ (∃ b7, cell h (x5.add 3) = some (.bool b7) /\ (∃ s8, cell h (x5.add 4) = some (S s8) /\ (HCalls Tryz.prog 33 ⟨[.int .u8 x1, (.agg ⟨[.int .u8 i4, S s5, .slice s6b s6n s6c, .bool b7, S s8]⟩)]⟩ h fun v9 h10 => vInt .u8 v9 fun i11 => ExtH h h10 /\ (newx h10 #[.int .i64 x9, .int .u8 x1, S s3, .int .u8 i11] 60 fun a12 h13 => ExtH h10 h13 /\ (SemH Tryz.prog (Builtin.append_ #[40, 40] 40 ⟨[.slice s2b s2n s2c, .slice (some a12) 1 1]⟩) h13 fun v14 h15 => vSlice v14 fun s16b s16n s16c => vSome x0 fun a17 => stL (a17.add 1) [.slice s16b s16n s16c] 0 h15 fun h18 => vSome x0 fun a19 => ∃ i20, cell h18 (a19.add 4) = some (.int .i64 i20) /\ (vSome x0 fun a21 => ∃ s22b s22n s22c, cell h18 (a21.add 1) = some (.slice s22b s22n s22c) /\ (vSome x0 fun a23 => stL (a23.add 4) [.int .i64 (if (s22n : Int) > i20 then (s22n : Int) else i20)] 0 h18 fun h24 => Kr x9 h24)))))))))))
variable (K : Value -> H -> Prop) (h : H)
abbrev asks (x0 : Option Addr) (x1 x2_0 : Int) (x2_1 : List UInt8) (x2_2b : Option Addr) (x2_2n x2_2c : Nat) (x2_3 : Bool) (x2_4 : List UInt8) (K : Value -> H -> Prop) (h : H) : Prop := cF L0 (fun Kr => sqF L2 (fun K4 => newx h ⟨[.int .u8 x2_0, S x2_1, .slice x2_2b x2_2n x2_2c, .bool x2_3, S x2_4]⟩ 33 fun a61 h62 => K4 x0 x1 a61 h62) fun x0 x1 x5 h => sqF L3 (fun K3 => HCalls Tryz.prog 30 ⟨[.pointer x0]⟩ h fun v37 h38 => vAgg v37 fun l39 => uncons l39 fun e40 l41 => vInt .i64 e40 fun i42 => uncons l41 fun e43 l44 => vInt .u8 e43 fun i45 => uncons l44 fun e46 l47 => vStr e46 fun s48 => uncons l47 fun e49 l50 => vInt .u8 e49 fun i51 => unnil l50 (HCalls Tryz.prog 29 ⟨[.pointer x0, (.agg ⟨[.int .i64 i42, .int .u8 i45, S s48, .int .u8 i51]⟩)]⟩ h38 fun v52 h53 => vTup v52 fun l54 => uncons l54 fun e55 l56 => vInt .i64 e55 fun i57 => uncons l56 fun e58 l59 => vInt .i64 e58 fun i60 => unnil l59 (K3 x0 x1 x5 i57 i60 h53))) fun x0 x1 x5 x7 x8 h => sqF L4 (fun K2 => vSome x0 fun a30 => ∃ p31, cell h (a30.add 0) = some (.pointer p31) /\ (∃ s32, cell h (x5.add 1) = some (S s32) /\ (∃ s33b s33n s33c, cell h (x5.add 2) = some (.slice s33b s33n s33c) /\ (HCalls Tryz.prog 31 ⟨[.pointer p31, (.agg ⟨[.int .u8 (1 : Int), .int .u8 x1, S s32, .slice s33b s33n s33c, S ([] : List UInt8), .slice none 0 0]⟩)]⟩ h fun v34 h35 => vInt .i64 v34 fun i36 => K2 x0 x1 x5 x7 x8 i36 h35)))) fun x0 x1 x5 x7 x8 x9 h => sqF L5 (fun K1 => vSome x0 fun a25 => ∃ p26, cell h (a25.add 0) = some (.pointer p26) /\ (HCalls Tryz.prog 32 ⟨[.pointer p26, .int .i64 x7, .int .i64 x8, .int .i64 x9]⟩ h fun v27 h28 => vBool v27 fun b29 => cond b29 (K1 x0 x1 x5 x9 h28) (K1 x0 x1 x5 x9 h28))) fun x0 x1 x5 x9 h => n5 x0 x1 x5 x9 Kr Kr h) fun y6 h => K (.int .i64 y6) h
theorem ok (hS : asks x0 x1 x2_0 x2_1 x2_2b x2_2n x2_2c x2_3 x2_4 K h) : HCalls Tryz.prog 9 ⟨[.pointer x0, .int .u8 x1, (.agg ⟨[.int .u8 x2_0, S x2_1, .slice x2_2b x2_2n x2_2c, .bool x2_3, S x2_4]⟩)]⟩ h K :=
  cl Tryz.func9 hS (fun hg hS => sq (l := L2) hg hS fun hg hS => sq (l := L3) hg hS fun hg hS => sq (l := L4) hg hS fun hg hS => sq (l := L5) hg hS fun hg hS => lf hg hS) fun hg hS => rt hg hS
end Sx.r13_World_Insert
namespace Sx.r13_World_Current
abbrev L0 : List Sl := [.o 2 .a]
variable (x0 : Option Addr)
variable (K : Value -> H -> Prop) (h : H)
abbrev asks : Prop := cF L0 (fun Kr => newx h ⟨[.int .i64 (0 : Int), .int .u8 (0 : Int), S ([] : List UInt8), .int .u8 (0 : Int)]⟩ 60 fun a1 h2 => vSome x0 fun a3 => ∃ s4b s4n s4c, cell h2 (a3.add 1) = some (.slice s4b s4n s4c) /\ (vSome x0 fun a5 => ∃ s6b s6n s6c, cell h2 (a5.add 1) = some (.slice s6b s6n s6c) /\ (Rng .i64 ((s6n : Int) - (1 : Int)) /\ ((0 <= ((s6n : Int) - (1 : Int)) /\ ((s6n : Int) - (1 : Int)) < (s4n : Int)) /\ (vSome s4b fun a7 => ∃ i8, cell h2 (((a7.add (Int.toNat ((s6n : Int) - (1 : Int)) * 4))).add 0) = some (.int .i64 i8) /\ (∃ i9, cell h2 (((a7.add (Int.toNat ((s6n : Int) - (1 : Int)) * 4))).add 1) = some (.int .u8 i9) /\ (∃ s10, cell h2 (((a7.add (Int.toNat ((s6n : Int) - (1 : Int)) * 4))).add 2) = some (S s10) /\ (∃ i11, cell h2 (((a7.add (Int.toNat ((s6n : Int) - (1 : Int)) * 4))).add 3) = some (.int .u8 i11) /\ (stL a1 [.int .i64 i8, .int .u8 i9, S s10, .int .u8 i11] 0 h2 fun h12 => Kr a1 h12))))))))) fun y2 h => ∃ i13, cell h ((y2).add 0) = some (.int .i64 i13) /\ (∃ i14, cell h ((y2).add 1) = some (.int .u8 i14) /\ (∃ s15, cell h ((y2).add 2) = some (S s15) /\ (∃ i16, cell h ((y2).add 3) = some (.int .u8 i16) /\ (K (.agg ⟨[.int .i64 i13, .int .u8 i14, S s15, .int .u8 i16]⟩) h))))
theorem ok (hS : asks x0 K h) : HCalls Tryz.prog 30 ⟨[.pointer x0]⟩ h K :=
  cl Tryz.func30 hS (fun hg hS => lf hg hS) fun hg hS => rt hg hS
end Sx.r13_World_Current
namespace Sx.r13_World_Write
abbrev L0 : List Sl := []
variable (x0 : Option Addr) (x1 : List UInt8)
variable (K : Value -> H -> Prop) (h : H)
abbrev asks : Prop := cF L0 (fun Kr => HCalls Tryz.prog 30 ⟨[.pointer x0]⟩ h fun v1 h2 => vAgg v1 fun l3 => uncons l3 fun e4 l5 => vInt .i64 e4 fun i6 => uncons l5 fun e7 l8 => vInt .u8 e7 fun i9 => uncons l8 fun e10 l11 => vStr e10 fun s12 => uncons l11 fun e13 l14 => vInt .u8 e13 fun i15 => unnil l14 (HCalls Tryz.prog 29 ⟨[.pointer x0, (.agg ⟨[.int .i64 i6, .int .u8 i9, S s12, .int .u8 i15]⟩)]⟩ h2 fun v16 h17 => vTup v16 fun l18 => uncons l18 fun e19 l20 => vInt .i64 e19 fun i21 => uncons l20 fun e22 l23 => vInt .i64 e22 fun i24 => unnil l23 (vSome x0 fun a25 => ∃ p26, cell h17 (a25.add 0) = some (.pointer p26) /\ (HCalls Tryz.prog 37 ⟨[.pointer p26, .int .i64 i21, .int .i64 i24, S x1]⟩ h17 fun v27 h28 => vBool v27 fun b29 => cond b29 (Kr h28) (Kr h28))))) fun h => K (.tuple ⟨[]⟩) h
theorem ok (hS : asks x0 x1 K h) : HCalls Tryz.prog 12 ⟨[.pointer x0, S x1]⟩ h K :=
  cl Tryz.func12 hS (fun hg hS => lf hg hS) fun hg hS => rt hg hS
end Sx.r13_World_Write
namespace Sx.r13_World_Close
abbrev L2 : List Sl := [.o 0 .p, .o 1 (.i .i64), .o 14 .b]
abbrev L0 : List Sl := []
variable (x0 : Option Addr) (x1 : Int)
variable (K : Value -> H -> Prop) (h : H)
abbrev asks (x0 : Option Addr) (x1 : Int) (K : Value -> H -> Prop) (h : H) : Prop := cF L0 (fun Kr => sqF L2 (fun K1 => Spl (x1 ≥ (1 : Int)) (vSome x0 fun a5 => ∃ s6b s6n s6c, cell h (a5.add 1) = some (.slice s6b s6n s6c) /\ (Spl (x1 < (s6n : Int)) (K1 x0 x1 true h) (K1 x0 x1 false h))) (K1 x0 x1 false h)) fun x0 x1 x14 h => cond x14 (vSome x0 fun a1 => ∃ s2b s2n s2c, cell h (a1.add 1) = some (.slice s2b s2n s2c) /\ ((0 <= (0 : Int) /\ (0 : Int) <= x1 /\ x1 <= (s2c : Int)) /\ (vSome x0 fun a3 => stL (a3.add 1) [(.slice (if s2c = Int.toNat (0 : Int) then s2b else Option.map (fun q => q.add (Int.toNat (0 : Int) * 4)) s2b) (Int.toNat x1 - Int.toNat (0 : Int)) (s2c - Int.toNat (0 : Int)))] 0 h fun h4 => Kr h4))) (Kr h)) fun h => K (.tuple ⟨[]⟩) h
theorem ok (hS : asks x0 x1 K h) : HCalls Tryz.prog 46 ⟨[.pointer x0, .int .i64 x1]⟩ h K :=
  cl Tryz.func46 hS (fun hg hS => sq hg hS fun hg hS => lf hg hS) fun hg hS => rt hg hS
end Sx.r13_World_Close
namespace Sx.r13_World_Where
abbrev L5 : List Sl := [.o 0 .p, .o 7 (.i .i64)]
abbrev L4 : List Sl := [.o 0 .p]
abbrev L0 : List Sl := [.o 4 (.i .i64), .o 5 (.i .i64)]
abbrev L3 : List Sl := [.o 0 .p, .o 3 .a, .o 6 .b]
abbrev L2 : List Sl := [.o 0 .p, .o 3 .a]
abbrev T0 := TK L0
variable (x0 : Option Addr) (x1_0 x1_1 : Int) (x1_2 : List UInt8) (x1_3 : Int) (x3 : Addr) (x6 : Bool)
abbrev n3 (x0 : Option Addr) (x3 : Addr) (x6 : Bool) (Kn Kr : T0) (h : H) : Prop :=
  sqF L4 (fun K3 => vSome x0 fun a25 => ∃ b26, cell h (a25.add 3) = some (.bool b26) /\ (cond b26 (∃ i27, cell h (x3.add 1) = some (.int .u8 i27) /\ (Spl (i27 = (0 : Int)) (cond x6 (K3 x0 h) (∃ i28, cell h (x3.add 0) = some (.int .i64 i28) /\ (Kr i28 (-1 : Int) h))) (∃ i29, cell h (x3.add 0) = some (.int .i64 i29) /\ (Kr i29 (-1 : Int) h)))) (∃ i30, cell h (x3.add 0) = some (.int .i64 i30) /\ (Kr i30 (-1 : Int) h)))) fun x0 h => sqF L5 (fun K2 => vSome x0 fun a18 => ∃ s19b s19n s19c, cell h (a18.add 1) = some (.slice s19b s19n s19c) /\ (newx h #[(S ([116, 97, 98, 108, 101] : List UInt8))] 9 fun a20 h21 => HCalls Tryz.prog 71 ⟨[.slice s19b s19n s19c, .slice (some a20) 1 1]⟩ h21 fun v22 h23 => vInt .i64 v22 fun i24 => K2 x0 i24 h23)) fun x0 x7 h => sqF L5 (fun K1 => Spl (x7 < (0 : Int)) (Kr (0 : Int) (-1 : Int) h) (K1 x0 x7 h)) fun x0 x7 h => vSome x0 fun a1 => ∃ p2, cell h (a1.add 0) = some (.pointer p2) /\ (vSome x0 fun a3 => ∃ s4b s4n s4c, cell h (a3.add 1) = some (.slice s4b s4n s4c) /\ ((0 <= x7 /\ x7 < (s4n : Int)) /\ (vSome s4b fun a5 => ∃ i6, cell h ((a5.add (Int.toNat x7 * 4)).add 0) = some (.int .i64 i6) /\ (HCalls Tryz.prog 72 ⟨[.pointer p2, .int .i64 i6]⟩ h fun v7 h8 => vInt .i64 v7 fun i9 => Spl (i9 ≥ (0 : Int)) (vSome x0 fun a10 => ∃ s11b s11n s11c, cell h8 (a10.add 1) = some (.slice s11b s11n s11c) /\ ((0 <= x7 /\ x7 < (s11n : Int)) /\ (vSome s11b fun a12 => ∃ i13, cell h8 ((a12.add (Int.toNat x7 * 4)).add 0) = some (.int .i64 i13) /\ (Kr i9 i13 h8)))) (vSome x0 fun a14 => ∃ s15b s15n s15c, cell h8 (a14.add 1) = some (.slice s15b s15n s15c) /\ (Rng .i64 (x7 - (1 : Int)) /\ ((0 <= (if (0 : Int) > (x7 - (1 : Int)) then (0 : Int) else (x7 - (1 : Int))) /\ (if (0 : Int) > (x7 - (1 : Int)) then (0 : Int) else (x7 - (1 : Int))) < (s15n : Int)) /\ (vSome s15b fun a16 => ∃ i17, cell h8 ((a16.add (Int.toNat (if (0 : Int) > (x7 - (1 : Int)) then (0 : Int) else (x7 - (1 : Int))) * 4)).add 0) = some (.int .i64 i17) /\ (Kr i17 (-1 : Int) h8)))))))))
variable (K : Value -> H -> Prop) (h : H)
abbrev asks (x0 : Option Addr) (x1_0 x1_1 : Int) (x1_2 : List UInt8) (x1_3 : Int) (K : Value -> H -> Prop) (h : H) : Prop := cF L0 (fun Kr => sqF L2 (fun K5 => newx h ⟨[.int .i64 x1_0, .int .u8 x1_1, S x1_2, .int .u8 x1_3]⟩ 60 fun a36 h37 => K5 x0 a36 h37) fun x0 x3 h => sqF L3 (fun K4 => ∃ s31, cell h (x3.add 2) = some (S s31) /\ (Spl (s31 = ([116, 97, 98, 108, 101] : List UInt8)) (K4 x0 x3 true h) (∃ s32, cell h (x3.add 2) = some (S s32) /\ (Spl (s32 = ([116, 98, 111, 100, 121] : List UInt8)) (K4 x0 x3 true h) (∃ s33, cell h (x3.add 2) = some (S s33) /\ (Spl (s33 = ([116, 102, 111, 111, 116] : List UInt8)) (K4 x0 x3 true h) (∃ s34, cell h (x3.add 2) = some (S s34) /\ (Spl (s34 = ([116, 104, 101, 97, 100] : List UInt8)) (K4 x0 x3 true h) (∃ s35, cell h (x3.add 2) = some (S s35) /\ (Spl (s35 = ([116, 114] : List UInt8)) (K4 x0 x3 true h) (K4 x0 x3 false h))))))))))) fun x0 x3 x6 h => n3 x0 x3 x6 Kr Kr h) fun y4 y5 h => K (.tuple ⟨[.int .i64 y4, .int .i64 y5]⟩) h
theorem ok (hS : asks x0 x1_0 x1_1 x1_2 x1_3 K h) : HCalls Tryz.prog 29 ⟨[.pointer x0, (.agg ⟨[.int .i64 x1_0, .int .u8 x1_1, S x1_2, .int .u8 x1_3]⟩)]⟩ h K :=
  cl Tryz.func29 hS (fun hg hS => sq (l := L2) hg hS fun hg hS => sq (l := L3) hg hS fun hg hS => sq (l := L4) hg hS fun hg hS => sq (l := L5) hg hS fun hg hS => sq (l := L5) hg hS fun hg hS => lf hg hS) fun hg hS => rt hg hS
end Sx.r13_World_Where
namespace Sx.r13_point
abbrev L0 : List Sl := [.o 4 (.i .u8)]
abbrev L4 : List Sl := []
abbrev L10 : List Sl := [.o 3 .a, .o 5 .s, .o 6 (.i .i64)]
abbrev L9 : List Sl := [.o 3 .a, .o 5 .s]
abbrev L8 : List Sl := [.o 3 .a, .o 5 .s, .o 23 .b]
abbrev L6 : List Sl := [.o 3 .a, .o 5 .s, .o 10 (.i .u8), .o 11 .b]
abbrev L5 : List Sl := [.o 3 .a, .o 5 .s, .o 10 (.i .u8)]
abbrev L3 : List Sl := [.o 0 (.i .u8), .o 3 .a, .o 5 .s]
abbrev L2 : List Sl := [.o 0 (.i .u8), .o 3 .a]
abbrev T0 := TK L0
abbrev T4 := TK L4
abbrev T10 := TK L10
variable (x0 x1_0 : Int) (x1_1 : List UInt8) (x1_2b : Option Addr) (x1_2n x1_2c : Nat) (x1_3 : Bool) (x1_4 : List UInt8)
abbrev n4 (Kn Kr : T0) (h : H) : Prop :=
  Kr (0 : Int) h
abbrev n15_B (Kn Ke1 Ke0 : T4) (Kr : T0) : T10 -> T10 := fun K2 x3 x5 x6 h => ∃ s1b s1n s1c, cell h (x3.add 2) = some (.slice s1b s1n s1c) /\ (Spl (x6 < (s1n : Int)) (Spl (x5 = ([97, 110, 110, 111, 116, 97, 116, 105, 111, 110, 45, 120, 109, 108] : List UInt8)) (∃ s2b s2n s2c, cell h (x3.add 2) = some (.slice s2b s2n s2c) /\ ((0 <= x6 /\ x6 < (s2n : Int)) /\ (vSome s2b fun a3 => ∃ s4, cell h ((a3.add (Int.toNat x6 * 2)).add 1) = some (S s4) /\ (HCalls Tryz.prog 79 ⟨[S s4]⟩ h fun v5 h6 => vStr v5 fun s7 => ∃ s8b s8n s8c, cell h6 (x3.add 2) = some (.slice s8b s8n s8c) /\ ((0 <= x6 /\ x6 < (s8n : Int)) /\ (vSome s8b fun a9 => ∃ s10, cell h6 ((a9.add (Int.toNat x6 * 2)).add 0) = some (S s10) /\ (Spl (s10 = ([101, 110, 99, 111, 100, 105, 110, 103] : List UInt8)) (Spl (s7 = ([116, 101, 120, 116, 47, 104, 116, 109, 108] : List UInt8)) (Kr (2 : Int) h6) (Spl (s7 = ([97, 112, 112, 108, 105, 99, 97, 116, 105, 111, 110, 47, 120, 104, 116, 109, 108, 43, 120, 109, 108] : List UInt8)) (Kr (2 : Int) h6) (Rng .i64 (x6 + (1 : Int)) /\ (K2 x3 x5 (x6 + (1 : Int)) h6)))) (Rng .i64 (x6 + (1 : Int)) /\ (K2 x3 x5 (x6 + (1 : Int)) h6))))))))) (Ke1 h)) (Ke1 h))
abbrev n15_L (Kn Ke1 Ke0 : T4) (Kr : T0) : Nat -> T10 := LP L10 (n15_B Kn Ke1 Ke0 Kr)
variable (K : Value -> H -> Prop) (h : H)
abbrev asks (x0 x1_0 : Int) (x1_1 : List UInt8) (x1_2b : Option Addr) (x1_2n x1_2c : Nat) (x1_3 : Bool) (x1_4 : List UInt8) (K : Value -> H -> Prop) (h : H) : Prop := cF L0 (fun Kr => sqF L2 (fun K9 => newx h ⟨[.int .u8 x1_0, S x1_1, .slice x1_2b x1_2n x1_2c, .bool x1_3, S x1_4]⟩ 33 fun a12 h13 => K9 x0 a12 h13) fun x0 x3 h => sqF L3 (fun K8 => ∃ s11, cell h (x3.add 1) = some (S s11) /\ (K8 x0 x3 s11 h)) fun x0 x3 x5 h => sqF L4 (fun K1 => sqF L5 (fun K7 => K7 x3 x5 x0 h) fun x3 x5 x10 h => sqF L6 (fun K6 => Spl (x10 = (1 : Int)) (K6 x3 x5 x10 true h) (K6 x3 x5 x10 false h)) fun x3 x5 x10 x11 h => cond x11 (Spl (x5 = ([100, 101, 115, 99] : List UInt8)) (Kr (2 : Int) h) (Spl (x5 = ([102, 111, 114, 101, 105, 103, 110, 79, 98, 106, 101, 99, 116] : List UInt8)) (Kr (2 : Int) h) (Spl (x5 = ([116, 105, 116, 108, 101] : List UInt8)) (Kr (2 : Int) h) (K1 h)))) (sqF L8 (fun K5 => Spl (x10 = (2 : Int)) (K5 x3 x5 true h) (K5 x3 x5 false h)) fun x3 x5 x23 h => cond x23 (sqF L9 (fun K4 => Spl (x5 = ([109, 105] : List UInt8)) (Kr (1 : Int) h) (Spl (x5 = ([109, 110] : List UInt8)) (Kr (1 : Int) h) (Spl (x5 = ([109, 111] : List UInt8)) (Kr (1 : Int) h) (Spl (x5 = ([109, 115] : List UInt8)) (Kr (1 : Int) h) (Spl (x5 = ([109, 116, 101, 120, 116] : List UInt8)) (Kr (1 : Int) h) (K4 x3 x5 h)))))) fun x3 x5 h => sqF L10 (fun K3 => K3 x3 x5 (0 : Int) h) fun x3 x5 x6 h => lpF L10 (n15_B K1 K1 K1 Kr) fun K2 => K2 x3 x5 x6 h) (K1 h))) fun h => n4 Kr Kr h) fun y4 h => K (.int .u8 y4) h
theorem ok (hS : asks x0 x1_0 x1_1 x1_2b x1_2n x1_2c x1_3 x1_4 K h) : HCalls Tryz.prog 33 ⟨[.int .u8 x0, (.agg ⟨[.int .u8 x1_0, S x1_1, .slice x1_2b x1_2n x1_2c, .bool x1_3, S x1_4]⟩)]⟩ h K :=
  cl Tryz.func33 hS (fun hg hS => sq (l := L2) hg hS fun hg hS => sq (l := L3) hg hS fun hg hS => sc (l := L4) hS (fun hS => sq (l := L5) hg hS fun hg hS => bl (b := 0) (sq (l := L6) hg hS fun hg hS => cn (i := 11) hg hS (fun hg hS => lf hg hS) fun hg hS => sq (l := L8) hg hS fun hg hS => cn (i := 23) hg hS (fun hg hS => sq (l := L9) hg hS fun hg hS => sq (l := L10) hg hS fun hg hS => bl (b := 1) (lp hg hS fun hg hS => lf hg hS)) fun hg hS => lf hg hS)) fun hg hS => lf hg hS) fun hg hS => rt hg hS
end Sx.r13_point
namespace Sx.r11_Until
abbrev L2 : List Sl := []
abbrev L3 : List Sl := [.o 0 .l, .o 1 .l, .o 5 (.i .i64)]
abbrev L0 : List Sl := [.o 4 (.i .i64)]
abbrev L1 : List Sl := [.o 0 .l, .o 1 .l]
abbrev T2 := TK L2
abbrev T0 := TK L0
abbrev T3 := TK L3
variable (x0b : Option Addr) (x0n x0c : Nat) (x1b : Option Addr) (x1n x1c : Nat)
abbrev n6_B (Kn Ke0 : T2) (Kr : T0) : T3 -> T3 := fun K2 x0b x0n x0c x1b x1n x1c x5 h => Spl (x5 ≥ (0 : Int)) ((0 <= x5 /\ x5 < (x0n : Int)) /\ (vSome x0b fun a1 => ∃ i2, cell h (((a1.add (Int.toNat x5 * 4))).add 0) = some (.int .i64 i2) /\ (∃ i3, cell h (((a1.add (Int.toNat x5 * 4))).add 1) = some (.int .u8 i3) /\ (∃ s4, cell h (((a1.add (Int.toNat x5 * 4))).add 2) = some (S s4) /\ (∃ i5, cell h (((a1.add (Int.toNat x5 * 4))).add 3) = some (.int .u8 i5) /\ (HCalls Tryz.prog 100 ⟨[(.agg ⟨[.int .i64 i2, .int .u8 i3, S s4, .int .u8 i5]⟩), .slice x1b x1n x1c]⟩ h fun v6 h7 => vBool v6 fun b8 => cond b8 (Kr x5 h7) (Rng .i64 (x5 - (1 : Int)) /\ (K2 x0b x0n x0c x1b x1n x1c (x5 - (1 : Int)) h7)))))))) (Ke0 h)
abbrev n6_L (Kn Ke0 : T2) (Kr : T0) : Nat -> T3 := LP L3 (n6_B Kn Ke0 Kr)
variable (K : Value -> H -> Prop) (h : H)
abbrev asks (x0b : Option Addr) (x0n x0c : Nat) (x1b : Option Addr) (x1n x1c : Nat) (K : Value -> H -> Prop) (h : H) : Prop := cF L0 (fun Kr => sqF L1 (fun K4 => K4 x0b x0n x0c x1b x1n x1c h) fun x0b x0n x0c x1b x1n x1c h => sqF L2 (fun K1 => sqF L3 (fun K3 => Rng .i64 ((x0n : Int) - (1 : Int)) /\ (K3 x0b x0n x0c x1b x1n x1c ((x0n : Int) - (1 : Int)) h)) fun x0b x0n x0c x1b x1n x1c x5 h => lpF L3 (n6_B K1 K1 Kr) fun K2 => K2 x0b x0n x0c x1b x1n x1c x5 h) fun h => Kr (-1 : Int) h) fun y4 h => K (.int .i64 y4) h
theorem ok (hS : asks x0b x0n x0c x1b x1n x1c K h) : HCalls Tryz.prog 71 ⟨[.slice x0b x0n x0c, .slice x1b x1n x1c]⟩ h K :=
  cl Tryz.func71 hS (fun hg hS => sq (l := L1) hg hS fun hg hS => sc (l := L2) hS (fun hS => sq (l := L3) hg hS fun hg hS => bl (b := 0) (lp hg hS fun hg hS => lf hg hS)) fun hg hS => lf hg hS) fun hg hS => rt hg hS
end Sx.r11_Until
namespace Sx.r11_one
abbrev L0 : List Sl := [.o 4 .b]
variable (x0_0 x0_1 : Int) (x0_2 : List UInt8) (x0_3 : Int) (x1b : Option Addr) (x1n x1c : Nat)
variable (K : Value -> H -> Prop) (h : H)
abbrev asks : Prop := cF L0 (fun Kr => newx h ⟨[.int .i64 x0_0, .int .u8 x0_1, S x0_2, .int .u8 x0_3]⟩ 60 fun a1 h2 => ∃ i3, cell h2 (a1.add 1) = some (.int .u8 i3) /\ (Spl (i3 = (0 : Int)) (∃ s4, cell h2 (a1.add 2) = some (S s4) /\ (HCalls Tryz.prog 93 ⟨[.slice x1b x1n x1c, S s4]⟩ h2 fun v5 h6 => vBool v5 fun b7 => cond b7 (Kr true h6) (Kr false h6))) (Kr false h2))) fun y4 h => K (.bool y4) h
theorem ok (hS : asks x0_0 x0_1 x0_2 x0_3 x1b x1n x1c K h) : HCalls Tryz.prog 100 ⟨[(.agg ⟨[.int .i64 x0_0, .int .u8 x0_1, S x0_2, .int .u8 x0_3]⟩), .slice x1b x1n x1c]⟩ h K :=
  cl Tryz.func100 hS (fun hg hS => lf hg hS) fun hg hS => rt hg hS
end Sx.r11_one
namespace Sx.r11_in
abbrev L2 : List Sl := []
abbrev L3 : List Sl := [.o 0 .l, .o 1 .s, .o 5 (.i .i64)]
abbrev L0 : List Sl := [.o 4 .b]
abbrev L1 : List Sl := [.o 0 .l, .o 1 .s]
abbrev T2 := TK L2
abbrev T0 := TK L0
abbrev T3 := TK L3
variable (x0b : Option Addr) (x0n x0c : Nat) (x1 : List UInt8)
abbrev n6_B (Kn Ke0 : T2) (Kr : T0) : T3 -> T3 := fun K2 x0b x0n x0c x1 x5 h => Spl (x5 < (x0n : Int)) ((0 <= x5 /\ x5 < (x0n : Int)) /\ (vSome x0b fun a1 => ∃ s2, cell h (a1.add (Int.toNat x5 * 1)) = some (S s2) /\ (Spl (s2 = x1) (Kr true h) (Rng .i64 (x5 + (1 : Int)) /\ (K2 x0b x0n x0c x1 (x5 + (1 : Int)) h))))) (Ke0 h)
abbrev n6_L (Kn Ke0 : T2) (Kr : T0) : Nat -> T3 := LP L3 (n6_B Kn Ke0 Kr)
variable (K : Value -> H -> Prop) (h : H)
abbrev asks (x0b : Option Addr) (x0n x0c : Nat) (x1 : List UInt8) (K : Value -> H -> Prop) (h : H) : Prop := cF L0 (fun Kr => sqF L1 (fun K4 => K4 x0b x0n x0c x1 h) fun x0b x0n x0c x1 h => sqF L2 (fun K1 => sqF L3 (fun K3 => K3 x0b x0n x0c x1 (0 : Int) h) fun x0b x0n x0c x1 x5 h => lpF L3 (n6_B K1 K1 Kr) fun K2 => K2 x0b x0n x0c x1 x5 h) fun h => Kr false h) fun y4 h => K (.bool y4) h
theorem ok (hS : asks x0b x0n x0c x1 K h) : HCalls Tryz.prog 93 ⟨[.slice x0b x0n x0c, S x1]⟩ h K :=
  cl Tryz.func93 hS (fun hg hS => sq (l := L1) hg hS fun hg hS => sc (l := L2) hS (fun hS => sq (l := L3) hg hS fun hg hS => bl (b := 0) (lp hg hS fun hg hS => lf hg hS)) fun hg hS => lf hg hS) fun hg hS => rt hg hS
end Sx.r11_in
namespace Sx.r02_Lower
abbrev L0 : List Sl := [.o 2 .s]
abbrev L3 : List Sl := [.o 3 .l]
abbrev L4 : List Sl := [.o 0 .s, .o 3 .l, .o 4 (.i .i64)]
abbrev L2 : List Sl := [.o 0 .s, .o 3 .l]
abbrev L1 : List Sl := [.o 0 .s]
abbrev T0 := TK L0
abbrev T3 := TK L3
abbrev T4 := TK L4
variable (x0 : List UInt8) (x3b : Option Addr) (x3n x3c : Nat)
abbrev n4 (Kn Kr : T0) (h : H) : Prop :=
  SemH Tryz.prog (convert 141 9 (.slice x3b x3n x3c)) h fun v1 h2 => vStr v1 fun s3 => Kr s3 h2
abbrev n7_B (Kn Ke0 : T3) (Kr : T0) : T4 -> T4 := fun K2 x0 x3b x3n x3c x4 h => sqF L4 (fun K4 => Spl (x4 < (x0.length : Int)) (K4 x0 x3b x3n x3c x4 h) (Ke0 x3b x3n x3c h)) fun x0 x3b x3n x3c x4 h => sqF L4 (fun K3 => (0 <= x4 /\ x4 < (x0.length : Int)) /\ (Spl (((List.getD x0 (Int.toNat x4) 0).toNat : Int) ≥ (65 : Int)) (Spl (((List.getD x0 (Int.toNat x4) 0).toNat : Int) <= (90 : Int)) (newx h #[(.int .u8 (IntKind.wrap .u8 (((List.getD x0 (Int.toNat x4) 0).toNat : Int) + (32 : Int))))] 5 fun a4 h5 => SemH Tryz.prog (Builtin.append_ #[141, 141] 141 ⟨[.slice x3b x3n x3c, .slice (some a4) 1 1]⟩) h5 fun v6 h7 => vSlice v6 fun s8b s8n s8c => K3 x0 s8b s8n s8c x4 h7) (newx h #[(.int .u8 ((List.getD x0 (Int.toNat x4) 0).toNat : Int))] 5 fun a9 h10 => SemH Tryz.prog (Builtin.append_ #[141, 141] 141 ⟨[.slice x3b x3n x3c, .slice (some a9) 1 1]⟩) h10 fun v11 h12 => vSlice v11 fun s13b s13n s13c => K3 x0 s13b s13n s13c x4 h12)) (newx h #[(.int .u8 ((List.getD x0 (Int.toNat x4) 0).toNat : Int))] 5 fun a14 h15 => SemH Tryz.prog (Builtin.append_ #[141, 141] 141 ⟨[.slice x3b x3n x3c, .slice (some a14) 1 1]⟩) h15 fun v16 h17 => vSlice v16 fun s18b s18n s18c => K3 x0 s18b s18n s18c x4 h17))) fun x0 x3b x3n x3c x4 h => Rng .i64 (x4 + (1 : Int)) /\ (K2 x0 x3b x3n x3c (x4 + (1 : Int)) h)
abbrev n7_L (Kn Ke0 : T3) (Kr : T0) : Nat -> T4 := LP L4 (n7_B Kn Ke0 Kr)
variable (K : Value -> H -> Prop) (h : H)
abbrev asks (x0 : List UInt8) (K : Value -> H -> Prop) (h : H) : Prop := cF L0 (fun Kr => sqF L1 (fun K7 => K7 x0 h) fun x0 h => sqF L2 (fun K6 => K6 x0 none 0 0 h) fun x0 x3b x3n x3c h => sqF L3 (fun K1 => sqF L4 (fun K5 => K5 x0 x3b x3n x3c (0 : Int) h) fun x0 x3b x3n x3c x4 h => lpF L4 (n7_B K1 K1 Kr) fun K2 => K2 x0 x3b x3n x3c x4 h) fun x3b x3n x3c h => n4 x3b x3n x3c Kr Kr h) fun y2 h => K (S y2) h
theorem ok (hS : asks x0 K h) : HCalls Tryz.prog 79 ⟨[S x0]⟩ h K :=
  cl Tryz.func79 hS (fun hg hS => sq (l := L1) hg hS fun hg hS => sq (l := L2) hg hS fun hg hS => sc (l := L3) hS (fun hS => sq (l := L4) hg hS fun hg hS => bl (b := 0) (lp hg hS fun hg hS => sq (l := L4) hg hS fun hg hS => sq (l := L4) hg hS fun hg hS => lf hg hS)) fun hg hS => lf hg hS) fun hg hS => rt hg hS
end Sx.r02_Lower
namespace Sx.place_World_Rebuild
abbrev L3 : List Sl := [.o 0 .p, .o 2 (.i .i64), .o 28 (.i .i64), .o 29 (.i .i64)]
abbrev L0 : List Sl := []
abbrev L2 : List Sl := [.o 0 .p, .o 2 (.i .i64)]
abbrev T0 := TK L0
abbrev T3 := TK L3
variable (x0 : Option Addr)
abbrev n5_B (Kn Ke0 Kr : T0) : T3 -> T3 := fun K1 x0 x2 x28 x29 h => Spl (x29 < x28) (vSome x0 fun a1 => ∃ s2b s2n s2c, cell h (a1.add 2) = some (.slice s2b s2n s2c) /\ (Rng .i64 (x2 + x29) /\ ((0 <= (x2 + x29) /\ (x2 + x29) < (s2n : Int)) /\ (vSome s2b fun a3 => ∃ s4, cell h ((a3.add (Int.toNat (x2 + x29) * 3)).add 1) = some (S s4) /\ (∃ s5b s5n s5c, cell h ((a3.add (Int.toNat (x2 + x29) * 3)).add 2) = some (.slice s5b s5n s5c) /\ (HCalls Tryz.prog 8 ⟨[.pointer x0, .int .u8 (0 : Int), (.agg ⟨[.int .u8 (0 : Int), S s4, .slice s5b s5n s5c, .bool false, S ([] : List UInt8)]⟩)]⟩ h fun v6 h7 => vInt .i64 v6 fun i8 => stL ((a3.add (Int.toNat (x2 + x29) * 3)).add 0) [.int .i64 i8] 0 h7 fun h9 => Rng .i64 (x29 + (1 : Int)) /\ (K1 x0 x2 x28 (x29 + (1 : Int)) h9))))))) (Ke0 h)
abbrev n5_L (Kn Ke0 Kr : T0) : Nat -> T3 := LP L3 (n5_B Kn Ke0 Kr)
variable (K : Value -> H -> Prop) (h : H)
abbrev asks (x0 : Option Addr) (K : Value -> H -> Prop) (h : H) : Prop := cF L0 (fun Kr => sqF L2 (fun K4 => vSome x0 fun a19 => ∃ s20b s20n s20c, cell h (a19.add 2) = some (.slice s20b s20n s20c) /\ (vSome x0 fun a21 => ∃ s22b s22n s22c, cell h (a21.add 1) = some (.slice s22b s22n s22c) /\ (HCalls Tryz.prog 38 ⟨[.slice s20b s20n s20c, .slice s22b s22n s22c]⟩ h fun v23 h24 => vInt .i64 v23 fun i25 => K4 x0 i25 h24))) fun x0 x2 h => sqF L2 (fun K3 => vSome x0 fun a12 => ∃ s13b s13n s13c, cell h (a12.add 2) = some (.slice s13b s13n s13c) /\ (HCalls Tryz.prog 39 ⟨[.slice s13b s13n s13c]⟩ h fun v14 h15 => vSlice v14 fun s16b s16n s16c => vSome x0 fun a17 => stL (a17.add 2) [.slice s16b s16n s16c] 0 h15 fun h18 => K3 x0 x2 h18)) fun x0 x2 h => sqF L3 (fun K2 => vSome x0 fun a10 => ∃ s11b s11n s11c, cell h (a10.add 2) = some (.slice s11b s11n s11c) /\ ((0 <= x2 /\ x2 <= (s11n : Int) /\ (s11n : Int) <= (s11c : Int)) /\ (K2 x0 x2 (((Int.toNat (s11n : Int) - Int.toNat x2) : Nat) : Int) (0 : Int) h))) fun x0 x2 x28 x29 h => lpF L3 (n5_B Kr Kr Kr) fun K1 => K1 x0 x2 x28 x29 h) fun h => K (.tuple ⟨[]⟩) h
theorem ok (hS : asks x0 K h) : HCalls Tryz.prog 13 ⟨[.pointer x0]⟩ h K :=
  cl Tryz.func13 hS (fun hg hS => sq (l := L2) hg hS fun hg hS => sq (l := L2) hg hS fun hg hS => sq (l := L3) hg hS fun hg hS => bl (b := 0) (lp hg hS fun hg hS => lf hg hS)) fun hg hS => rt hg hS
end Sx.place_World_Rebuild
namespace Sx.place_World_Drop
abbrev L4 : List Sl := [.o 0 .p, .o 4 (.i .i64), .o 12 .b]
abbrev L3 : List Sl := [.o 0 .p, .o 4 (.i .i64)]
abbrev L2 : List Sl := [.o 0 .p, .o 3 .a]
abbrev L0 : List Sl := []
variable (x0 : Option Addr) (x1 : Int)
variable (K : Value -> H -> Prop) (h : H)
abbrev asks (x0 : Option Addr) (x1 : Int) (K : Value -> H -> Prop) (h : H) : Prop := cF L0 (fun Kr => sqF L2 (fun K3 => newx h #[.int .i64 x1] 3 fun a16 h17 => K3 x0 a16 h17) fun x0 x3 h => sqF L3 (fun K2 => vSome x0 fun a11 => ∃ s12b s12n s12c, cell h (a11.add 1) = some (.slice s12b s12n s12c) /\ (HCalls Tryz.prog 88 ⟨[.slice s12b s12n s12c, (.func (.func 125) ⟨[]⟩ ⟨[.pointer (some x3)]⟩)]⟩ h fun v13 h14 => vInt .i64 v13 fun i15 => K2 x0 i15 h14)) fun x0 x4 h => sqF L4 (fun K1 => Spl (x4 > (0 : Int)) (K1 x0 x4 true h) (K1 x0 x4 false h)) fun x0 x4 x12 h => cond x12 (vSome x0 fun a1 => ∃ s2b s2n s2c, cell h (a1.add 1) = some (.slice s2b s2n s2c) /\ (HCalls Tryz.prog 127 ⟨[.slice s2b s2n s2c]⟩ h fun v3 h4 => vSlice v3 fun s5b s5n s5c => Rng .i64 (x4 + (1 : Int)) /\ (HCalls Tryz.prog 126 ⟨[.slice s5b s5n s5c, .int .i64 x4, .int .i64 (x4 + (1 : Int))]⟩ h4 fun v6 h7 => vSlice v6 fun s8b s8n s8c => vSome x0 fun a9 => stL (a9.add 1) [.slice s8b s8n s8c] 0 h7 fun h10 => Kr h10))) (Kr h)) fun h => K (.tuple ⟨[]⟩) h
theorem ok (hS : asks x0 x1 K h) : HCalls Tryz.prog 114 ⟨[.pointer x0, .int .i64 x1]⟩ h K :=
  cl Tryz.func114 hS (fun hg hS => sq hg hS fun hg hS => sq hg hS fun hg hS => sq hg hS fun hg hS => lf hg hS) fun hg hS => rt hg hS
end Sx.place_World_Drop
namespace Sx.slices_IndexFunc_apiOpen
abbrev L2 : List Sl := []
abbrev L3 : List Sl := [.o 0 .l, .o 1 .r, .o 7 (.i .i64), .o 8 (.i .i64)]
abbrev L0 : List Sl := [.o 4 (.i .i64)]
abbrev L1 : List Sl := [.o 0 .l, .o 1 .r]
abbrev T2 := TK L2
abbrev T0 := TK L0
abbrev T3 := TK L3
variable (x0b : Option Addr) (x0n x0c : Nat) (x1 : Value)
abbrev n6_B (Kn Ke0 : T2) (Kr : T0) : T3 -> T3 := fun K2 x0b x0n x0c x1 x7 x8 h => Spl (x8 < x7) ((0 <= x8 /\ x8 < (x0n : Int)) /\ (vSome x0b fun a1 => ∃ i2, cell h (((a1.add (Int.toNat x8 * 4))).add 0) = some (.int .i64 i2) /\ (∃ i3, cell h (((a1.add (Int.toNat x8 * 4))).add 1) = some (.int .u8 i3) /\ (∃ s4, cell h (((a1.add (Int.toNat x8 * 4))).add 2) = some (S s4) /\ (∃ i5, cell h (((a1.add (Int.toNat x8 * 4))).add 3) = some (.int .u8 i5) /\ (CallV Tryz.prog 4 x1 ⟨[(.agg ⟨[.int .i64 i2, .int .u8 i3, S s4, .int .u8 i5]⟩)]⟩ h fun v6 h7 => vBool v6 fun b8 => cond b8 (Kr x8 h7) (Rng .i64 (x8 + (1 : Int)) /\ (K2 x0b x0n x0c x1 x7 (x8 + (1 : Int)) h7)))))))) (Ke0 h)
abbrev n6_L (Kn Ke0 : T2) (Kr : T0) : Nat -> T3 := LP L3 (n6_B Kn Ke0 Kr)
variable (K : Value -> H -> Prop) (h : H)
abbrev asks (x0b : Option Addr) (x0n x0c : Nat) (x1 : Value) (K : Value -> H -> Prop) (h : H) : Prop := cF L0 (fun Kr => sqF L1 (fun K4 => K4 x0b x0n x0c x1 h) fun x0b x0n x0c x1 h => sqF L2 (fun K1 => sqF L3 (fun K3 => K3 x0b x0n x0c x1 (x0n : Int) (0 : Int) h) fun x0b x0n x0c x1 x7 x8 h => lpF L3 (n6_B K1 K1 Kr) fun K2 => K2 x0b x0n x0c x1 x7 x8 h) fun h => Kr (-1 : Int) h) fun y4 h => K (.int .i64 y4) h
theorem ok (hS : asks x0b x0n x0c x1 K h) : HCalls Tryz.prog 88 ⟨[.slice x0b x0n x0c, x1]⟩ h K :=
  cl Tryz.func88 hS (fun hg hS => sq (l := L1) hg hS fun hg hS => sc (l := L2) hS (fun hS => sq (l := L3) hg hS fun hg hS => bl (b := 0) (lp hg hS fun hg hS => lf hg hS)) fun hg hS => lf hg hS) fun hg hS => rt hg hS
end Sx.slices_IndexFunc_apiOpen
namespace Sx.place_World_Drop_1
abbrev L0 : List Sl := [.o 3 .b]
variable (x0_0 x0_1 : Int) (x0_2 : List UInt8) (x0_3 : Int) (x1 : Addr)
variable (K : Value -> H -> Prop) (h : H)
abbrev asks : Prop := cF L0 (fun Kr => newx h ⟨[.int .i64 x0_0, .int .u8 x0_1, S x0_2, .int .u8 x0_3]⟩ 60 fun a1 h2 => ∃ i3, cell h2 (a1.add 0) = some (.int .i64 i3) /\ (∃ i4, cell h2 x1 = some (.int .i64 i4) /\ (Spl (i3 = i4) (Kr true h2) (Kr false h2)))) fun y3 h => K (.bool y3) h
theorem ok (hS : asks x0_0 x0_1 x0_2 x0_3 x1 K h) : HCalls Tryz.prog 125 ⟨[(.agg ⟨[.int .i64 x0_0, .int .u8 x0_1, S x0_2, .int .u8 x0_3]⟩), .pointer (some x1)]⟩ h K :=
  cl Tryz.func125 hS (fun hg hS => lf hg hS) fun hg hS => rt hg hS
end Sx.place_World_Drop_1
namespace Sx.slices_Delete_apiOpen
abbrev L0 : List Sl := [.o 6 .l]
variable (x0b : Option Addr) (x0n x0c : Nat) (x1 x2 : Int)
variable (K : Value -> H -> Prop) (h : H)
abbrev asks : Prop := cF L0 (fun Kr => (0 <= x1 /\ x1 <= x2 /\ x2 <= (x0n : Int) /\ (x0n : Int) <= (x0c : Int)) /\ (Spl (x1 = x2) (Kr x0b x0n x0c h) ((0 <= (0 : Int) /\ (0 : Int) <= x1 /\ x1 <= (x0c : Int)) /\ ((0 <= x2 /\ x2 <= (x0n : Int) /\ (x0n : Int) <= (x0c : Int)) /\ (SemH Tryz.prog (Builtin.append_ #[40, 40] 40 ⟨[(.slice (if x0c = Int.toNat (0 : Int) then x0b else Option.map (fun q => q.add (Int.toNat (0 : Int) * 4)) x0b) (Int.toNat x1 - Int.toNat (0 : Int)) (x0c - Int.toNat (0 : Int))), (.slice (if x0c = Int.toNat x2 then x0b else Option.map (fun q => q.add (Int.toNat x2 * 4)) x0b) (Int.toNat (x0n : Int) - Int.toNat x2) (x0c - Int.toNat x2))]⟩) h fun v1 h2 => vSlice v1 fun s3b s3n s3c => (0 <= (s3n : Int) /\ (s3n : Int) <= (x0n : Int) /\ (x0n : Int) <= (s3c : Int)) /\ (SemH Tryz.prog (Builtin.clear_ #[40] 0 ⟨[(.slice (if s3c = Int.toNat (s3n : Int) then s3b else Option.map (fun q => q.add (Int.toNat (s3n : Int) * 4)) s3b) (Int.toNat (x0n : Int) - Int.toNat (s3n : Int)) (s3c - Int.toNat (s3n : Int)))]⟩) h2 fun v4 h5 => Kr s3b s3n s3c h5)))))) fun y6b y6n y6c h => K (.slice y6b y6n y6c) h
theorem ok (hS : asks x0b x0n x0c x1 x2 K h) : HCalls Tryz.prog 126 ⟨[.slice x0b x0n x0c, .int .i64 x1, .int .i64 x2]⟩ h K :=
  cl Tryz.func126 hS (fun hg hS => lf hg hS) fun hg hS => rt hg hS
end Sx.slices_Delete_apiOpen
namespace Sx.slices_Clone_apiOpen
abbrev L0 : List Sl := [.o 2 .l]
variable (x0b : Option Addr) (x0n x0c : Nat)
variable (K : Value -> H -> Prop) (h : H)
abbrev asks : Prop := cF L0 (fun Kr => SemH Tryz.prog (binS .eql 40 (.tmp 3) (.const (.slice none 0 0)) (.slice x0b x0n x0c) (.slice none 0 0)) h fun v1 h2 => vBool v1 fun b3 => cond b3 (Kr none 0 0 h2) (newx h2 #[] 60 fun a4 h5 => SemH Tryz.prog (Builtin.append_ #[40, 40] 40 ⟨[.slice (some a4) 0 0, .slice x0b x0n x0c]⟩) h5 fun v6 h7 => vSlice v6 fun s8b s8n s8c => Kr s8b s8n s8c h7)) fun y2b y2n y2c h => K (.slice y2b y2n y2c) h
theorem ok (hS : asks x0b x0n x0c K h) : HCalls Tryz.prog 127 ⟨[.slice x0b x0n x0c]⟩ h K :=
  cl Tryz.func127 hS (fun hg hS => lf hg hS) fun hg hS => rt hg hS
end Sx.slices_Clone_apiOpen
namespace Sx.r13_World_Rebuild
abbrev L2 : List Sl := [.o 0 .p, .o 2 (.i .i64)]
abbrev L0 : List Sl := []
abbrev T0 := TK L0
abbrev T2 := TK L2
variable (x0 : Option Addr)
abbrev n3_B (Kn Ke0 Kr : T0) : T2 -> T2 := fun K1 x0 x2 h => vSome x0 fun a1 => ∃ s2b s2n s2c, cell h (a1.add 2) = some (.slice s2b s2n s2c) /\ (Spl (x2 < (s2n : Int)) (vSome x0 fun a3 => ∃ s4b s4n s4c, cell h (a3.add 2) = some (.slice s4b s4n s4c) /\ ((0 <= x2 /\ x2 < (s4n : Int)) /\ (vSome s4b fun a5 => ∃ i6, cell h (((a5.add (Int.toNat x2 * 3))).add 0) = some (.int .i64 i6) /\ (∃ s7, cell h (((a5.add (Int.toNat x2 * 3))).add 1) = some (S s7) /\ (∃ s8b s8n s8c, cell h (((a5.add (Int.toNat x2 * 3))).add 2) = some (.slice s8b s8n s8c) /\ (newx h ⟨[.int .i64 (0 : Int), S ([] : List UInt8), .slice none 0 0]⟩ 36 fun a9 h10 => stL a9 [.int .i64 i6, S s7, .slice s8b s8n s8c] 0 h10 fun h11 => ∃ s12, cell h11 (a9.add 1) = some (S s12) /\ (∃ s13b s13n s13c, cell h11 (a9.add 2) = some (.slice s13b s13n s13c) /\ (HCalls Tryz.prog 9 ⟨[.pointer x0, .int .u8 (0 : Int), (.agg ⟨[.int .u8 (0 : Int), S s12, .slice s13b s13n s13c, .bool false, S ([] : List UInt8)]⟩)]⟩ h11 fun v14 h15 => vInt .i64 v14 fun i16 => stL (a9.add 0) [.int .i64 i16] 0 h15 fun h17 => vSome x0 fun a18 => ∃ s19b s19n s19c, cell h17 (a18.add 2) = some (.slice s19b s19n s19c) /\ ((0 <= (0 : Int) /\ (0 : Int) <= x2 /\ x2 <= (s19c : Int)) /\ (SemH Tryz.prog (Builtin.append_ #[37, 37] 37 ⟨[.slice none 0 0, (.slice (if s19c = Int.toNat (0 : Int) then s19b else Option.map (fun q => q.add (Int.toNat (0 : Int) * 3)) s19b) (Int.toNat x2 - Int.toNat (0 : Int)) (s19c - Int.toNat (0 : Int)))]⟩) h17 fun v20 h21 => vSlice v20 fun s22b s22n s22c => ∃ i23, cell h21 (a9.add 0) = some (.int .i64 i23) /\ (∃ s24, cell h21 (a9.add 1) = some (S s24) /\ (∃ s25b s25n s25c, cell h21 (a9.add 2) = some (.slice s25b s25n s25c) /\ (newx h21 #[.int .i64 i23, S s24, .slice s25b s25n s25c] 36 fun a26 h27 => SemH Tryz.prog (Builtin.append_ #[37, 37] 37 ⟨[.slice s22b s22n s22c, .slice (some a26) 1 1]⟩) h27 fun v28 h29 => vSlice v28 fun s30b s30n s30c => vSome x0 fun a31 => ∃ s32b s32n s32c, cell h29 (a31.add 2) = some (.slice s32b s32n s32c) /\ (Rng .i64 (x2 + (1 : Int)) /\ ((0 <= (x2 + (1 : Int)) /\ (x2 + (1 : Int)) <= (s32n : Int) /\ (s32n : Int) <= (s32c : Int)) /\ (SemH Tryz.prog (Builtin.append_ #[37, 37] 37 ⟨[.slice s30b s30n s30c, (.slice (if s32c = Int.toNat (x2 + (1 : Int)) then s32b else Option.map (fun q => q.add (Int.toNat (x2 + (1 : Int)) * 3)) s32b) (Int.toNat (s32n : Int) - Int.toNat (x2 + (1 : Int))) (s32c - Int.toNat (x2 + (1 : Int))))]⟩) h29 fun v33 h34 => vSlice v33 fun s35b s35n s35c => vSome x0 fun a36 => stL (a36.add 2) [.slice s35b s35n s35c] 0 h34 fun h37 => Rng .i64 (x2 + (1 : Int)) /\ (K1 x0 (x2 + (1 : Int)) h37))))))))))))))))) (Ke0 h))
abbrev n3_L (Kn Ke0 Kr : T0) : Nat -> T2 := LP L2 (n3_B Kn Ke0 Kr)
variable (K : Value -> H -> Prop) (h : H)
abbrev asks (x0 : Option Addr) (K : Value -> H -> Prop) (h : H) : Prop := cF L0 (fun Kr => sqF L2 (fun K2 => vSome x0 fun a38 => ∃ s39b s39n s39c, cell h (a38.add 2) = some (.slice s39b s39n s39c) /\ (vSome x0 fun a40 => ∃ s41b s41n s41c, cell h (a40.add 1) = some (.slice s41b s41n s41c) /\ (HCalls Tryz.prog 40 ⟨[.slice s39b s39n s39c, .slice s41b s41n s41c]⟩ h fun v42 h43 => vInt .i64 v42 fun i44 => K2 x0 i44 h43))) fun x0 x2 h => lpF L2 (n3_B Kr Kr Kr) fun K1 => K1 x0 x2 h) fun h => K (.tuple ⟨[]⟩) h
theorem ok (hS : asks x0 K h) : HCalls Tryz.prog 14 ⟨[.pointer x0]⟩ h K :=
  cl Tryz.func14 hS (fun hg hS => sq (l := L2) hg hS fun hg hS => bl (b := 0) (lp hg hS fun hg hS => lf hg hS)) fun hg hS => rt hg hS
end Sx.r13_World_Rebuild
namespace Sx.r13_World_Drop
abbrev L0 : List Sl := []
abbrev L3 : List Sl := [.o 0 .p, .o 4 .l]
abbrev L4 : List Sl := [.o 0 .p, .o 1 (.i .i64), .o 4 .l, .o 5 (.i .i64)]
abbrev L5 : List Sl := [.o 0 .p, .o 1 (.i .i64), .o 4 .l, .o 5 (.i .i64), .o 28 .b]
abbrev L2 : List Sl := [.o 0 .p, .o 1 (.i .i64), .o 4 .l]
abbrev T0 := TK L0
abbrev T3 := TK L3
abbrev T4 := TK L4
variable (x0 : Option Addr) (x1 : Int) (x4b : Option Addr) (x4n x4c : Nat) (x5 : Int) (x28 : Bool)
abbrev n3 (Kn Kr : T0) (h : H) : Prop :=
  vSome x0 fun a1 => stL (a1.add 1) [.slice x4b x4n x4c] 0 h fun h2 => Kn h2
abbrev n12 (Kn Ke1 : T4) (Ke0 : T3) (Kr : T0) (h : H) : Prop :=
  cond x28 (vSome x0 fun a3 => ∃ s4b s4n s4c, cell h (a3.add 1) = some (.slice s4b s4n s4c) /\ ((0 <= x5 /\ x5 < (s4n : Int)) /\ (vSome s4b fun a5 => ∃ i6, cell h (((a5.add (Int.toNat x5 * 4))).add 0) = some (.int .i64 i6) /\ (∃ i7, cell h (((a5.add (Int.toNat x5 * 4))).add 1) = some (.int .u8 i7) /\ (∃ s8, cell h (((a5.add (Int.toNat x5 * 4))).add 2) = some (S s8) /\ (∃ i9, cell h (((a5.add (Int.toNat x5 * 4))).add 3) = some (.int .u8 i9) /\ (newx h #[.int .i64 i6, .int .u8 i7, S s8, .int .u8 i9] 60 fun a10 h11 => SemH Tryz.prog (Builtin.append_ #[40, 40] 40 ⟨[.slice x4b x4n x4c, .slice (some a10) 1 1]⟩) h11 fun v12 h13 => vSlice v12 fun s14b s14n s14c => Kn x0 x1 s14b s14n s14c x5 h13))))))) (Kn x0 x1 x4b x4n x4c x5 h)
abbrev n6_B (Kn Ke0 : T3) (Kr : T0) : T4 -> T4 := fun K2 x0 x1 x4b x4n x4c x5 h => sqF L4 (fun K5 => vSome x0 fun a19 => ∃ s20b s20n s20c, cell h (a19.add 1) = some (.slice s20b s20n s20c) /\ (Spl (x5 < (s20n : Int)) (K5 x0 x1 x4b x4n x4c x5 h) (Ke0 x0 x4b x4n x4c h))) fun x0 x1 x4b x4n x4c x5 h => sqF L4 (fun K3 => sqF L5 (fun K4 => Spl (x5 = (0 : Int)) (K4 x0 x1 x4b x4n x4c x5 true h) (vSome x0 fun a15 => ∃ s16b s16n s16c, cell h (a15.add 1) = some (.slice s16b s16n s16c) /\ ((0 <= x5 /\ x5 < (s16n : Int)) /\ (vSome s16b fun a17 => ∃ i18, cell h ((a17.add (Int.toNat x5 * 4)).add 0) = some (.int .i64 i18) /\ (Spl (i18 = x1) (K4 x0 x1 x4b x4n x4c x5 false h) (K4 x0 x1 x4b x4n x4c x5 true h)))))) fun x0 x1 x4b x4n x4c x5 x28 h => n12 x0 x1 x4b x4n x4c x5 x28 K3 K3 Ke0 Kr h) fun x0 x1 x4b x4n x4c x5 h => Rng .i64 (x5 + (1 : Int)) /\ (K2 x0 x1 x4b x4n x4c (x5 + (1 : Int)) h)
abbrev n6_L (Kn Ke0 : T3) (Kr : T0) : Nat -> T4 := LP L4 (n6_B Kn Ke0 Kr)
variable (K : Value -> H -> Prop) (h : H)
abbrev asks (x0 : Option Addr) (x1 : Int) (K : Value -> H -> Prop) (h : H) : Prop := cF L0 (fun Kr => sqF L2 (fun K7 => K7 x0 x1 none 0 0 h) fun x0 x1 x4b x4n x4c h => sqF L3 (fun K1 => sqF L4 (fun K6 => K6 x0 x1 x4b x4n x4c (0 : Int) h) fun x0 x1 x4b x4n x4c x5 h => lpF L4 (n6_B K1 K1 Kr) fun K2 => K2 x0 x1 x4b x4n x4c x5 h) fun x0 x4b x4n x4c h => n3 x0 x4b x4n x4c Kr Kr h) fun h => K (.tuple ⟨[]⟩) h
theorem ok (hS : asks x0 x1 K h) : HCalls Tryz.prog 94 ⟨[.pointer x0, .int .i64 x1]⟩ h K :=
  cl Tryz.func94 hS (fun hg hS => sq (l := L2) hg hS fun hg hS => sc (l := L3) hS (fun hS => sq (l := L4) hg hS fun hg hS => bl (b := 0) (lp hg hS fun hg hS => sq (l := L4) hg hS fun hg hS => sc (l := L4) hS (fun hS => bl (b := 1) (sq (l := L5) hg hS fun hg hS => lf hg hS)) fun hg hS => lf hg hS)) fun hg hS => lf hg hS) fun hg hS => rt hg hS
end Sx.r13_World_Drop
end Go.Proofs
