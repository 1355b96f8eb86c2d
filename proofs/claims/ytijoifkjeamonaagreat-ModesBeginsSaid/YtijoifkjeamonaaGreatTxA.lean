/- The shallow forms of functions, printed by sh.py out of the translation; each with its proof. No condition. -/
import Derived.Test.YtijoifkjeamonaaGreatShQ
import Derived.Test.YtijoifkjeamonaaGreatProg
namespace Go.Proofs
open Go Go.Sh
set_option linter.unusedVariables false
set_option maxRecDepth 100000
namespace Sx.dom_Tree_Parent
abbrev L0 : List Sl := [.o 4 (.i .i64)]
variable (x0 : Option Addr) (x1 : Int)
variable (K : Value -> H -> Prop) (h : H)
abbrev asks : Prop := cF L0 (fun Kr => HCalls Tryz.prog 48 ⟨[.pointer x0, .int .i64 x1]⟩ h fun v1 h2 => vPtr v1 fun p3 => SemH Tryz.prog (binS .eql 80 (.tmp 9) (.const (.pointer none)) (.pointer p3) (.pointer none)) h2 fun v4 h5 => vBool v4 fun b6 => cond b6 (Kr (-1 : Int) h5) (vSome p3 fun a7 => ∃ i8, cell h5 (a7.add 6) = some (.int .i64 i8) /\ (Kr i8 h5))) fun y4 h => K (.int .i64 y4) h
theorem ok (hS : asks x0 x1 K h) : HCalls Tryz.prog 129 ⟨[.pointer x0, .int .i64 x1]⟩ h K :=
  cl Tryz.func129 hS (fun hg hS => lf hg hS) fun hg hS => rt hg hS
end Sx.dom_Tree_Parent
namespace Sx.dom_New
abbrev L0 : List Sl := [.o 0 .p]
variable (K : Value -> H -> Prop) (h : H)
abbrev asks : Prop := cF L0 (fun Kr => newx h ⟨[.int .u8 (0 : Int), .int .u8 (0 : Int), S ([] : List UInt8), .slice none 0 0, S ([] : List UInt8), .slice none 0 0, .int .i64 (-1 : Int), .slice none 0 0]⟩ 84 fun a1 h2 => newx h2 #[.pointer (some a1)] 80 fun a3 h4 => newx h4 ⟨[.slice (some a3) 1 1]⟩ 87 fun a5 h6 => Kr (some a5) h6) fun y0 h => K (.pointer y0) h
theorem ok (hS : asks K h) : HCalls Tryz.prog 51 ⟨[]⟩ h K :=
  cl Tryz.func51 hS (fun hg hS => lf hg hS) fun hg hS => rt hg hS
end Sx.dom_New
namespace Sx.dom_Tree_Make
abbrev L0 : List Sl := [.o 4 (.i .i64)]
abbrev L2 : List Sl := [.o 0 .p, .o 3 .a]
abbrev L5 : List Sl := [.o 0 .p, .o 3 .a, .o 19 .b]
abbrev L4 : List Sl := [.o 0 .p, .o 3 .a, .o 6 (.i .u8), .o 7 .b]
abbrev L3 : List Sl := [.o 0 .p, .o 3 .a, .o 6 (.i .u8)]
abbrev T0 := TK L0
abbrev T2 := TK L2
variable (x0 : Option Addr) (x1_0 x1_1 : Int) (x1_2 : List UInt8) (x1_3b : Option Addr) (x1_3n x1_3c : Nat) (x1_4 : List UInt8) (x1_5b : Option Addr) (x1_5n x1_5c : Nat) (x3 : Addr) (x19 : Bool)
abbrev n3 (Kn Kr : T0) (h : H) : Prop :=
  vSome x0 fun a1 => ∃ s2b s2n s2c, cell h (a1.add 0) = some (.slice s2b s2n s2c) /\ (∃ i3, cell h (x3.add 0) = some (.int .u8 i3) /\ (∃ i4, cell h (x3.add 1) = some (.int .u8 i4) /\ (∃ s5, cell h (x3.add 2) = some (S s5) /\ (∃ s6b s6n s6c, cell h (x3.add 3) = some (.slice s6b s6n s6c) /\ (∃ s7, cell h (x3.add 4) = some (S s7) /\ (∃ s8b s8n s8c, cell h (x3.add 5) = some (.slice s8b s8n s8c) /\ (newx h ⟨[.int .u8 i3, .int .u8 i4, S s5, .slice s6b s6n s6c, S s7, .slice s8b s8n s8c, .int .i64 (-1 : Int), .slice none 0 0]⟩ 84 fun a9 h10 => ExtH h h10 /\ (newx h10 #[.pointer (some a9)] 80 fun a11 h12 => ExtH h10 h12 /\ (SemH Tryz.prog (Builtin.append_ #[85, 85] 85 ⟨[.slice s2b s2n s2c, .slice (some a11) 1 1]⟩) h12 fun v13 h14 => vSlice v13 fun s15b s15n s15c => vSome x0 fun a16 => stL (a16.add 0) [.slice s15b s15n s15c] 0 h14 fun h17 => vSome x0 fun a18 => ∃ s19b s19n s19c, cell h17 (a18.add 0) = some (.slice s19b s19n s19c) /\ (Rng .i64 ((s19n : Int) - (1 : Int)) /\ (Kr ((s19n : Int) - (1 : Int)) h17)))))))))))
abbrev n10 (Kn Ke0 : T2) (Kr : T0) (h : H) : Prop :=
  cond x19 (∃ i28, cell h (x3.add 0) = some (.int .u8 i28) /\ (∃ s29, cell h (x3.add 4) = some (S s29) /\ (stL x3 [.int .u8 i28, .int .u8 (0 : Int), S ([] : List UInt8), .slice none 0 0, S s29, .slice none 0 0] 0 h fun h30 => Kn x0 x3 h30))) (Kr (-1 : Int) h)
variable (K : Value -> H -> Prop) (h : H)
abbrev asks (x0 : Option Addr) (x1_0 x1_1 : Int) (x1_2 : List UInt8) (x1_3b : Option Addr) (x1_3n x1_3c : Nat) (x1_4 : List UInt8) (x1_5b : Option Addr) (x1_5n x1_5c : Nat) (K : Value -> H -> Prop) (h : H) : Prop := cF L0 (fun Kr => sqF L2 (fun K5 => newx h ⟨[.int .u8 x1_0, .int .u8 x1_1, S x1_2, .slice x1_3b x1_3n x1_3c, S x1_4, .slice x1_5b x1_5n x1_5c]⟩ 70 fun a32 h33 => K5 x0 a32 h33) fun x0 x3 h => sqF L2 (fun K1 => sqF L3 (fun K4 => ∃ i31, cell h (x3.add 0) = some (.int .u8 i31) /\ (K4 x0 x3 i31 h)) fun x0 x3 x6 h => sqF L4 (fun K3 => Spl (x6 = (1 : Int)) (K3 x0 x3 x6 true h) (K3 x0 x3 x6 false h)) fun x0 x3 x6 x7 h => cond x7 (∃ i20, cell h (x3.add 0) = some (.int .u8 i20) /\ (∃ i21, cell h (x3.add 1) = some (.int .u8 i21) /\ (∃ s22, cell h (x3.add 2) = some (S s22) /\ (∃ s23b s23n s23c, cell h (x3.add 3) = some (.slice s23b s23n s23c) /\ (HCalls Tryz.prog 49 ⟨[.slice s23b s23n s23c]⟩ h fun v24 h25 => vSlice v24 fun s26b s26n s26c => ExtH h h25 /\ (stL x3 [.int .u8 i20, .int .u8 i21, S s22, .slice s26b s26n s26c, S ([] : List UInt8), .slice none 0 0] 0 h25 fun h27 => K1 x0 x3 h27)))))) (sqF L5 (fun K2 => Spl (x6 = (2 : Int)) (K2 x0 x3 true h) (Spl (x6 = (3 : Int)) (K2 x0 x3 true h) (K2 x0 x3 false h))) fun x0 x3 x19 h => n10 x0 x3 x19 K1 K1 Kr h)) fun x0 x3 h => n3 x0 x3 Kr Kr h) fun y4 h => K (.int .i64 y4) h
theorem ok (hS : asks x0 x1_0 x1_1 x1_2 x1_3b x1_3n x1_3c x1_4 x1_5b x1_5n x1_5c K h) : HCalls Tryz.prog 66 ⟨[.pointer x0, (.agg ⟨[.int .u8 x1_0, .int .u8 x1_1, S x1_2, .slice x1_3b x1_3n x1_3c, S x1_4, .slice x1_5b x1_5n x1_5c]⟩)]⟩ h K :=
  cl Tryz.func66 hS (fun hg hS => sq (l := L2) hg hS fun hg hS => sc (l := L2) hS (fun hS => sq (l := L3) hg hS fun hg hS => bl (b := 0) (sq (l := L4) hg hS fun hg hS => cn (i := 7) hg hS (fun hg hS => lf hg hS) fun hg hS => sq (l := L5) hg hS fun hg hS => lf hg hS)) fun hg hS => lf hg hS) fun hg hS => rt hg hS
end Sx.dom_Tree_Make
namespace Sx.dom_Tree_Put
abbrev L0 : List Sl := [.o 8 .b]
abbrev L3 : List Sl := [.o 1 (.i .i64), .o 2 (.i .i64), .o 3 (.i .i64), .o 9 .p, .o 10 .p]
abbrev L2 : List Sl := [.o 0 .p, .o 1 (.i .i64), .o 2 (.i .i64), .o 3 (.i .i64), .o 9 .p, .o 10 .p]
abbrev L1 : List Sl := [.o 0 .p, .o 1 (.i .i64), .o 2 (.i .i64), .o 3 (.i .i64)]
abbrev T0 := TK L0
variable (x0 : Option Addr) (x1 x2 x3 : Int) (x9 x10 : Option Addr)
abbrev n5 (Kn Kr : T0) (h : H) : Prop :=
  (vSome x9 fun a1 => ∃ s2b s2n s2c, cell h (a1.add 7) = some (.slice s2b s2n s2c) /\ (HCalls Tryz.prog 131 ⟨[.pointer x9, .int .i64 x2]⟩ h fun v3 h4 => vInt .i64 v3 fun i5 => ExtH h h4 /\ (newx h4 #[.int .i64 x3] 3 fun a6 h7 => ExtH h4 h7 /\ (HCalls Tryz.prog 142 ⟨[.slice s2b s2n s2c, .int .i64 i5, .slice (some a6) 1 1]⟩ h7 fun v8 h9 => vSlice v8 fun s10b s10n s10c => vSome x9 fun a11 => stL (a11.add 7) [.slice s10b s10n s10c] 0 h9 fun h12 => vSome x10 fun a13 => stL (a13.add 6) [.int .i64 x1] 0 h12 fun h14 => Kr true h14)))) /\ (vSome x9 fun a15 => ∃ s16b s16n s16c, cell h (a15.add 7) = some (.slice s16b s16n s16c) /\ (newx h #[.int .i64 x3] 3 fun a17 h18 => ExtH h h18 /\ (HCalls Tryz.prog 131 ⟨[.pointer x9, .int .i64 x2]⟩ h18 fun v19 h20 => vInt .i64 v19 fun i21 => ExtH h18 h20 /\ (HCalls Tryz.prog 142 ⟨[.slice s16b s16n s16c, .int .i64 i21, .slice (some a17) 1 1]⟩ h20 fun v22 h23 => vSlice v22 fun s24b s24n s24c => vSome x9 fun a25 => stL (a25.add 7) [.slice s24b s24n s24c] 0 h23 fun h26 => vSome x10 fun a27 => stL (a27.add 6) [.int .i64 x1] 0 h26 fun h28 => Kr true h28))))
variable (K : Value -> H -> Prop) (h : H)
abbrev asks (x0 : Option Addr) (x1 x2 x3 : Int) (K : Value -> H -> Prop) (h : H) : Prop := cF L0 (fun Kr => sqF L1 (fun K4 => K4 x0 x1 x2 x3 h) fun x0 x1 x2 x3 h => sqF L2 (fun K3 => HCalls Tryz.prog 130 ⟨[.pointer x0, .int .i64 x1]⟩ h fun v44 h45 => vPtr v44 fun p46 => HCalls Tryz.prog 48 ⟨[.pointer x0, .int .i64 x3]⟩ h45 fun v47 h48 => vPtr v47 fun p49 => K3 x0 x1 x2 x3 p46 p49 h48) fun x0 x1 x2 x3 x9 x10 h => sqF L2 (fun K2 => SemH Tryz.prog (binS .eql 80 (.tmp 17) (.const (.pointer none)) (.pointer x9) (.pointer none)) h fun v32 h33 => vBool v32 fun b34 => cond b34 (Kr false h33) (SemH Tryz.prog (binS .eql 80 (.tmp 20) (.const (.pointer none)) (.pointer x10) (.pointer none)) h33 fun v35 h36 => vBool v35 fun b37 => cond b37 (Kr false h36) (Spl (x3 = (0 : Int)) (Kr false h36) (Spl (x2 = x3) (Kr false h36) (HCalls Tryz.prog 131 ⟨[.pointer x9, .int .i64 x2]⟩ h36 fun v38 h39 => vInt .i64 v38 fun i40 => Spl (i40 < (0 : Int)) (Kr false h39) (HCalls Tryz.prog 140 ⟨[.pointer x0, .int .i64 x1, .int .i64 x3]⟩ h39 fun v41 h42 => vBool v41 fun b43 => cond b43 (Kr false h42) (K2 x0 x1 x2 x3 x9 x10 h42))))))) fun x0 x1 x2 x3 x9 x10 h => sqF L3 (fun K1 => HCalls Tryz.prog 141 ⟨[.pointer x0, .int .i64 x3]⟩ h fun v29 h30 => vBool v29 fun b31 => cond b31 (K1 x1 x2 x3 x9 x10 h30) (K1 x1 x2 x3 x9 x10 h30)) fun x1 x2 x3 x9 x10 h => n5 x1 x2 x3 x9 x10 Kr Kr h) fun y8 h => K (.bool y8) h
theorem ok (hS : asks x0 x1 x2 x3 K h) : HCalls Tryz.prog 65 ⟨[.pointer x0, .int .i64 x1, .int .i64 x2, .int .i64 x3]⟩ h K :=
  cl Tryz.func65 hS (fun hg hS => sq (l := L1) hg hS fun hg hS => sq (l := L2) hg hS fun hg hS => sq (l := L2) hg hS fun hg hS => sq (l := L3) hg hS fun hg hS => lf hg hS) fun hg hS => rt hg hS
end Sx.dom_Tree_Put
namespace Sx.dom_Tree_Write
abbrev L0 : List Sl := [.o 8 .b]
abbrev L1 : List Sl := [.o 0 .p, .o 1 (.i .i64), .o 2 (.i .i64), .o 3 .s]
abbrev L4 : List Sl := [.o 0 .p, .o 1 (.i .i64), .o 2 (.i .i64), .o 3 .s, .o 9 .p, .o 10 (.i .i64), .o 29 .b]
abbrev L3 : List Sl := [.o 0 .p, .o 1 (.i .i64), .o 2 (.i .i64), .o 3 .s, .o 9 .p, .o 10 (.i .i64)]
abbrev L2 : List Sl := [.o 0 .p, .o 1 (.i .i64), .o 2 (.i .i64), .o 3 .s, .o 9 .p]
abbrev T0 := TK L0
variable (x0 : Option Addr) (x1 x2 : Int) (x3 : List UInt8)
abbrev n6 (Kn Kr : T0) (h : H) : Prop :=
  HCalls Tryz.prog 66 ⟨[.pointer x0, (.agg ⟨[.int .u8 (2 : Int), .int .u8 (0 : Int), S ([] : List UInt8), .slice none 0 0, S x3, .slice none 0 0]⟩)]⟩ h fun v1 h2 => vInt .i64 v1 fun i3 => HCalls Tryz.prog 65 ⟨[.pointer x0, .int .i64 x1, .int .i64 x2, .int .i64 i3]⟩ h2 fun v4 h5 => vBool v4 fun b6 => cond b6 (Kr true h5) (Kr false h5)
variable (K : Value -> H -> Prop) (h : H)
abbrev asks (x0 : Option Addr) (x1 x2 : Int) (x3 : List UInt8) (K : Value -> H -> Prop) (h : H) : Prop := cF L0 (fun Kr => sqF L1 (fun K7 => K7 x0 x1 x2 x3 h) fun x0 x1 x2 x3 h => sqF L2 (fun K6 => HCalls Tryz.prog 130 ⟨[.pointer x0, .int .i64 x1]⟩ h fun v30 h31 => vPtr v30 fun p32 => K6 x0 x1 x2 x3 p32 h31) fun x0 x1 x2 x3 x9 h => sqF L2 (fun K5 => SemH Tryz.prog (binS .eql 80 (.tmp 15) (.const (.pointer none)) (.pointer x9) (.pointer none)) h fun v24 h25 => vBool v24 fun b26 => cond b26 (Kr false h25) (HCalls Tryz.prog 131 ⟨[.pointer x9, .int .i64 x2]⟩ h25 fun v27 h28 => vInt .i64 v27 fun i29 => Spl (i29 < (0 : Int)) (Kr false h28) (K5 x0 x1 x2 x3 x9 h28))) fun x0 x1 x2 x3 x9 h => sqF L2 (fun K4 => Spl (x3 = ([] : List UInt8)) (Kr true h) (K4 x0 x1 x2 x3 x9 h)) fun x0 x1 x2 x3 x9 h => sqF L1 (fun K1 => sqF L3 (fun K3 => HCalls Tryz.prog 131 ⟨[.pointer x9, .int .i64 x2]⟩ h fun v21 h22 => vInt .i64 v21 fun i23 => K3 x0 x1 x2 x3 x9 i23 h22) fun x0 x1 x2 x3 x9 x10 h => sqF L4 (fun K2 => Spl (x10 > (0 : Int)) (K2 x0 x1 x2 x3 x9 x10 true h) (K2 x0 x1 x2 x3 x9 x10 false h)) fun x0 x1 x2 x3 x9 x10 x29 h => cond x29 (vSome x0 fun a7 => ∃ s8b s8n s8c, cell h (a7.add 0) = some (.slice s8b s8n s8c) /\ (vSome x9 fun a9 => ∃ s10b s10n s10c, cell h (a9.add 7) = some (.slice s10b s10n s10c) /\ (Rng .i64 (x10 - (1 : Int)) /\ ((0 <= (x10 - (1 : Int)) /\ (x10 - (1 : Int)) < (s10n : Int)) /\ (vSome s10b fun a11 => ∃ i12, cell h (a11.add (Int.toNat (x10 - (1 : Int)) * 1)) = some (.int .i64 i12) /\ ((0 <= i12 /\ i12 < (s8n : Int)) /\ (vSome s8b fun a13 => ∃ p14, cell h (a13.add (Int.toNat i12 * 1)) = some (.pointer p14) /\ (vSome p14 fun a15 => ∃ i16, cell h ((a15.add 0).add 0) = some (.int .u8 i16) /\ (Spl (i16 = (2 : Int)) (vSome p14 fun a17 => ∃ s18, cell h ((a17.add 0).add 4) = some (S s18) /\ (((s18.length + x3.length : Nat) : Int) <= 9223372036854775807 /\ (vSome p14 fun a19 => stL ((a19.add 0).add 4) [(S (s18 ++ x3))] 0 h fun h20 => Kr true h20))) (K1 x0 x1 x2 x3 h)))))))))) (K1 x0 x1 x2 x3 h)) fun x0 x1 x2 x3 h => n6 x0 x1 x2 x3 Kr Kr h) fun y8 h => K (.bool y8) h
theorem ok (hS : asks x0 x1 x2 x3 K h) : HCalls Tryz.prog 56 ⟨[.pointer x0, .int .i64 x1, .int .i64 x2, S x3]⟩ h K :=
  cl Tryz.func56 hS (fun hg hS => sq (l := L1) hg hS fun hg hS => sq (l := L2) hg hS fun hg hS => sq (l := L2) hg hS fun hg hS => sq (l := L2) hg hS fun hg hS => sc (l := L1) hS (fun hS => sq (l := L3) hg hS fun hg hS => sq (l := L4) hg hS fun hg hS => lf hg hS) fun hg hS => lf hg hS) fun hg hS => rt hg hS
end Sx.dom_Tree_Write
namespace Sx.dom_Tree_at
abbrev L0 : List Sl := [.o 4 .p]
variable (x0 : Option Addr) (x1 : Int)
variable (K : Value -> H -> Prop) (h : H)
abbrev asks : Prop := cF L0 (fun Kr => Spl (x1 < (0 : Int)) (Kr none h) (vSome x0 fun a1 => ∃ s2b s2n s2c, cell h (a1.add 0) = some (.slice s2b s2n s2c) /\ (Spl (x1 ≥ (s2n : Int)) (Kr none h) (vSome x0 fun a3 => ∃ s4b s4n s4c, cell h (a3.add 0) = some (.slice s4b s4n s4c) /\ ((0 <= x1 /\ x1 < (s4n : Int)) /\ (vSome s4b fun a5 => ∃ p6, cell h (a5.add (Int.toNat x1 * 1)) = some (.pointer p6) /\ (Kr p6 h))))))) fun y4 h => K (.pointer y4) h
theorem ok (hS : asks x0 x1 K h) : HCalls Tryz.prog 48 ⟨[.pointer x0, .int .i64 x1]⟩ h K :=
  cl Tryz.func48 hS (fun hg hS => lf hg hS) fun hg hS => rt hg hS
end Sx.dom_Tree_at
namespace Sx.slices_Clone_apiAttr
abbrev L0 : List Sl := [.o 2 .l]
variable (x0b : Option Addr) (x0n x0c : Nat)
variable (K : Value -> H -> Prop) (h : H)
abbrev asks : Prop := cF L0 (fun Kr => SemH Tryz.prog (binS .eql 43 (.tmp 3) (.const (.slice none 0 0)) (.slice x0b x0n x0c) (.slice none 0 0)) h fun v1 h2 => vBool v1 fun b3 => cond b3 (Kr none 0 0 h2) (newx h2 #[] 67 fun a4 h5 => SemH Tryz.prog (Builtin.append_ #[43, 43] 43 ⟨[.slice (some a4) 0 0, .slice x0b x0n x0c]⟩) h5 fun v6 h7 => vSlice v6 fun s8b s8n s8c => Kr s8b s8n s8c h7)) fun y2b y2n y2c h => K (.slice y2b y2n y2c) h
theorem ok (hS : asks x0b x0n x0c K h) : HCalls Tryz.prog 49 ⟨[.slice x0b x0n x0c]⟩ h K :=
  cl Tryz.func49 hS (fun hg hS => lf hg hS) fun hg hS => rt hg hS
end Sx.slices_Clone_apiAttr
namespace Sx.dom_Tree_holder
abbrev L0 : List Sl := [.o 4 .p]
variable (x0 : Option Addr) (x1 : Int)
variable (K : Value -> H -> Prop) (h : H)
abbrev asks : Prop := cF L0 (fun Kr => HCalls Tryz.prog 48 ⟨[.pointer x0, .int .i64 x1]⟩ h fun v1 h2 => vPtr v1 fun p3 => SemH Tryz.prog (binS .eql 80 (.tmp 9) (.const (.pointer none)) (.pointer p3) (.pointer none)) h2 fun v4 h5 => vBool v4 fun b6 => cond b6 (Kr none h5) (Spl (x1 > (0 : Int)) (vSome p3 fun a7 => ∃ i8, cell h5 ((a7.add 0).add 0) = some (.int .u8 i8) /\ (Spl (i8 = (1 : Int)) (Kr p3 h5) (Kr none h5))) (Kr p3 h5))) fun y4 h => K (.pointer y4) h
theorem ok (hS : asks x0 x1 K h) : HCalls Tryz.prog 130 ⟨[.pointer x0, .int .i64 x1]⟩ h K :=
  cl Tryz.func130 hS (fun hg hS => lf hg hS) fun hg hS => rt hg hS
end Sx.dom_Tree_holder
namespace Sx.dom_node_index
abbrev L0 : List Sl := [.o 4 (.i .i64)]
variable (x0 : Option Addr) (x1 : Int)
variable (K : Value -> H -> Prop) (h : H)
abbrev asks : Prop := cF L0 (fun Kr => Spl (x1 = (-1 : Int)) (vSome x0 fun a1 => ∃ s2b s2n s2c, cell h (a1.add 7) = some (.slice s2b s2n s2c) /\ (Kr (s2n : Int) h)) (vSome x0 fun a3 => ∃ s4b s4n s4c, cell h (a3.add 7) = some (.slice s4b s4n s4c) /\ (HCalls Tryz.prog 180 ⟨[.slice s4b s4n s4c, .int .i64 x1]⟩ h fun v5 h6 => vInt .i64 v5 fun i7 => Kr i7 h6))) fun y4 h => K (.int .i64 y4) h
theorem ok (hS : asks x0 x1 K h) : HCalls Tryz.prog 131 ⟨[.pointer x0, .int .i64 x1]⟩ h K :=
  cl Tryz.func131 hS (fun hg hS => lf hg hS) fun hg hS => rt hg hS
end Sx.dom_node_index
namespace Sx.dom_Tree_within
noncomputable def code : Code := bodyOf Tryz.f140
abbrev T0 := Addr -> (List Deferred) -> H -> Prop
def E0 (g : Env) (x6 : Addr) (ds : List Deferred) : Prop := g.v 6 = (.pointer (some x6)) /\ g.ds = ds
def D0 (K : T0) (g : Env) (h : H) : Prop := vAddr (g.v 6) fun a1 => K a1 g.ds h
theorem D0_ok {K : T0} {g : Env} {h : H} (hq : D0 K g h) : ∃ (x6 : Addr) (ds : List Deferred), E0 g x6 ds /\ K x6 ds h := by
  obtain ⟨y3, e2, q4⟩ := vAddr_ok hq
  exact ⟨y3, g.ds, ⟨e2, rfl⟩, q4⟩
def Q0 (Kn Kr : T0) : XPost
  | .normal, g, h => D0 Kn g h
  | .ret, g, h => D0 Kr g h
  | _, _, _ => False
def E1 (g : Env) (x0 : Option Addr) (x1 x2 : Int) (ds : List Deferred) : Prop := g.v 0 = (.pointer x0) /\ g.v 1 = (.int .i64 x1) /\ g.v 2 = (.int .i64 x2) /\ g.ds = ds
noncomputable def n1_c1 : Code := cFst code
noncomputable def n1_c2 : Code := cSnd code
abbrev T2 := (Option Addr) -> Int -> Addr -> Addr -> (List Deferred) -> H -> Prop
def E2 (g : Env) (x0 : Option Addr) (x1 : Int) (x5 x6 : Addr) (ds : List Deferred) : Prop := g.v 0 = (.pointer x0) /\ g.v 1 = (.int .i64 x1) /\ g.v 5 = (.pointer (some x5)) /\ g.v 6 = (.pointer (some x6)) /\ g.ds = ds
def D2 (K : T2) (g : Env) (h : H) : Prop := vPtr (g.v 0) fun p17 => vInt .i64 (g.v 1) fun i18 => vAddr (g.v 5) fun a19 => vAddr (g.v 6) fun a20 => K p17 i18 a19 a20 g.ds h
theorem D2_ok {K : T2} {g : Env} {h : H} (hq : D2 K g h) : ∃ (x0 : Option Addr) (x1 : Int) (x5 x6 : Addr) (ds : List Deferred), E2 g x0 x1 x5 x6 ds /\ K x0 x1 x5 x6 ds h := by
  obtain ⟨y22, e21, q23⟩ := vPtr_ok hq
  obtain ⟨y25, e24, q26⟩ := vInt_ok q23
  obtain ⟨y28, e27, q29⟩ := vAddr_ok q26
  obtain ⟨y31, e30, q32⟩ := vAddr_ok q29
  exact ⟨y22, y25, y28, y31, g.ds, ⟨e21, e24, e27, e30, rfl⟩, q32⟩
noncomputable def n2_c1 : Code := cFst n1_c2
noncomputable def n2_c2 : Code := cSnd n1_c2
abbrev n3 (x6 : Addr) (ds : List Deferred) (Kn Kr : T0) (h : H) : Prop :=
  stL x6 [.bool false] 0 h fun h33 => Kr x6 ds h33
theorem n3_ok (x6 : Addr) (ds : List Deferred) (Kn Kr : T0) (g : Env) (hg : E0 g x6 ds) (h : H) (hS : n3 x6 ds Kn Kr h) : wpC none Tryz.prog 15 n2_c2 (Q0 Kn Kr) g h := by
  obtain ⟨hg6, hds⟩ := hg
  refine wpC_of_wpx (by kernel_rfl) (by kernel_rfl) (g' := (⟨g.v, ds⟩ : Env).upd (some 6) (.pointer (some x6))) (by rw [env_ds hds, upd_self hg6]) ?_
  have e : (n3 x6 ds Kn Kr h) = wpx none Tryz.prog 15 n2_c2 (Q0 Kn Kr) ((⟨g.v, ds⟩ : Env).upd (some 6) (.pointer (some x6))) h := by kernel_rfl
  exact e ▸ hS
noncomputable def n4_c1 : Code := cFst n2_c1
noncomputable def n4_c2 : Code := cSnd n2_c1
abbrev T3 := Addr -> Addr -> Value -> (List Deferred) -> H -> Prop
def E3 (g : Env) (x5 x6 : Addr) (x10 : Value) (ds : List Deferred) : Prop := g.v 5 = (.pointer (some x5)) /\ g.v 6 = (.pointer (some x6)) /\ g.v 10 = x10 /\ g.ds = ds
def D3 (K : T3) (g : Env) (h : H) : Prop := vAddr (g.v 5) fun a34 => vAddr (g.v 6) fun a35 => K a34 a35 (g.v 10) g.ds h
theorem D3_ok {K : T3} {g : Env} {h : H} (hq : D3 K g h) : ∃ (x5 x6 : Addr) (x10 : Value) (ds : List Deferred), E3 g x5 x6 x10 ds /\ K x5 x6 x10 ds h := by
  obtain ⟨y37, e36, q38⟩ := vAddr_ok hq
  obtain ⟨y40, e39, q41⟩ := vAddr_ok q38
  exact ⟨y37, y40, (g.v 10), g.ds, ⟨e36, e39, rfl, rfl⟩, q41⟩
noncomputable def n5_c1 : Code := cFst n4_c2
def Q1 (Kn Ke0 Kr : T0) : XPost
  | .normal, g, h => D0 Kn g h
  | .ret, g, h => D0 Kr g h
  | .exit id, g, h => cond (Nat.beq id 0) (D0 Ke0 g h) (False)
  | _, _, _ => False
noncomputable def n6_c1 : Code := cFst n5_c1
noncomputable def n6_c2 : Code := cSnd n5_c1
def n6_rd (x5 x6 : Addr) (x10 : Value) (ds : List Deferred) (Kn Ke0 Kr : T0) (h : H) (p11 : Int) (Mid : H -> (H -> Prop) -> Prop) (Kc : H -> H -> Prop) (Fin : H -> H -> (H -> Prop) -> Prop) (h1 : H) : Prop :=
  Mid h1 fun hb42 => ∃ i43, cell hb42 x5 = some (.int .i64 i43) /\ (Spl (p11 = i43) (stL x6 [.bool true] 0 hb42 fun h44 => Fin hb42 h44 fun h45 => Kr x6 (markD h.size :: ds) h45) (Kc hb42 hb42))
abbrev n6 (x5 x6 : Addr) (x10 : Value) (ds : List Deferred) (Kn Ke0 Kr : T0) (h : H) : Prop := Ranges Tryz.prog x10 1 h (fun l46 Mid Kc Fin h1 => uncons l46 fun e47 l48 => vInt .i64 e47 fun i49 => unnil l48 (n6_rd x5 x6 x10 ds Kn Ke0 Kr h i49 Mid Kc Fin h1)) (fun h4 => Kn x6 (markD h.size :: ds) h4)
theorem n6_ok (x5 x6 : Addr) (x10 : Value) (ds : List Deferred) (Kn Ke0 Kr : T0) (g : Env) (hg : E3 g x5 x6 x10 ds) (h : H) (hS : n6 x5 x6 x10 ds Kn Ke0 Kr h) : wpC none Tryz.prog 15 n5_c1 (Q1 Kn Ke0 Kr) g h := by
  obtain ⟨hg5, hg6, hg10, hds⟩ := hg
  subst hds
  have ho : ((((⟨g.v, g.ds⟩ : Env).upd (some 5) (.pointer (some x5))).upd (some 6) (.pointer (some x6))).upd (some 10) x10 : Env) = g := by rw [env_ds rfl, upd_self hg5, upd_self hg6, upd_self hg10]
  have hc : n5_c1 = .rangeFunc (.tmp 10) #[11] n6_c1 n6_c2 := by kernel_rfl
  rw [hc]
  refine wpC_range (f := x10) (rd := (fun l46 Mid Kc Fin h1 => uncons l46 fun e47 l48 => vInt .i64 e47 fun i49 => unnil l48 (n6_rd x5 x6 x10 g.ds Kn Ke0 Kr h i49 Mid Kc Fin h1))) (done := (fun h4 => Kn x6 (markD h.size :: g.ds) h4)) ?_ hS ?_ ?_
  · rw [<- ho]; kernel_rfl
  · intro h4 hd
    have e : (Kn x6 (markD h.size :: g.ds) h4) = (Q1 Kn Ke0 Kr) .normal ⟨((((⟨g.v, g.ds⟩ : Env).upd (some 5) (.pointer (some x5))).upd (some 6) (.pointer (some x6))).upd (some 10) x10).v, markD h.size :: g.ds⟩ h4 := by kernel_rfl
    rw [ho] at e
    exact e ▸ hd
  · intro L x Mid Kc Fin h1 hM hx
    obtain ⟨u50, l51, rfl, q52⟩ := uncons_ok hx
    obtain ⟨y53, rfl, q54⟩ := vInt_ok q52
    obtain ⟨rfl, q55⟩ := unnil_ok q54
    have e : (n6_rd x5 x6 x10 g.ds Kn Ke0 Kr h y53 Mid Kc Fin h1) = wpx (some L) Tryz.prog 15 n6_c1 (thenX (fun g1 he => Mid he fun hb => wpx (some L) Tryz.prog 15 n6_c2 (rpost Kc Fin (Q1 Kn Ke0 Kr) ⟨((((⟨g.v, g.ds⟩ : Env).upd (some 5) (.pointer (some x5))).upd (some 6) (.pointer (some x6))).upd (some 10) x10).v, markD h.size :: g.ds⟩ hb) g1 hb) fun _ _ _ => False) (setps ((((⟨g.v, g.ds⟩ : Env).upd (some 5) (.pointer (some x5))).upd (some 6) (.pointer (some x6))).upd (some 10) x10) [11] [.int .i64 y53]) h1 := by kernel_rfl
    rw [ho] at e
    exact (wpx_ok (by kernel_rfl) _ _ _ _ (by kernel_rfl) (e ▸ q55)).mono (thenX_mono fun g1 he hm => hM he _ _ (fun hb => wpx_ok (by kernel_rfl) _ _ _ _ (by kernel_rfl)) hm)
abbrev n5 (x5 x6 : Addr) (x10 : Value) (ds : List Deferred) (Kn Kr : T0) (h : H) : Prop := n6 x5 x6 x10 ds Kn Kn Kr h
theorem n5_ok (x5 x6 : Addr) (x10 : Value) (ds : List Deferred) (Kn Kr : T0) (g : Env) (hg : E3 g x5 x6 x10 ds) (h : H) (hS : n5 x5 x6 x10 ds Kn Kr h) : wpC none Tryz.prog 15 n4_c2 (Q0 Kn Kr) g h := by
  refine wpC_block' (id := 0) (x := n5_c1) (by kernel_rfl) (n6_ok x5 x6 x10 ds Kn Kn Kr g hg h hS) ?_
  intro e g' h' hq
  cases e <;> exact hq
def Q2 (Kn : T3) (Kr : T0) : XPost
  | .normal, g, h => D3 Kn g h
  | .ret, g, h => D0 Kr g h
  | _, _, _ => False
abbrev n4 (x0 : Option Addr) (x1 : Int) (x5 x6 : Addr) (ds : List Deferred) (Kn Kr : T0) (h : H) : Prop :=
  HCalls Tryz.prog 185 ⟨[.pointer x0, .int .i64 x1]⟩ h fun v56 h57 => n5 x5 x6 v56 ds Kn Kr h57
theorem n4_ok (x0 : Option Addr) (x1 : Int) (x5 x6 : Addr) (ds : List Deferred) (Kn Kr : T0) (g : Env) (hg : E2 g x0 x1 x5 x6 ds) (h : H) (hS : n4 x0 x1 x5 x6 ds Kn Kr h) : wpC none Tryz.prog 15 n2_c1 (Q0 Kn Kr) g h := by
  obtain ⟨hg0, hg1, hg5, hg6, hds⟩ := hg
  refine wpC_seq' (x := n4_c1) (y := n4_c2) (Q' := (Q2 (fun z5 z6 z10 zds h => n5 z5 z6 z10 zds Kn Kr h) Kr)) (by kernel_rfl) ?_ ?_
  · refine wpC_of_wpx (by kernel_rfl) (by kernel_rfl) (g' := ((((⟨g.v, ds⟩ : Env).upd (some 0) (.pointer x0)).upd (some 1) (.int .i64 x1)).upd (some 5) (.pointer (some x5))).upd (some 6) (.pointer (some x6))) (by rw [env_ds hds, upd_self hg0, upd_self hg1, upd_self hg5, upd_self hg6]) ?_
    have e : (n4 x0 x1 x5 x6 ds Kn Kr h) = wpx none Tryz.prog 15 n4_c1 (Q2 (fun z5 z6 z10 zds h => n5 z5 z6 z10 zds Kn Kr h) Kr) (((((⟨g.v, ds⟩ : Env).upd (some 0) (.pointer x0)).upd (some 1) (.int .i64 x1)).upd (some 5) (.pointer (some x5))).upd (some 6) (.pointer (some x6))) h := by kernel_rfl
    exact e ▸ hS
  · intro e g' h' hq
    cases e with
    | normal =>
      have hq : D3 (fun z5 z6 z10 zds h => n5 z5 z6 z10 zds Kn Kr h) g' h' := hq
      obtain ⟨y5, y6, y10, yds, hg', hq⟩ := D3_ok hq
      exact n5_ok y5 y6 y10 yds Kn Kr g' hg' h' hq
    | _ => exact hq
abbrev n2 (x0 : Option Addr) (x1 : Int) (x5 x6 : Addr) (ds : List Deferred) (Kn Kr : T0) (h : H) : Prop := n4 x0 x1 x5 x6 ds (fun z6 zds h => n3 z6 zds Kn Kr h) Kr h
theorem n2_ok (x0 : Option Addr) (x1 : Int) (x5 x6 : Addr) (ds : List Deferred) (Kn Kr : T0) (g : Env) (hg : E2 g x0 x1 x5 x6 ds) (h : H) (hS : n2 x0 x1 x5 x6 ds Kn Kr h) : wpC none Tryz.prog 15 n1_c2 (Q0 Kn Kr) g h := by
  refine wpC_seq' (x := n2_c1) (y := n2_c2) (by kernel_rfl) (n4_ok x0 x1 x5 x6 ds (fun z6 zds h => n3 z6 zds Kn Kr h) Kr g hg h hS) ?_
  intro e g' h' hq
  cases e with
  | normal =>
    have hq : D0 (fun z6 zds h => n3 z6 zds Kn Kr h) g' h' := hq
    obtain ⟨y6, yds, hg', hq⟩ := D0_ok hq
    exact n3_ok y6 yds Kn Kr g' hg' h' hq
  | _ => exact hq
def Q3 (Kn : T2) (Kr : T0) : XPost
  | .normal, g, h => D2 Kn g h
  | .ret, g, h => D0 Kr g h
  | _, _, _ => False
abbrev n1 (x0 : Option Addr) (x1 x2 : Int) (ds : List Deferred) (Kn Kr : T0) (h : H) : Prop :=
  newx h #[.int .i64 x2] 3 fun a58 h59 => newx h59 #[.bool false] 4 fun a60 h61 => n2 x0 x1 a58 a60 ds Kn Kr h61
theorem n1_ok (x0 : Option Addr) (x1 x2 : Int) (ds : List Deferred) (Kn Kr : T0) (g : Env) (hg : E1 g x0 x1 x2 ds) (h : H) (hS : n1 x0 x1 x2 ds Kn Kr h) : wpC none Tryz.prog 15 code (Q0 Kn Kr) g h := by
  obtain ⟨hg0, hg1, hg2, hds⟩ := hg
  refine wpC_seq' (x := n1_c1) (y := n1_c2) (Q' := (Q3 (fun z0 z1 z5 z6 zds h => n2 z0 z1 z5 z6 zds Kn Kr h) Kr)) (by kernel_rfl) ?_ ?_
  · refine wpC_of_wpx (by kernel_rfl) (by kernel_rfl) (g' := (((⟨g.v, ds⟩ : Env).upd (some 0) (.pointer x0)).upd (some 1) (.int .i64 x1)).upd (some 2) (.int .i64 x2)) (by rw [env_ds hds, upd_self hg0, upd_self hg1, upd_self hg2]) ?_
    have e : (n1 x0 x1 x2 ds Kn Kr h) = wpx none Tryz.prog 15 n1_c1 (Q3 (fun z0 z1 z5 z6 zds h => n2 z0 z1 z5 z6 zds Kn Kr h) Kr) ((((⟨g.v, ds⟩ : Env).upd (some 0) (.pointer x0)).upd (some 1) (.int .i64 x1)).upd (some 2) (.int .i64 x2)) h := by kernel_rfl
    exact e ▸ hS
  · intro e g' h' hq
    cases e with
    | normal =>
      have hq : D2 (fun z0 z1 z5 z6 zds h => n2 z0 z1 z5 z6 zds Kn Kr h) g' h' := hq
      obtain ⟨y0, y1, y5, y6, yds, hg', hq⟩ := D2_ok hq
      exact n2_ok y0 y1 y5 y6 yds Kn Kr g' hg' h' hq
    | _ => exact hq
abbrev asks (x0 : Option Addr) (x1 x2 : Int) (K : Value -> H -> Prop) (h : H) : Prop := n1 x0 x1 x2 [] (fun y6 ds h => leaveX ds h fun h => ∃ b62, cell h y6 = some (.bool b62) /\ (K (.bool b62) h)) (fun y6 ds h => leaveX ds h fun h => ∃ b62, cell h y6 = some (.bool b62) /\ (K (.bool b62) h)) h
theorem ok (x0 : Option Addr) (x1 x2 : Int) (K : Value -> H -> Prop) (h : H) (hS : asks x0 x1 x2 K h) : HCalls Tryz.prog 140 ⟨[.pointer x0, .int .i64 x1, .int .i64 x2]⟩ h K := by
  refine calls_of_wpC (c := code) Tryz.func140 (by kernel_rfl) (Nat.le_of_ble_eq_true (by kernel_rfl)) ?_
  refine (n1_ok x0 x1 x2 [] (fun y6 ds h => leaveX ds h fun h => ∃ b62, cell h y6 = some (.bool b62) /\ (K (.bool b62) h)) (fun y6 ds h => leaveX ds h fun h => ∃ b62, cell h y6 = some (.bool b62) /\ (K (.bool b62) h)) (env0 [.pointer x0, .int .i64 x1, .int .i64 x2]) ⟨rfl, rfl, rfl, rfl⟩ h hS).mono ?_
  intro e g' h' hq
  cases e with
  | normal =>
    have hq : D0 (fun y6 ds h => leaveX ds h fun h => ∃ b62, cell h y6 = some (.bool b62) /\ (K (.bool b62) h)) g' h' := hq
    obtain ⟨y6, ds, ⟨hg6, hd⟩, hq⟩ := D0_ok hq
    show leaveX g'.ds h' _
    rw [hd]
    show leaveX ds h' fun h => vAddr (g'.v 6) fun a63 => ldx Tryz.prog 4 a63 h fun v64 => K v64 h
    rw [hg6]
    exact hq
  | ret =>
    have hq : D0 (fun y6 ds h => leaveX ds h fun h => ∃ b62, cell h y6 = some (.bool b62) /\ (K (.bool b62) h)) g' h' := hq
    obtain ⟨y6, ds, ⟨hg6, hd⟩, hq⟩ := D0_ok hq
    show leaveX g'.ds h' _
    rw [hd]
    show leaveX ds h' fun h => vAddr (g'.v 6) fun a63 => ldx Tryz.prog 4 a63 h fun v64 => K v64 h
    rw [hg6]
    exact hq
  | _ => exact hq
end Sx.dom_Tree_within
namespace Sx.dom_Tree_Cut
abbrev L0 : List Sl := [.o 4 .b]
variable (x0 : Option Addr) (x1 : Int)
variable (K : Value -> H -> Prop) (h : H)
abbrev asks : Prop := cF L0 (fun Kr => HCalls Tryz.prog 48 ⟨[.pointer x0, .int .i64 x1]⟩ h fun v1 h2 => vPtr v1 fun p3 => SemH Tryz.prog (binS .eql 80 (.tmp 11) (.const (.pointer none)) (.pointer p3) (.pointer none)) h2 fun v4 h5 => vBool v4 fun b6 => cond b6 (Kr false h5) (vSome p3 fun a7 => ∃ i8, cell h5 (a7.add 6) = some (.int .i64 i8) /\ (Spl (i8 < (0 : Int)) (Kr false h5) (vSome x0 fun a9 => ∃ s10b s10n s10c, cell h5 (a9.add 0) = some (.slice s10b s10n s10c) /\ (vSome p3 fun a11 => ∃ i12, cell h5 (a11.add 6) = some (.int .i64 i12) /\ ((0 <= i12 /\ i12 < (s10n : Int)) /\ (vSome s10b fun a13 => ∃ p14, cell h5 (a13.add (Int.toNat i12 * 1)) = some (.pointer p14) /\ (HCalls Tryz.prog 131 ⟨[.pointer p14, .int .i64 x1]⟩ h5 fun v15 h16 => vInt .i64 v15 fun i17 => vSome p14 fun a18 => ∃ s19b s19n s19c, cell h16 (a18.add 7) = some (.slice s19b s19n s19c) /\ (Rng .i64 (i17 + (1 : Int)) /\ (HCalls Tryz.prog 186 ⟨[.slice s19b s19n s19c, .int .i64 i17, .int .i64 (i17 + (1 : Int))]⟩ h16 fun v20 h21 => vSlice v20 fun s22b s22n s22c => vSome p14 fun a23 => stL (a23.add 7) [.slice s22b s22n s22c] 0 h21 fun h24 => vSome p3 fun a25 => stL (a25.add 6) [.int .i64 (-1 : Int)] 0 h24 fun h26 => Kr true h26)))))))))) fun y4 h => K (.bool y4) h
theorem ok (hS : asks x0 x1 K h) : HCalls Tryz.prog 141 ⟨[.pointer x0, .int .i64 x1]⟩ h K :=
  cl Tryz.func141 hS (fun hg hS => lf hg hS) fun hg hS => rt hg hS
end Sx.dom_Tree_Cut
namespace Sx.slices_Index_int
abbrev L0 : List Sl := [.o 4 (.i .i64)]
abbrev L2 : List Sl := []
abbrev L3 : List Sl := [.o 0 .l, .o 1 (.i .i64), .o 7 (.i .i64), .o 8 (.i .i64)]
abbrev L1 : List Sl := [.o 0 .l, .o 1 (.i .i64)]
abbrev T0 := TK L0
abbrev T2 := TK L2
abbrev T3 := TK L3
variable (x0b : Option Addr) (x0n x0c : Nat) (x1 : Int)
abbrev n3 (Kn Kr : T0) (h : H) : Prop :=
  Kr (-1 : Int) h
abbrev n6_B (Kn Ke0 : T2) (Kr : T0) : T3 -> T3 := fun K2 x0b x0n x0c x1 x7 x8 h => Spl (x8 < x7) ((0 <= x8 /\ x8 < (x0n : Int)) /\ (vSome x0b fun a1 => ∃ i2, cell h (a1.add (Int.toNat x8 * 1)) = some (.int .i64 i2) /\ (Spl (x1 = i2) (Kr x8 h) (Rng .i64 (x8 + (1 : Int)) /\ (K2 x0b x0n x0c x1 x7 (x8 + (1 : Int)) h))))) (Ke0 h)
abbrev n6_L (Kn Ke0 : T2) (Kr : T0) : Nat -> T3 := LP L3 (n6_B Kn Ke0 Kr)
variable (K : Value -> H -> Prop) (h : H)
abbrev asks (x0b : Option Addr) (x0n x0c : Nat) (x1 : Int) (K : Value -> H -> Prop) (h : H) : Prop := cF L0 (fun Kr => sqF L1 (fun K4 => K4 x0b x0n x0c x1 h) fun x0b x0n x0c x1 h => sqF L2 (fun K1 => sqF L3 (fun K3 => K3 x0b x0n x0c x1 (x0n : Int) (0 : Int) h) fun x0b x0n x0c x1 x7 x8 h => lpF L3 (n6_B K1 K1 Kr) fun K2 => K2 x0b x0n x0c x1 x7 x8 h) fun h => n3 Kr Kr h) fun y4 h => K (.int .i64 y4) h
theorem ok (hS : asks x0b x0n x0c x1 K h) : HCalls Tryz.prog 180 ⟨[.slice x0b x0n x0c, .int .i64 x1]⟩ h K :=
  cl Tryz.func180 hS (fun hg hS => sq (l := L1) hg hS fun hg hS => sc (l := L2) hS (fun hS => sq (l := L3) hg hS fun hg hS => bl (b := 0) (lp hg hS fun hg hS => lf hg hS)) fun hg hS => lf hg hS) fun hg hS => rt hg hS
end Sx.slices_Index_int
namespace Sx.dom_Tree_above
abbrev L0 : List Sl := [.o 4 .r]
variable (x0 : Option Addr) (x1 : Int)
variable (K : Value -> H -> Prop) (h : H)
abbrev asks : Prop := cF L0 (fun Kr => newx h #[.pointer x0] 38 fun a1 h2 => newx h2 #[.int .i64 x1] 3 fun a3 h4 => Kr (.func (.func 213) ⟨[]⟩ ⟨[.pointer (some a3), .pointer (some a1)]⟩) h4) fun y4 h => K y4 h
theorem ok (hS : asks x0 x1 K h) : HCalls Tryz.prog 185 ⟨[.pointer x0, .int .i64 x1]⟩ h K :=
  cl Tryz.func185 hS (fun hg hS => lf hg hS) fun hg hS => rt hg hS
end Sx.dom_Tree_above
namespace Sx.dom_Tree_above_1
abbrev L0 : List Sl := []
abbrev L1 : List Sl := [.o 0 .r, .o 1 .a, .o 2 .a]
abbrev T0 := TK L0
abbrev T1 := TK L1
variable (x0 : Value) (x1 x2 : Addr)
abbrev n2_B (Kn Ke0 Kr : T0) : T1 -> T1 := fun K1 x0 x1 x2 h => ∃ i1, cell h x1 = some (.int .i64 i1) /\ (Spl (i1 ≥ (0 : Int)) (∃ i2, cell h x1 = some (.int .i64 i2) /\ (CallV Tryz.prog 4 x0 ⟨[.int .i64 i2]⟩ h fun v3 h4 => vBool v3 fun b5 => cond b5 (∃ p6, cell h4 x2 = some (.pointer p6) /\ (vSome p6 fun a7 => ∃ s8b s8n s8c, cell h4 (a7.add 0) = some (.slice s8b s8n s8c) /\ (∃ i9, cell h4 x1 = some (.int .i64 i9) /\ ((0 <= i9 /\ i9 < (s8n : Int)) /\ (vSome s8b fun a10 => ∃ p11, cell h4 (a10.add (Int.toNat i9 * 1)) = some (.pointer p11) /\ (vSome p11 fun a12 => ∃ i13, cell h4 (a12.add 6) = some (.int .i64 i13) /\ (stL x1 [.int .i64 i13] 0 h4 fun h14 => K1 x0 x1 x2 h14))))))) (Ke0 h4))) (Ke0 h))
abbrev n2_L (Kn Ke0 Kr : T0) : Nat -> T1 := LP L1 (n2_B Kn Ke0 Kr)
variable (K : Value -> H -> Prop) (h : H)
abbrev asks : Prop := cF L0 (fun Kr => lpF L1 (n2_B Kr Kr Kr) fun K1 => K1 x0 x1 x2 h) fun h => K (.tuple ⟨[]⟩) h
theorem ok (hS : asks x0 x1 x2 K h) : HCalls Tryz.prog 213 ⟨[x0, .pointer (some x1), .pointer (some x2)]⟩ h K :=
  cl Tryz.func213 hS (fun hg hS => bl (b := 0) (lp hg hS fun hg hS => lf hg hS)) fun hg hS => rt hg hS
end Sx.dom_Tree_above_1
namespace Sx.dom_Tree_Whole
abbrev L0 : List Sl := [.o 4 .l]
abbrev L4 : List Sl := [.o 6 .l]
abbrev L5 : List Sl := [.o 0 .p, .o 6 .l, .o 18 .l, .o 19 (.i .i64), .o 20 (.i .i64)]
abbrev L3 : List Sl := [.o 0 .p, .o 5 .p, .o 6 .l]
abbrev L2 : List Sl := [.o 0 .p, .o 5 .p]
abbrev L1 : List Sl := [.o 0 .p, .o 1 (.i .i64)]
abbrev T0 := TK L0
abbrev T4 := TK L4
abbrev T5 := TK L5
variable (x0 : Option Addr) (x1 : Int) (x6b : Option Addr) (x6n x6c : Nat)
abbrev n6 (Kn Kr : T0) (h : H) : Prop :=
  Kr x6b x6n x6c h
abbrev n9_B (Kn Ke0 : T4) (Kr : T0) : T5 -> T5 := fun K2 x0 x6b x6n x6c x18b x18n x18c x19 x20 h => Spl (x20 < x19) ((0 <= x20 /\ x20 < (x18n : Int)) /\ (vSome x18b fun a1 => ∃ i2, cell h (a1.add (Int.toNat x20 * 1)) = some (.int .i64 i2) /\ (vSome x0 fun a3 => ∃ s4b s4n s4c, cell h (a3.add 0) = some (.slice s4b s4n s4c) /\ ((0 <= i2 /\ i2 < (s4n : Int)) /\ (vSome s4b fun a5 => ∃ p6, cell h (a5.add (Int.toNat i2 * 1)) = some (.pointer p6) /\ (vSome p6 fun a7 => ∃ i8, cell h (((a7.add 0)).add 0) = some (.int .u8 i8) /\ (∃ i9, cell h (((a7.add 0)).add 1) = some (.int .u8 i9) /\ (∃ s10, cell h (((a7.add 0)).add 2) = some (S s10) /\ (∃ s11b s11n s11c, cell h (((a7.add 0)).add 3) = some (.slice s11b s11n s11c) /\ (∃ s12, cell h (((a7.add 0)).add 4) = some (S s12) /\ (∃ s13b s13n s13c, cell h (((a7.add 0)).add 5) = some (.slice s13b s13n s13c) /\ (newx h ⟨[.int .u8 (0 : Int), .int .u8 (0 : Int), S ([] : List UInt8), .slice none 0 0, S ([] : List UInt8), .slice none 0 0]⟩ 70 fun a14 h15 => stL a14 [.int .u8 i8, .int .u8 i9, S s10, .slice s11b s11n s11c, S s12, .slice s13b s13n s13c] 0 h15 fun h16 => ∃ s17b s17n s17c, cell h16 (a14.add 3) = some (.slice s17b s17n s17c) /\ (HCalls Tryz.prog 49 ⟨[.slice s17b s17n s17c]⟩ h16 fun v18 h19 => vSlice v18 fun s20b s20n s20c => HCalls Tryz.prog 25 ⟨[.pointer x0, .int .i64 i2]⟩ h19 fun v21 h22 => vSlice v21 fun s23b s23n s23c => stL (a14.add 3) [.slice s20b s20n s20c] 0 h22 fun h24 => stL (a14.add 5) [.slice s23b s23n s23c] 0 h24 fun h25 => ∃ i26, cell h25 (a14.add 0) = some (.int .u8 i26) /\ (∃ i27, cell h25 (a14.add 1) = some (.int .u8 i27) /\ (∃ s28, cell h25 (a14.add 2) = some (S s28) /\ (∃ s29b s29n s29c, cell h25 (a14.add 3) = some (.slice s29b s29n s29c) /\ (∃ s30, cell h25 (a14.add 4) = some (S s30) /\ (∃ s31b s31n s31c, cell h25 (a14.add 5) = some (.slice s31b s31n s31c) /\ (newx h25 #[.int .u8 i26, .int .u8 i27, S s28, .slice s29b s29n s29c, S s30, .slice s31b s31n s31c] 70 fun a32 h33 => SemH Tryz.prog (Builtin.append_ #[25, 25] 25 ⟨[.slice x6b x6n x6c, .slice (some a32) 1 1]⟩) h33 fun v34 h35 => vSlice v34 fun s36b s36n s36c => Rng .i64 (x20 + (1 : Int)) /\ (K2 x0 s36b s36n s36c x18b x18n x18c x19 (x20 + (1 : Int)) h35)))))))))))))))))))) (Ke0 x6b x6n x6c h)
abbrev n9_L (Kn Ke0 : T4) (Kr : T0) : Nat -> T5 := LP L5 (n9_B Kn Ke0 Kr)
variable (K : Value -> H -> Prop) (h : H)
abbrev asks (x0 : Option Addr) (x1 : Int) (K : Value -> H -> Prop) (h : H) : Prop := cF L0 (fun Kr => sqF L1 (fun K7 => K7 x0 x1 h) fun x0 x1 h => sqF L2 (fun K6 => HCalls Tryz.prog 48 ⟨[.pointer x0, .int .i64 x1]⟩ h fun v42 h43 => vPtr v42 fun p44 => K6 x0 p44 h43) fun x0 x5 h => sqF L2 (fun K5 => SemH Tryz.prog (binS .eql 80 (.tmp 13) (.const (.pointer none)) (.pointer x5) (.pointer none)) h fun v39 h40 => vBool v39 fun b41 => cond b41 (Kr none 0 0 h40) (K5 x0 x5 h40)) fun x0 x5 h => sqF L3 (fun K4 => K4 x0 x5 none 0 0 h) fun x0 x5 x6b x6n x6c h => sqF L4 (fun K1 => sqF L5 (fun K3 => vSome x5 fun a37 => ∃ s38b s38n s38c, cell h (a37.add 7) = some (.slice s38b s38n s38c) /\ (K3 x0 x6b x6n x6c s38b s38n s38c (s38n : Int) (0 : Int) h)) fun x0 x6b x6n x6c x18b x18n x18c x19 x20 h => lpF L5 (n9_B K1 K1 Kr) fun K2 => K2 x0 x6b x6n x6c x18b x18n x18c x19 x20 h) fun x6b x6n x6c h => n6 x6b x6n x6c Kr Kr h) fun y4b y4n y4c h => K (.slice y4b y4n y4c) h
theorem ok (hS : asks x0 x1 K h) : HCalls Tryz.prog 25 ⟨[.pointer x0, .int .i64 x1]⟩ h K :=
  cl Tryz.func25 hS (fun hg hS => sq (l := L1) hg hS fun hg hS => sq (l := L2) hg hS fun hg hS => sq (l := L2) hg hS fun hg hS => sq (l := L3) hg hS fun hg hS => sc (l := L4) hS (fun hS => sq (l := L5) hg hS fun hg hS => bl (b := 0) (lp hg hS fun hg hS => lf hg hS)) fun hg hS => lf hg hS) fun hg hS => rt hg hS
end Sx.dom_Tree_Whole
namespace Sx.open_Until
noncomputable def code : Code := bodyOf Tryz.f128
abbrev T0 := Addr -> (List Deferred) -> H -> Prop
def E0 (g : Env) (x4 : Addr) (ds : List Deferred) : Prop := g.v 4 = (.pointer (some x4)) /\ g.ds = ds
def D0 (K : T0) (g : Env) (h : H) : Prop := vAddr (g.v 4) fun a1 => K a1 g.ds h
theorem D0_ok {K : T0} {g : Env} {h : H} (hq : D0 K g h) : ∃ (x4 : Addr) (ds : List Deferred), E0 g x4 ds /\ K x4 ds h := by
  obtain ⟨y3, e2, q4⟩ := vAddr_ok hq
  exact ⟨y3, g.ds, ⟨e2, rfl⟩, q4⟩
def Q0 (Kn Kr : T0) : XPost
  | .normal, g, h => D0 Kn g h
  | .ret, g, h => D0 Kr g h
  | _, _, _ => False
def E1 (g : Env) (x0b : Option Addr) (x0n x0c : Nat) (x1b : Option Addr) (x1n x1c : Nat) (ds : List Deferred) : Prop := g.v 0 = (.slice x0b x0n x0c) /\ g.v 1 = (.slice x1b x1n x1c) /\ g.ds = ds
noncomputable def n1_c1 : Code := cFst code
noncomputable def n1_c2 : Code := cSnd code
abbrev T2 := (Option Addr) -> Nat -> Nat -> Addr -> Addr -> (List Deferred) -> H -> Prop
def E2 (g : Env) (x0b : Option Addr) (x0n x0c : Nat) (x3 x4 : Addr) (ds : List Deferred) : Prop := g.v 0 = (.slice x0b x0n x0c) /\ g.v 3 = (.pointer (some x3)) /\ g.v 4 = (.pointer (some x4)) /\ g.ds = ds
def D2 (K : T2) (g : Env) (h : H) : Prop := vSlice (g.v 0) fun s13b s13n s13c => vAddr (g.v 3) fun a14 => vAddr (g.v 4) fun a15 => K s13b s13n s13c a14 a15 g.ds h
theorem D2_ok {K : T2} {g : Env} {h : H} (hq : D2 K g h) : ∃ (x0b : Option Addr) (x0n x0c : Nat) (x3 x4 : Addr) (ds : List Deferred), E2 g x0b x0n x0c x3 x4 ds /\ K x0b x0n x0c x3 x4 ds h := by
  obtain ⟨y17b, y17n, y17c, e16, q18⟩ := vSlice_ok hq
  obtain ⟨y20, e19, q21⟩ := vAddr_ok q18
  obtain ⟨y23, e22, q24⟩ := vAddr_ok q21
  exact ⟨y17b, y17n, y17c, y20, y23, g.ds, ⟨e16, e19, e22, rfl⟩, q24⟩
noncomputable def n2_c1 : Code := cFst n1_c2
noncomputable def n2_c2 : Code := cSnd n1_c2
abbrev n3 (x4 : Addr) (ds : List Deferred) (Kn Kr : T0) (h : H) : Prop :=
  stL x4 [.int .i64 (-1 : Int)] 0 h fun h25 => Kr x4 ds h25
theorem n3_ok (x4 : Addr) (ds : List Deferred) (Kn Kr : T0) (g : Env) (hg : E0 g x4 ds) (h : H) (hS : n3 x4 ds Kn Kr h) : wpC none Tryz.prog 15 n2_c2 (Q0 Kn Kr) g h := by
  obtain ⟨hg4, hds⟩ := hg
  refine wpC_of_wpx (by kernel_rfl) (by kernel_rfl) (g' := (⟨g.v, ds⟩ : Env).upd (some 4) (.pointer (some x4))) (by rw [env_ds hds, upd_self hg4]) ?_
  have e : (n3 x4 ds Kn Kr h) = wpx none Tryz.prog 15 n2_c2 (Q0 Kn Kr) ((⟨g.v, ds⟩ : Env).upd (some 4) (.pointer (some x4))) h := by kernel_rfl
  exact e ▸ hS
noncomputable def n4_c1 : Code := cFst n2_c1
noncomputable def n4_c2 : Code := cSnd n2_c1
abbrev T3 := Addr -> Addr -> Value -> (List Deferred) -> H -> Prop
def E3 (g : Env) (x3 x4 : Addr) (x8 : Value) (ds : List Deferred) : Prop := g.v 3 = (.pointer (some x3)) /\ g.v 4 = (.pointer (some x4)) /\ g.v 8 = x8 /\ g.ds = ds
def D3 (K : T3) (g : Env) (h : H) : Prop := vAddr (g.v 3) fun a26 => vAddr (g.v 4) fun a27 => K a26 a27 (g.v 8) g.ds h
theorem D3_ok {K : T3} {g : Env} {h : H} (hq : D3 K g h) : ∃ (x3 x4 : Addr) (x8 : Value) (ds : List Deferred), E3 g x3 x4 x8 ds /\ K x3 x4 x8 ds h := by
  obtain ⟨y29, e28, q30⟩ := vAddr_ok hq
  obtain ⟨y32, e31, q33⟩ := vAddr_ok q30
  exact ⟨y29, y32, (g.v 8), g.ds, ⟨e28, e31, rfl, rfl⟩, q33⟩
noncomputable def n5_c1 : Code := cFst n4_c2
def Q1 (Kn Ke0 Kr : T0) : XPost
  | .normal, g, h => D0 Kn g h
  | .ret, g, h => D0 Kr g h
  | .exit id, g, h => cond (Nat.beq id 0) (D0 Ke0 g h) (False)
  | _, _, _ => False
noncomputable def n6_c1 : Code := cFst n5_c1
noncomputable def n6_c2 : Code := cSnd n5_c1
def n6_rd (x3 x4 : Addr) (x8 : Value) (ds : List Deferred) (Kn Ke0 Kr : T0) (h : H) (p9 p10_0 p10_1 : Int) (p10_2 : List UInt8) (p10_3 : Int) (Mid : H -> (H -> Prop) -> Prop) (Kc : H -> H -> Prop) (Fin : H -> H -> (H -> Prop) -> Prop) (h1 : H) : Prop :=
  newx h1 ⟨[.int .i64 (0 : Int), .int .u8 (0 : Int), S ([] : List UInt8), .int .u8 (0 : Int)]⟩ 77 fun a34 h35 => stL a34 [.int .i64 p10_0, .int .u8 p10_1, S p10_2, .int .u8 p10_3] 0 h35 fun h36 => Mid h36 fun hb37 => ∃ i38, cell hb37 (a34.add 0) = some (.int .i64 i38) /\ (∃ i39, cell hb37 (a34.add 1) = some (.int .u8 i39) /\ (∃ s40, cell hb37 (a34.add 2) = some (S s40) /\ (∃ i41, cell hb37 (a34.add 3) = some (.int .u8 i41) /\ (∃ s42b s42n s42c, cell hb37 x3 = some (.slice s42b s42n s42c) /\ (HCalls Tryz.prog 179 ⟨[(.agg ⟨[.int .i64 i38, .int .u8 i39, S s40, .int .u8 i41]⟩), .slice s42b s42n s42c]⟩ hb37 fun v43 h44 => vBool v43 fun b45 => cond b45 (stL x4 [.int .i64 p9] 0 h44 fun h46 => Fin hb37 h46 fun h47 => Kr x4 (markD h.size :: ds) h47) (Kc hb37 h44))))))
abbrev n6 (x3 x4 : Addr) (x8 : Value) (ds : List Deferred) (Kn Ke0 Kr : T0) (h : H) : Prop := Ranges Tryz.prog x8 2 h (fun l48 Mid Kc Fin h1 => uncons l48 fun e49 l50 => vInt .i64 e49 fun i51 => uncons l50 fun e52 l53 => vAgg e52 fun l54 => uncons l54 fun e55 l56 => vInt .i64 e55 fun i57 => uncons l56 fun e58 l59 => vInt .u8 e58 fun i60 => uncons l59 fun e61 l62 => vStr e61 fun s63 => uncons l62 fun e64 l65 => vInt .u8 e64 fun i66 => unnil l65 (unnil l53 (n6_rd x3 x4 x8 ds Kn Ke0 Kr h i51 i57 i60 s63 i66 Mid Kc Fin h1))) (fun h4 => Kn x4 (markD h.size :: ds) h4)
theorem n6_ok (x3 x4 : Addr) (x8 : Value) (ds : List Deferred) (Kn Ke0 Kr : T0) (g : Env) (hg : E3 g x3 x4 x8 ds) (h : H) (hS : n6 x3 x4 x8 ds Kn Ke0 Kr h) : wpC none Tryz.prog 15 n5_c1 (Q1 Kn Ke0 Kr) g h := by
  obtain ⟨hg3, hg4, hg8, hds⟩ := hg
  subst hds
  have ho : ((((⟨g.v, g.ds⟩ : Env).upd (some 3) (.pointer (some x3))).upd (some 4) (.pointer (some x4))).upd (some 8) x8 : Env) = g := by rw [env_ds rfl, upd_self hg3, upd_self hg4, upd_self hg8]
  have hc : n5_c1 = .rangeFunc (.tmp 8) #[9, 10] n6_c1 n6_c2 := by kernel_rfl
  rw [hc]
  refine wpC_range (f := x8) (rd := (fun l48 Mid Kc Fin h1 => uncons l48 fun e49 l50 => vInt .i64 e49 fun i51 => uncons l50 fun e52 l53 => vAgg e52 fun l54 => uncons l54 fun e55 l56 => vInt .i64 e55 fun i57 => uncons l56 fun e58 l59 => vInt .u8 e58 fun i60 => uncons l59 fun e61 l62 => vStr e61 fun s63 => uncons l62 fun e64 l65 => vInt .u8 e64 fun i66 => unnil l65 (unnil l53 (n6_rd x3 x4 x8 g.ds Kn Ke0 Kr h i51 i57 i60 s63 i66 Mid Kc Fin h1)))) (done := (fun h4 => Kn x4 (markD h.size :: g.ds) h4)) ?_ hS ?_ ?_
  · rw [<- ho]; kernel_rfl
  · intro h4 hd
    have e : (Kn x4 (markD h.size :: g.ds) h4) = (Q1 Kn Ke0 Kr) .normal ⟨((((⟨g.v, g.ds⟩ : Env).upd (some 3) (.pointer (some x3))).upd (some 4) (.pointer (some x4))).upd (some 8) x8).v, markD h.size :: g.ds⟩ h4 := by kernel_rfl
    rw [ho] at e
    exact e ▸ hd
  · intro L x Mid Kc Fin h1 hM hx
    obtain ⟨u67, l68, rfl, q69⟩ := uncons_ok hx
    obtain ⟨y70, rfl, q71⟩ := vInt_ok q69
    obtain ⟨u72, l73, rfl, q74⟩ := uncons_ok q71
    obtain ⟨l75, rfl, q76⟩ := vAgg_ok q74
    obtain ⟨u77, l78, rfl, q79⟩ := uncons_ok q76
    obtain ⟨y80, rfl, q81⟩ := vInt_ok q79
    obtain ⟨u82, l83, rfl, q84⟩ := uncons_ok q81
    obtain ⟨y85, rfl, q86⟩ := vInt_ok q84
    obtain ⟨u87, l88, rfl, q89⟩ := uncons_ok q86
    obtain ⟨y90, rfl, q91⟩ := vStr_ok q89
    obtain ⟨u92, l93, rfl, q94⟩ := uncons_ok q91
    obtain ⟨y95, rfl, q96⟩ := vInt_ok q94
    obtain ⟨rfl, q97⟩ := unnil_ok q96
    obtain ⟨rfl, q98⟩ := unnil_ok q97
    have e : (n6_rd x3 x4 x8 g.ds Kn Ke0 Kr h y70 y80 y85 y90 y95 Mid Kc Fin h1) = wpx (some L) Tryz.prog 15 n6_c1 (thenX (fun g1 he => Mid he fun hb => wpx (some L) Tryz.prog 15 n6_c2 (rpost Kc Fin (Q1 Kn Ke0 Kr) ⟨((((⟨g.v, g.ds⟩ : Env).upd (some 3) (.pointer (some x3))).upd (some 4) (.pointer (some x4))).upd (some 8) x8).v, markD h.size :: g.ds⟩ hb) g1 hb) fun _ _ _ => False) (setps ((((⟨g.v, g.ds⟩ : Env).upd (some 3) (.pointer (some x3))).upd (some 4) (.pointer (some x4))).upd (some 8) x8) [9, 10] [.int .i64 y70, (.agg ⟨[.int .i64 y80, .int .u8 y85, S y90, .int .u8 y95]⟩)]) h1 := by kernel_rfl
    rw [ho] at e
    exact (wpx_ok (by kernel_rfl) _ _ _ _ (by kernel_rfl) (e ▸ q98)).mono (thenX_mono fun g1 he hm => hM he _ _ (fun hb => wpx_ok (by kernel_rfl) _ _ _ _ (by kernel_rfl)) hm)
abbrev n5 (x3 x4 : Addr) (x8 : Value) (ds : List Deferred) (Kn Kr : T0) (h : H) : Prop := n6 x3 x4 x8 ds Kn Kn Kr h
theorem n5_ok (x3 x4 : Addr) (x8 : Value) (ds : List Deferred) (Kn Kr : T0) (g : Env) (hg : E3 g x3 x4 x8 ds) (h : H) (hS : n5 x3 x4 x8 ds Kn Kr h) : wpC none Tryz.prog 15 n4_c2 (Q0 Kn Kr) g h := by
  refine wpC_block' (id := 0) (x := n5_c1) (by kernel_rfl) (n6_ok x3 x4 x8 ds Kn Kn Kr g hg h hS) ?_
  intro e g' h' hq
  cases e <;> exact hq
def Q2 (Kn : T3) (Kr : T0) : XPost
  | .normal, g, h => D3 Kn g h
  | .ret, g, h => D0 Kr g h
  | _, _, _ => False
abbrev n4 (x0b : Option Addr) (x0n x0c : Nat) (x3 x4 : Addr) (ds : List Deferred) (Kn Kr : T0) (h : H) : Prop :=
  HCalls Tryz.prog 178 ⟨[.slice x0b x0n x0c]⟩ h fun v99 h100 => n5 x3 x4 v99 ds Kn Kr h100
theorem n4_ok (x0b : Option Addr) (x0n x0c : Nat) (x3 x4 : Addr) (ds : List Deferred) (Kn Kr : T0) (g : Env) (hg : E2 g x0b x0n x0c x3 x4 ds) (h : H) (hS : n4 x0b x0n x0c x3 x4 ds Kn Kr h) : wpC none Tryz.prog 15 n2_c1 (Q0 Kn Kr) g h := by
  obtain ⟨hg0, hg3, hg4, hds⟩ := hg
  refine wpC_seq' (x := n4_c1) (y := n4_c2) (Q' := (Q2 (fun z3 z4 z8 zds h => n5 z3 z4 z8 zds Kn Kr h) Kr)) (by kernel_rfl) ?_ ?_
  · refine wpC_of_wpx (by kernel_rfl) (by kernel_rfl) (g' := (((⟨g.v, ds⟩ : Env).upd (some 0) (.slice x0b x0n x0c)).upd (some 3) (.pointer (some x3))).upd (some 4) (.pointer (some x4))) (by rw [env_ds hds, upd_self hg0, upd_self hg3, upd_self hg4]) ?_
    have e : (n4 x0b x0n x0c x3 x4 ds Kn Kr h) = wpx none Tryz.prog 15 n4_c1 (Q2 (fun z3 z4 z8 zds h => n5 z3 z4 z8 zds Kn Kr h) Kr) ((((⟨g.v, ds⟩ : Env).upd (some 0) (.slice x0b x0n x0c)).upd (some 3) (.pointer (some x3))).upd (some 4) (.pointer (some x4))) h := by kernel_rfl
    exact e ▸ hS
  · intro e g' h' hq
    cases e with
    | normal =>
      have hq : D3 (fun z3 z4 z8 zds h => n5 z3 z4 z8 zds Kn Kr h) g' h' := hq
      obtain ⟨y3, y4, y8, yds, hg', hq⟩ := D3_ok hq
      exact n5_ok y3 y4 y8 yds Kn Kr g' hg' h' hq
    | _ => exact hq
abbrev n2 (x0b : Option Addr) (x0n x0c : Nat) (x3 x4 : Addr) (ds : List Deferred) (Kn Kr : T0) (h : H) : Prop := n4 x0b x0n x0c x3 x4 ds (fun z4 zds h => n3 z4 zds Kn Kr h) Kr h
theorem n2_ok (x0b : Option Addr) (x0n x0c : Nat) (x3 x4 : Addr) (ds : List Deferred) (Kn Kr : T0) (g : Env) (hg : E2 g x0b x0n x0c x3 x4 ds) (h : H) (hS : n2 x0b x0n x0c x3 x4 ds Kn Kr h) : wpC none Tryz.prog 15 n1_c2 (Q0 Kn Kr) g h := by
  refine wpC_seq' (x := n2_c1) (y := n2_c2) (by kernel_rfl) (n4_ok x0b x0n x0c x3 x4 ds (fun z4 zds h => n3 z4 zds Kn Kr h) Kr g hg h hS) ?_
  intro e g' h' hq
  cases e with
  | normal =>
    have hq : D0 (fun z4 zds h => n3 z4 zds Kn Kr h) g' h' := hq
    obtain ⟨y4, yds, hg', hq⟩ := D0_ok hq
    exact n3_ok y4 yds Kn Kr g' hg' h' hq
  | _ => exact hq
def Q3 (Kn : T2) (Kr : T0) : XPost
  | .normal, g, h => D2 Kn g h
  | .ret, g, h => D0 Kr g h
  | _, _, _ => False
abbrev n1 (x0b : Option Addr) (x0n x0c : Nat) (x1b : Option Addr) (x1n x1c : Nat) (ds : List Deferred) (Kn Kr : T0) (h : H) : Prop :=
  newx h #[.slice x1b x1n x1c] 104 fun a101 h102 => newx h102 #[.int .i64 (0 : Int)] 3 fun a103 h104 => n2 x0b x0n x0c a101 a103 ds Kn Kr h104
theorem n1_ok (x0b : Option Addr) (x0n x0c : Nat) (x1b : Option Addr) (x1n x1c : Nat) (ds : List Deferred) (Kn Kr : T0) (g : Env) (hg : E1 g x0b x0n x0c x1b x1n x1c ds) (h : H) (hS : n1 x0b x0n x0c x1b x1n x1c ds Kn Kr h) : wpC none Tryz.prog 15 code (Q0 Kn Kr) g h := by
  obtain ⟨hg0, hg1, hds⟩ := hg
  refine wpC_seq' (x := n1_c1) (y := n1_c2) (Q' := (Q3 (fun z0b z0n z0c z3 z4 zds h => n2 z0b z0n z0c z3 z4 zds Kn Kr h) Kr)) (by kernel_rfl) ?_ ?_
  · refine wpC_of_wpx (by kernel_rfl) (by kernel_rfl) (g' := ((⟨g.v, ds⟩ : Env).upd (some 0) (.slice x0b x0n x0c)).upd (some 1) (.slice x1b x1n x1c)) (by rw [env_ds hds, upd_self hg0, upd_self hg1]) ?_
    have e : (n1 x0b x0n x0c x1b x1n x1c ds Kn Kr h) = wpx none Tryz.prog 15 n1_c1 (Q3 (fun z0b z0n z0c z3 z4 zds h => n2 z0b z0n z0c z3 z4 zds Kn Kr h) Kr) (((⟨g.v, ds⟩ : Env).upd (some 0) (.slice x0b x0n x0c)).upd (some 1) (.slice x1b x1n x1c)) h := by kernel_rfl
    exact e ▸ hS
  · intro e g' h' hq
    cases e with
    | normal =>
      have hq : D2 (fun z0b z0n z0c z3 z4 zds h => n2 z0b z0n z0c z3 z4 zds Kn Kr h) g' h' := hq
      obtain ⟨y0b, y0n, y0c, y3, y4, yds, hg', hq⟩ := D2_ok hq
      exact n2_ok y0b y0n y0c y3 y4 yds Kn Kr g' hg' h' hq
    | _ => exact hq
abbrev asks (x0b : Option Addr) (x0n x0c : Nat) (x1b : Option Addr) (x1n x1c : Nat) (K : Value -> H -> Prop) (h : H) : Prop := n1 x0b x0n x0c x1b x1n x1c [] (fun y4 ds h => leaveX ds h fun h => ∃ i105, cell h y4 = some (.int .i64 i105) /\ (K (.int .i64 i105) h)) (fun y4 ds h => leaveX ds h fun h => ∃ i105, cell h y4 = some (.int .i64 i105) /\ (K (.int .i64 i105) h)) h
theorem ok (x0b : Option Addr) (x0n x0c : Nat) (x1b : Option Addr) (x1n x1c : Nat) (K : Value -> H -> Prop) (h : H) (hS : asks x0b x0n x0c x1b x1n x1c K h) : HCalls Tryz.prog 128 ⟨[.slice x0b x0n x0c, .slice x1b x1n x1c]⟩ h K := by
  refine calls_of_wpC (c := code) Tryz.func128 (by kernel_rfl) (Nat.le_of_ble_eq_true (by kernel_rfl)) ?_
  refine (n1_ok x0b x0n x0c x1b x1n x1c [] (fun y4 ds h => leaveX ds h fun h => ∃ i105, cell h y4 = some (.int .i64 i105) /\ (K (.int .i64 i105) h)) (fun y4 ds h => leaveX ds h fun h => ∃ i105, cell h y4 = some (.int .i64 i105) /\ (K (.int .i64 i105) h)) (env0 [.slice x0b x0n x0c, .slice x1b x1n x1c]) ⟨rfl, rfl, rfl⟩ h hS).mono ?_
  intro e g' h' hq
  cases e with
  | normal =>
    have hq : D0 (fun y4 ds h => leaveX ds h fun h => ∃ i105, cell h y4 = some (.int .i64 i105) /\ (K (.int .i64 i105) h)) g' h' := hq
    obtain ⟨y4, ds, ⟨hg4, hd⟩, hq⟩ := D0_ok hq
    show leaveX g'.ds h' _
    rw [hd]
    show leaveX ds h' fun h => vAddr (g'.v 4) fun a106 => ldx Tryz.prog 3 a106 h fun v107 => K v107 h
    rw [hg4]
    exact hq
  | ret =>
    have hq : D0 (fun y4 ds h => leaveX ds h fun h => ∃ i105, cell h y4 = some (.int .i64 i105) /\ (K (.int .i64 i105) h)) g' h' := hq
    obtain ⟨y4, ds, ⟨hg4, hd⟩, hq⟩ := D0_ok hq
    show leaveX g'.ds h' _
    rw [hd]
    show leaveX ds h' fun h => vAddr (g'.v 4) fun a106 => ldx Tryz.prog 3 a106 h fun v107 => K v107 h
    rw [hg4]
    exact hq
  | _ => exact hq
end Sx.open_Until
namespace Sx.open_Special
abbrev L2 : List Sl := []
abbrev L4 : List Sl := [.o 1 .s, .o 5 (.i .u8), .o 6 .b]
abbrev L3 : List Sl := [.o 1 .s, .o 5 (.i .u8)]
abbrev L1 : List Sl := [.o 0 (.i .u8), .o 1 .s]
abbrev L0 : List Sl := [.o 4 .b]
variable (x0 : Int) (x1 : List UInt8)
variable (K : Value -> H -> Prop) (h : H)
abbrev asks (x0 : Int) (x1 : List UInt8) (K : Value -> H -> Prop) (h : H) : Prop := cF L0 (fun Kr => sqF L1 (fun K4 => K4 x0 x1 h) fun x0 x1 h => sqF L2 (fun K1 => sqF L3 (fun K3 => K3 x1 x0 h) fun x1 x5 h => sqF L4 (fun K2 => Spl (x5 = (0 : Int)) (K2 x1 x5 true h) (K2 x1 x5 false h)) fun x1 x5 x6 h => cond x6 (HCalls Tryz.prog 157 ⟨[(S ([32, 97, 100, 100, 114, 101, 115, 115, 32, 97, 112, 112, 108, 101, 116, 32, 97, 114, 101, 97, 32, 97, 114, 116, 105, 99, 108, 101, 32, 97, 115, 105, 100, 101, 32, 98, 97, 115, 101, 32, 98, 97, 115, 101, 102, 111, 110, 116, 32, 98, 103, 115, 111, 117, 110, 100, 32, 98, 108, 111, 99, 107, 113, 117, 111, 116, 101, 32, 98, 111, 100, 121, 32, 98, 114, 32, 98, 117, 116, 116, 111, 110, 32, 99, 97, 112, 116, 105, 111, 110, 32, 99, 101, 110, 116, 101, 114, 32, 99, 111, 108, 32, 99, 111, 108, 103, 114, 111, 117, 112, 32, 100, 100, 32, 100, 101, 116, 97, 105, 108, 115, 32, 100, 105, 97, 108, 111, 103, 32, 100, 105, 114, 32, 100, 105, 118, 32, 100, 108, 32, 100, 116, 32, 101, 109, 98, 101, 100, 32, 102, 105, 101, 108, 100, 115, 101, 116, 32, 102, 105, 103, 99, 97, 112, 116, 105, 111, 110, 32, 102, 105, 103, 117, 114, 101, 32, 102, 111, 111, 116, 101, 114, 32, 102, 111, 114, 109, 32, 102, 114, 97, 109, 101, 32, 102, 114, 97, 109, 101, 115, 101, 116, 32, 104, 49, 32, 104, 50, 32, 104, 51, 32, 104, 52, 32, 104, 53, 32, 104, 54, 32, 104, 101, 97, 100, 32, 104, 101, 97, 100, 101, 114, 32, 104, 103, 114, 111, 117, 112, 32, 104, 114, 32, 104, 116, 109, 108, 32, 105, 102, 114, 97, 109, 101, 32, 105, 109, 103, 32, 105, 110, 112, 117, 116, 32, 107, 101, 121, 103, 101, 110, 32, 108, 105, 32, 108, 105, 110, 107, 32, 108, 105, 115, 116, 105, 110, 103, 32, 109, 97, 105, 110, 32, 109, 97, 114, 113, 117, 101, 101, 32, 109, 101, 110, 117, 32, 109, 101, 116, 97, 32, 110, 97, 118, 32, 110, 111, 101, 109, 98, 101, 100, 32, 110, 111, 102, 114, 97, 109, 101, 115, 32, 110, 111, 115, 99, 114, 105, 112, 116, 32, 111, 98, 106, 101, 99, 116, 32, 111, 108, 32, 112, 32, 112, 97, 114, 97, 109, 32, 112, 108, 97, 105, 110, 116, 101, 120, 116, 32, 112, 114, 101, 32, 115, 99, 114, 105, 112, 116, 32, 115, 101, 97, 114, 99, 104, 32, 115, 101, 99, 116, 105, 111, 110, 32, 115, 101, 108, 101, 99, 116, 32, 115, 111, 117, 114, 99, 101, 32, 115, 116, 121, 108, 101, 32, 115, 117, 109, 109, 97, 114, 121, 32, 116, 97, 98, 108, 101, 32, 116, 98, 111, 100, 121, 32, 116, 100, 32, 116, 101, 109, 112, 108, 97, 116, 101, 32, 116, 101, 120, 116, 97, 114, 101, 97, 32, 116, 102, 111, 111, 116, 32, 116, 104, 32, 116, 104, 101, 97, 100, 32, 116, 105, 116, 108, 101, 32, 116, 114, 32, 116, 114, 97, 99, 107, 32, 117, 108, 32, 119, 98, 114, 32, 120, 109, 112, 32] : List UInt8)), S x1]⟩ h fun v1 h2 => vBool v1 fun b3 => cond b3 (Kr true h2) (Kr false h2)) (Spl (x5 = (2 : Int)) (HCalls Tryz.prog 157 ⟨[(S ([32, 97, 110, 110, 111, 116, 97, 116, 105, 111, 110, 45, 120, 109, 108, 32, 109, 105, 32, 109, 110, 32, 109, 111, 32, 109, 115, 32, 109, 116, 101, 120, 116, 32] : List UInt8)), S x1]⟩ h fun v4 h5 => vBool v4 fun b6 => cond b6 (Kr true h5) (Kr false h5)) (Spl (x5 = (1 : Int)) (HCalls Tryz.prog 157 ⟨[(S ([32, 100, 101, 115, 99, 32, 102, 111, 114, 101, 105, 103, 110, 79, 98, 106, 101, 99, 116, 32, 116, 105, 116, 108, 101, 32] : List UInt8)), S x1]⟩ h fun v7 h8 => vBool v7 fun b9 => cond b9 (Kr true h8) (Kr false h8)) (K1 h)))) fun h => Kr false h) fun y4 h => K (.bool y4) h
theorem ok (hS : asks x0 x1 K h) : HCalls Tryz.prog 162 ⟨[.int .u8 x0, S x1]⟩ h K :=
  cl Tryz.func162 hS (fun hg hS => sq hg hS fun hg hS => sc hS (fun hS => sq hg hS fun hg hS => bl (b := 0) (sq hg hS fun hg hS => lf hg hS)) fun hg hS => lf hg hS) fun hg hS => rt hg hS
end Sx.open_Special
namespace Sx.open_outwards
abbrev L0 : List Sl := [.o 2 .r]
variable (x0b : Option Addr) (x0n x0c : Nat)
variable (K : Value -> H -> Prop) (h : H)
abbrev asks : Prop := cF L0 (fun Kr => HCalls Tryz.prog 161 ⟨[.slice x0b x0n x0c]⟩ h fun v1 h2 => Kr v1 h2) fun y2 h => K y2 h
theorem ok (hS : asks x0b x0n x0c K h) : HCalls Tryz.prog 178 ⟨[.slice x0b x0n x0c]⟩ h K :=
  cl Tryz.func178 hS (fun hg hS => lf hg hS) fun hg hS => rt hg hS
end Sx.open_outwards
namespace Sx.open_of
abbrev L0 : List Sl := [.o 4 .b]
variable (x0_0 x0_1 : Int) (x0_2 : List UInt8) (x0_3 : Int) (x1b : Option Addr) (x1n x1c : Nat)
variable (K : Value -> H -> Prop) (h : H)
abbrev asks : Prop := cF L0 (fun Kr => newx h ⟨[.int .i64 x0_0, .int .u8 x0_1, S x0_2, .int .u8 x0_3]⟩ 77 fun a1 h2 => ∃ i3, cell h2 (a1.add 1) = some (.int .u8 i3) /\ (Spl (i3 = (0 : Int)) (∃ s4, cell h2 (a1.add 2) = some (S s4) /\ (HCalls Tryz.prog 189 ⟨[.slice x1b x1n x1c, S s4]⟩ h2 fun v5 h6 => vBool v5 fun b7 => cond b7 (Kr true h6) (Kr false h6))) (Kr false h2))) fun y4 h => K (.bool y4) h
theorem ok (hS : asks x0_0 x0_1 x0_2 x0_3 x1b x1n x1c K h) : HCalls Tryz.prog 179 ⟨[(.agg ⟨[.int .i64 x0_0, .int .u8 x0_1, S x0_2, .int .u8 x0_3]⟩), .slice x1b x1n x1c]⟩ h K :=
  cl Tryz.func179 hS (fun hg hS => lf hg hS) fun hg hS => rt hg hS
end Sx.open_of
namespace Sx.open_has
abbrev L0 : List Sl := [.o 4 .b]
variable (x0 x1 : List UInt8)
variable (K : Value -> H -> Prop) (h : H)
abbrev asks : Prop := cF L0 (fun Kr => Spl (x1 = ([] : List UInt8)) (Kr false h) (HCalls Tryz.prog 199 ⟨[S x1, (S ([32] : List UInt8))]⟩ h fun v1 h2 => vBool v1 fun b3 => cond b3 (Kr false h2) (((([32] : List UInt8).length + x1.length : Nat) : Int) <= 9223372036854775807 /\ ((((([32] : List UInt8) ++ x1).length + ([32] : List UInt8).length : Nat) : Int) <= 9223372036854775807 /\ (HCalls Tryz.prog 199 ⟨[S x0, (S ((([32] : List UInt8) ++ x1) ++ ([32] : List UInt8)))]⟩ h2 fun v4 h5 => vBool v4 fun b6 => cond b6 (Kr true h5) (Kr false h5)))))) fun y4 h => K (.bool y4) h
theorem ok (hS : asks x0 x1 K h) : HCalls Tryz.prog 157 ⟨[S x0, S x1]⟩ h K :=
  cl Tryz.func157 hS (fun hg hS => lf hg hS) fun hg hS => rt hg hS
end Sx.open_has
namespace Sx.slices_Backward_apiOpen
abbrev L0 : List Sl := [.o 2 .r]
variable (x0b : Option Addr) (x0n x0c : Nat)
variable (K : Value -> H -> Prop) (h : H)
abbrev asks : Prop := cF L0 (fun Kr => newx h #[.slice x0b x0n x0c] 39 fun a1 h2 => Kr (.func (.func 203) ⟨[]⟩ ⟨[.pointer (some a1)]⟩) h2) fun y2 h => K y2 h
theorem ok (hS : asks x0b x0n x0c K h) : HCalls Tryz.prog 161 ⟨[.slice x0b x0n x0c]⟩ h K :=
  cl Tryz.func161 hS (fun hg hS => lf hg hS) fun hg hS => rt hg hS
end Sx.slices_Backward_apiOpen
namespace Sx.slices_Contains_string
abbrev L0 : List Sl := [.o 4 .b]
variable (x0b : Option Addr) (x0n x0c : Nat) (x1 : List UInt8)
variable (K : Value -> H -> Prop) (h : H)
abbrev asks : Prop := cF L0 (fun Kr => HCalls Tryz.prog 215 ⟨[.slice x0b x0n x0c, S x1]⟩ h fun v1 h2 => vInt .i64 v1 fun i3 => Spl (i3 ≥ (0 : Int)) (Kr true h2) (Kr false h2)) fun y4 h => K (.bool y4) h
theorem ok (hS : asks x0b x0n x0c x1 K h) : HCalls Tryz.prog 189 ⟨[.slice x0b x0n x0c, S x1]⟩ h K :=
  cl Tryz.func189 hS (fun hg hS => lf hg hS) fun hg hS => rt hg hS
end Sx.slices_Contains_string
namespace Sx.slices_Backward_1_apiOpen1
abbrev L2 : List Sl := [.o 0 .r, .o 1 .a, .o 3 (.i .i64)]
abbrev L0 : List Sl := []
abbrev T0 := TK L0
abbrev T2 := TK L2
variable (x0 : Value) (x1 : Addr)
abbrev n3_B (Kn Ke0 Kr : T0) : T2 -> T2 := fun K1 x0 x1 x3 h => Spl (x3 ≥ (0 : Int)) (∃ s1b s1n s1c, cell h x1 = some (.slice s1b s1n s1c) /\ ((0 <= x3 /\ x3 < (s1n : Int)) /\ (vSome s1b fun a2 => ∃ i3, cell h (((a2.add (Int.toNat x3 * 4))).add 0) = some (.int .i64 i3) /\ (∃ i4, cell h (((a2.add (Int.toNat x3 * 4))).add 1) = some (.int .u8 i4) /\ (∃ s5, cell h (((a2.add (Int.toNat x3 * 4))).add 2) = some (S s5) /\ (∃ i6, cell h (((a2.add (Int.toNat x3 * 4))).add 3) = some (.int .u8 i6) /\ (CallV Tryz.prog 4 x0 ⟨[.int .i64 x3, (.agg ⟨[.int .i64 i3, .int .u8 i4, S s5, .int .u8 i6]⟩)]⟩ h fun v7 h8 => vBool v7 fun b9 => cond b9 (Rng .i64 (x3 - (1 : Int)) /\ (K1 x0 x1 (x3 - (1 : Int)) h8)) (Kr h8)))))))) (Ke0 h)
abbrev n3_L (Kn Ke0 Kr : T0) : Nat -> T2 := LP L2 (n3_B Kn Ke0 Kr)
variable (K : Value -> H -> Prop) (h : H)
abbrev asks (x0 : Value) (x1 : Addr) (K : Value -> H -> Prop) (h : H) : Prop := cF L0 (fun Kr => sqF L2 (fun K2 => ∃ s10b s10n s10c, cell h x1 = some (.slice s10b s10n s10c) /\ (Rng .i64 ((s10n : Int) - (1 : Int)) /\ (K2 x0 x1 ((s10n : Int) - (1 : Int)) h))) fun x0 x1 x3 h => lpF L2 (n3_B Kr Kr Kr) fun K1 => K1 x0 x1 x3 h) fun h => K (.tuple ⟨[]⟩) h
theorem ok (hS : asks x0 x1 K h) : HCalls Tryz.prog 203 ⟨[x0, .pointer (some x1)]⟩ h K :=
  cl Tryz.func203 hS (fun hg hS => sq (l := L2) hg hS fun hg hS => bl (b := 0) (lp hg hS fun hg hS => lf hg hS)) fun hg hS => rt hg hS
end Sx.slices_Backward_1_apiOpen1
namespace Sx.slices_Index_string
abbrev L2 : List Sl := []
abbrev L3 : List Sl := [.o 0 .l, .o 1 .s, .o 7 (.i .i64), .o 8 (.i .i64)]
abbrev L0 : List Sl := [.o 4 (.i .i64)]
abbrev L1 : List Sl := [.o 0 .l, .o 1 .s]
abbrev T2 := TK L2
abbrev T0 := TK L0
abbrev T3 := TK L3
variable (x0b : Option Addr) (x0n x0c : Nat) (x1 : List UInt8)
abbrev n6_B (Kn Ke0 : T2) (Kr : T0) : T3 -> T3 := fun K2 x0b x0n x0c x1 x7 x8 h => Spl (x8 < x7) ((0 <= x8 /\ x8 < (x0n : Int)) /\ (vSome x0b fun a1 => ∃ s2, cell h (a1.add (Int.toNat x8 * 1)) = some (S s2) /\ (Spl (x1 = s2) (Kr x8 h) (Rng .i64 (x8 + (1 : Int)) /\ (K2 x0b x0n x0c x1 x7 (x8 + (1 : Int)) h))))) (Ke0 h)
abbrev n6_L (Kn Ke0 : T2) (Kr : T0) : Nat -> T3 := LP L3 (n6_B Kn Ke0 Kr)
variable (K : Value -> H -> Prop) (h : H)
abbrev asks (x0b : Option Addr) (x0n x0c : Nat) (x1 : List UInt8) (K : Value -> H -> Prop) (h : H) : Prop := cF L0 (fun Kr => sqF L1 (fun K4 => K4 x0b x0n x0c x1 h) fun x0b x0n x0c x1 h => sqF L2 (fun K1 => sqF L3 (fun K3 => K3 x0b x0n x0c x1 (x0n : Int) (0 : Int) h) fun x0b x0n x0c x1 x7 x8 h => lpF L3 (n6_B K1 K1 Kr) fun K2 => K2 x0b x0n x0c x1 x7 x8 h) fun h => Kr (-1 : Int) h) fun y4 h => K (.int .i64 y4) h
theorem ok (hS : asks x0b x0n x0c x1 K h) : HCalls Tryz.prog 215 ⟨[.slice x0b x0n x0c, S x1]⟩ h K :=
  cl Tryz.func215 hS (fun hg hS => sq (l := L1) hg hS fun hg hS => sc (l := L2) hS (fun hS => sq (l := L3) hg hS fun hg hS => bl (b := 0) (lp hg hS fun hg hS => lf hg hS)) fun hg hS => lf hg hS) fun hg hS => rt hg hS
end Sx.slices_Index_string
namespace Sx.place_New
abbrev L0 : List Sl := [.o 0 .p]
variable (K : Value -> H -> Prop) (h : H)
abbrev asks : Prop := cF L0 (fun Kr => HCalls Tryz.prog 51 ⟨[]⟩ h fun v1 h2 => vPtr v1 fun p3 => newx h2 #[.int .i64 (0 : Int), .int .u8 (0 : Int), (S ([104, 116, 109, 108] : List UInt8)), .int .u8 (0 : Int)] 77 fun a4 h5 => newx h5 ⟨[.pointer p3, .slice (some a4) 1 1, .slice none 0 0, .bool false, .int .i64 (1 : Int)]⟩ 42 fun a6 h7 => Kr (some a6) h7) fun y0 h => K (.pointer y0) h
theorem ok (hS : asks K h) : HCalls Tryz.prog 33 ⟨[]⟩ h K :=
  cl Tryz.func33 hS (fun hg hS => lf hg hS) fun hg hS => rt hg hS
end Sx.place_New
namespace Sx.place_World_Insert
abbrev L0 : List Sl := [.o 6 (.i .i64)]
abbrev L5 : List Sl := [.o 0 .p, .o 1 (.i .u8), .o 5 .a, .o 9 (.i .i64)]
abbrev L4 : List Sl := [.o 0 .p, .o 1 (.i .u8), .o 5 .a, .o 7 (.i .i64), .o 8 (.i .i64), .o 9 (.i .i64)]
abbrev L3 : List Sl := [.o 0 .p, .o 1 (.i .u8), .o 5 .a, .o 7 (.i .i64), .o 8 (.i .i64)]
abbrev L2 : List Sl := [.o 0 .p, .o 1 (.i .u8), .o 5 .a]
abbrev T0 := TK L0
variable (x0 : Option Addr) (x1 x2_0 : Int) (x2_1 : List UInt8) (x2_2b : Option Addr) (x2_2n x2_2c : Nat) (x2_3 : Bool) (x2_4 : List UInt8) (x5 : Addr) (x9 : Int)
abbrev n5 (Kn Kr : T0) (h : H) : Prop :=
  vSome x0 fun a1 => ∃ s2b s2n s2c, cell h (a1.add 1) = some (.slice s2b s2n s2c) /\ (∃ s3, cell h (x5.add 1) = some (S s3) /\ (∃ i4, cell h (x5.add 0) = some (.int .u8 i4) /\ (∃ s5, cell h (x5.add 1) = some (S s5) /\ (∃ s6b s6n s6c, cell h (x5.add 2) = some (.slice s6b s6n s6c) /\ (∃ b7, cell h (x5.add 3) = some (.bool b7) /\ (∃ s8, cell h (x5.add 4) = some (S s8) /\ (HCalls Tryz.prog 139 ⟨[.int .u8 x1, (.agg ⟨[.int .u8 i4, S s5, .slice s6b s6n s6c, .bool b7, S s8]⟩)]⟩ h fun v9 h10 => vInt .u8 v9 fun i11 => ExtH h h10 /\ (newx h10 #[.int .i64 x9, .int .u8 x1, S s3, .int .u8 i11] 77 fun a12 h13 => ExtH h10 h13 /\ (SemH Tryz.prog (Builtin.append_ #[39, 39] 39 ⟨[.slice s2b s2n s2c, .slice (some a12) 1 1]⟩) h13 fun v14 h15 => vSlice v14 fun s16b s16n s16c => vSome x0 fun a17 => stL (a17.add 1) [.slice s16b s16n s16c] 0 h15 fun h18 => vSome x0 fun a19 => ∃ i20, cell h18 (a19.add 4) = some (.int .i64 i20) /\ (vSome x0 fun a21 => ∃ s22b s22n s22c, cell h18 (a21.add 1) = some (.slice s22b s22n s22c) /\ (vSome x0 fun a23 => stL (a23.add 4) [.int .i64 (if (s22n : Int) > i20 then (s22n : Int) else i20)] 0 h18 fun h24 => Kr x9 h24)))))))))))
variable (K : Value -> H -> Prop) (h : H)
abbrev asks (x0 : Option Addr) (x1 x2_0 : Int) (x2_1 : List UInt8) (x2_2b : Option Addr) (x2_2n x2_2c : Nat) (x2_3 : Bool) (x2_4 : List UInt8) (K : Value -> H -> Prop) (h : H) : Prop := cF L0 (fun Kr => sqF L2 (fun K4 => newx h ⟨[.int .u8 x2_0, S x2_1, .slice x2_2b x2_2n x2_2c, .bool x2_3, S x2_4]⟩ 45 fun a61 h62 => K4 x0 x1 a61 h62) fun x0 x1 x5 h => sqF L3 (fun K3 => HCalls Tryz.prog 55 ⟨[.pointer x0]⟩ h fun v37 h38 => vAgg v37 fun l39 => uncons l39 fun e40 l41 => vInt .i64 e40 fun i42 => uncons l41 fun e43 l44 => vInt .u8 e43 fun i45 => uncons l44 fun e46 l47 => vStr e46 fun s48 => uncons l47 fun e49 l50 => vInt .u8 e49 fun i51 => unnil l50 (HCalls Tryz.prog 54 ⟨[.pointer x0, (.agg ⟨[.int .i64 i42, .int .u8 i45, S s48, .int .u8 i51]⟩)]⟩ h38 fun v52 h53 => vTup v52 fun l54 => uncons l54 fun e55 l56 => vInt .i64 e55 fun i57 => uncons l56 fun e58 l59 => vInt .i64 e58 fun i60 => unnil l59 (K3 x0 x1 x5 i57 i60 h53))) fun x0 x1 x5 x7 x8 h => sqF L4 (fun K2 => vSome x0 fun a30 => ∃ p31, cell h (a30.add 0) = some (.pointer p31) /\ (∃ s32, cell h (x5.add 1) = some (S s32) /\ (∃ s33b s33n s33c, cell h (x5.add 2) = some (.slice s33b s33n s33c) /\ (HCalls Tryz.prog 66 ⟨[.pointer p31, (.agg ⟨[.int .u8 (1 : Int), .int .u8 x1, S s32, .slice s33b s33n s33c, S ([] : List UInt8), .slice none 0 0]⟩)]⟩ h fun v34 h35 => vInt .i64 v34 fun i36 => K2 x0 x1 x5 x7 x8 i36 h35)))) fun x0 x1 x5 x7 x8 x9 h => sqF L5 (fun K1 => vSome x0 fun a25 => ∃ p26, cell h (a25.add 0) = some (.pointer p26) /\ (HCalls Tryz.prog 65 ⟨[.pointer p26, .int .i64 x7, .int .i64 x8, .int .i64 x9]⟩ h fun v27 h28 => vBool v27 fun b29 => cond b29 (K1 x0 x1 x5 x9 h28) (K1 x0 x1 x5 x9 h28))) fun x0 x1 x5 x9 h => n5 x0 x1 x5 x9 Kr Kr h) fun y6 h => K (.int .i64 y6) h
theorem ok (hS : asks x0 x1 x2_0 x2_1 x2_2b x2_2n x2_2c x2_3 x2_4 K h) : HCalls Tryz.prog 64 ⟨[.pointer x0, .int .u8 x1, (.agg ⟨[.int .u8 x2_0, S x2_1, .slice x2_2b x2_2n x2_2c, .bool x2_3, S x2_4]⟩)]⟩ h K :=
  cl Tryz.func64 hS (fun hg hS => sq (l := L2) hg hS fun hg hS => sq (l := L3) hg hS fun hg hS => sq (l := L4) hg hS fun hg hS => sq (l := L5) hg hS fun hg hS => lf hg hS) fun hg hS => rt hg hS
end Sx.place_World_Insert
namespace Sx.place_World_Write
abbrev L0 : List Sl := []
variable (x0 : Option Addr) (x1 : List UInt8)
variable (K : Value -> H -> Prop) (h : H)
abbrev asks : Prop := cF L0 (fun Kr => HCalls Tryz.prog 55 ⟨[.pointer x0]⟩ h fun v1 h2 => vAgg v1 fun l3 => uncons l3 fun e4 l5 => vInt .i64 e4 fun i6 => uncons l5 fun e7 l8 => vInt .u8 e7 fun i9 => uncons l8 fun e10 l11 => vStr e10 fun s12 => uncons l11 fun e13 l14 => vInt .u8 e13 fun i15 => unnil l14 (HCalls Tryz.prog 54 ⟨[.pointer x0, (.agg ⟨[.int .i64 i6, .int .u8 i9, S s12, .int .u8 i15]⟩)]⟩ h2 fun v16 h17 => vTup v16 fun l18 => uncons l18 fun e19 l20 => vInt .i64 e19 fun i21 => uncons l20 fun e22 l23 => vInt .i64 e22 fun i24 => unnil l23 (vSome x0 fun a25 => ∃ p26, cell h17 (a25.add 0) = some (.pointer p26) /\ (HCalls Tryz.prog 56 ⟨[.pointer p26, .int .i64 i21, .int .i64 i24, S x1]⟩ h17 fun v27 h28 => vBool v27 fun b29 => cond b29 (Kr h28) (Kr h28))))) fun h => K (.tuple ⟨[]⟩) h
theorem ok (hS : asks x0 x1 K h) : HCalls Tryz.prog 36 ⟨[.pointer x0, S x1]⟩ h K :=
  cl Tryz.func36 hS (fun hg hS => lf hg hS) fun hg hS => rt hg hS
end Sx.place_World_Write
namespace Sx.place_World_Close
abbrev L2 : List Sl := [.o 0 .p, .o 1 (.i .i64), .o 14 .b]
abbrev L0 : List Sl := []
variable (x0 : Option Addr) (x1 : Int)
variable (K : Value -> H -> Prop) (h : H)
abbrev asks (x0 : Option Addr) (x1 : Int) (K : Value -> H -> Prop) (h : H) : Prop := cF L0 (fun Kr => sqF L2 (fun K1 => Spl (x1 ≥ (1 : Int)) (vSome x0 fun a5 => ∃ s6b s6n s6c, cell h (a5.add 1) = some (.slice s6b s6n s6c) /\ (Spl (x1 < (s6n : Int)) (K1 x0 x1 true h) (K1 x0 x1 false h))) (K1 x0 x1 false h)) fun x0 x1 x14 h => cond x14 (vSome x0 fun a1 => ∃ s2b s2n s2c, cell h (a1.add 1) = some (.slice s2b s2n s2c) /\ ((0 <= (0 : Int) /\ (0 : Int) <= x1 /\ x1 <= (s2c : Int)) /\ (vSome x0 fun a3 => stL (a3.add 1) [(.slice (if s2c = Int.toNat (0 : Int) then s2b else Option.map (fun q => q.add (Int.toNat (0 : Int) * 4)) s2b) (Int.toNat x1 - Int.toNat (0 : Int)) (s2c - Int.toNat (0 : Int)))] 0 h fun h4 => Kr h4))) (Kr h)) fun h => K (.tuple ⟨[]⟩) h
theorem ok (hS : asks x0 x1 K h) : HCalls Tryz.prog 57 ⟨[.pointer x0, .int .i64 x1]⟩ h K :=
  cl Tryz.func57 hS (fun hg hS => sq hg hS fun hg hS => lf hg hS) fun hg hS => rt hg hS
end Sx.place_World_Close
namespace Sx.place_World_Current
abbrev L0 : List Sl := [.o 2 .a]
variable (x0 : Option Addr)
variable (K : Value -> H -> Prop) (h : H)
abbrev asks : Prop := cF L0 (fun Kr => newx h ⟨[.int .i64 (0 : Int), .int .u8 (0 : Int), S ([] : List UInt8), .int .u8 (0 : Int)]⟩ 77 fun a1 h2 => vSome x0 fun a3 => ∃ s4b s4n s4c, cell h2 (a3.add 1) = some (.slice s4b s4n s4c) /\ (vSome x0 fun a5 => ∃ s6b s6n s6c, cell h2 (a5.add 1) = some (.slice s6b s6n s6c) /\ (Rng .i64 ((s6n : Int) - (1 : Int)) /\ ((0 <= ((s6n : Int) - (1 : Int)) /\ ((s6n : Int) - (1 : Int)) < (s4n : Int)) /\ (vSome s4b fun a7 => ∃ i8, cell h2 (((a7.add (Int.toNat ((s6n : Int) - (1 : Int)) * 4))).add 0) = some (.int .i64 i8) /\ (∃ i9, cell h2 (((a7.add (Int.toNat ((s6n : Int) - (1 : Int)) * 4))).add 1) = some (.int .u8 i9) /\ (∃ s10, cell h2 (((a7.add (Int.toNat ((s6n : Int) - (1 : Int)) * 4))).add 2) = some (S s10) /\ (∃ i11, cell h2 (((a7.add (Int.toNat ((s6n : Int) - (1 : Int)) * 4))).add 3) = some (.int .u8 i11) /\ (stL a1 [.int .i64 i8, .int .u8 i9, S s10, .int .u8 i11] 0 h2 fun h12 => Kr a1 h12))))))))) fun y2 h => ∃ i13, cell h ((y2).add 0) = some (.int .i64 i13) /\ (∃ i14, cell h ((y2).add 1) = some (.int .u8 i14) /\ (∃ s15, cell h ((y2).add 2) = some (S s15) /\ (∃ i16, cell h ((y2).add 3) = some (.int .u8 i16) /\ (K (.agg ⟨[.int .i64 i13, .int .u8 i14, S s15, .int .u8 i16]⟩) h))))
theorem ok (hS : asks x0 K h) : HCalls Tryz.prog 55 ⟨[.pointer x0]⟩ h K :=
  cl Tryz.func55 hS (fun hg hS => lf hg hS) fun hg hS => rt hg hS
end Sx.place_World_Current
namespace Sx.place_World_Where
abbrev L3 : List Sl := [.o 0 .p]
abbrev L2 : List Sl := [.o 0 .p, .o 3 .a]
abbrev L0 : List Sl := [.o 4 (.i .i64), .o 5 (.i .i64)]
variable (x0 : Option Addr) (x1_0 x1_1 : Int) (x1_2 : List UInt8) (x1_3 : Int)
variable (K : Value -> H -> Prop) (h : H)
abbrev asks (x0 : Option Addr) (x1_0 x1_1 : Int) (x1_2 : List UInt8) (x1_3 : Int) (K : Value -> H -> Prop) (h : H) : Prop := cF L0 (fun Kr => sqF L2 (fun K2 => newx h ⟨[.int .i64 x1_0, .int .u8 x1_1, S x1_2, .int .u8 x1_3]⟩ 77 fun a32 h33 => K2 x0 a32 h33) fun x0 x3 h => sqF L3 (fun K1 => vSome x0 fun a21 => ∃ b22, cell h (a21.add 3) = some (.bool b22) /\ (cond b22 (∃ i23, cell h (x3.add 0) = some (.int .i64 i23) /\ (∃ i24, cell h (x3.add 1) = some (.int .u8 i24) /\ (∃ s25, cell h (x3.add 2) = some (S s25) /\ (∃ i26, cell h (x3.add 3) = some (.int .u8 i26) /\ (HCalls Tryz.prog 127 ⟨[(.agg ⟨[.int .i64 i23, .int .u8 i24, S s25, .int .u8 i26]⟩)]⟩ h fun v27 h28 => vBool v27 fun b29 => cond b29 (K1 x0 h28) (∃ i30, cell h28 (x3.add 0) = some (.int .i64 i30) /\ (Kr i30 (-1 : Int) h28))))))) (∃ i31, cell h (x3.add 0) = some (.int .i64 i31) /\ (Kr i31 (-1 : Int) h)))) fun x0 h => vSome x0 fun a1 => ∃ s2b s2n s2c, cell h (a1.add 1) = some (.slice s2b s2n s2c) /\ (newx h #[(S ([116, 97, 98, 108, 101] : List UInt8))] 9 fun a3 h4 => HCalls Tryz.prog 128 ⟨[.slice s2b s2n s2c, .slice (some a3) 1 1]⟩ h4 fun v5 h6 => vInt .i64 v5 fun i7 => Spl (i7 < (0 : Int)) (Kr (0 : Int) (-1 : Int) h6) (vSome x0 fun a8 => ∃ s9b s9n s9c, cell h6 (a8.add 1) = some (.slice s9b s9n s9c) /\ ((0 <= i7 /\ i7 < (s9n : Int)) /\ (vSome s9b fun a10 => ∃ i11, cell h6 ((a10.add (Int.toNat i7 * 4)).add 0) = some (.int .i64 i11) /\ (vSome x0 fun a12 => ∃ p13, cell h6 (a12.add 0) = some (.pointer p13) /\ (HCalls Tryz.prog 129 ⟨[.pointer p13, .int .i64 i11]⟩ h6 fun v14 h15 => vInt .i64 v14 fun i16 => Spl (i16 ≥ (0 : Int)) (Kr i16 i11 h15) (vSome x0 fun a17 => ∃ s18b s18n s18c, cell h15 (a17.add 1) = some (.slice s18b s18n s18c) /\ (Rng .i64 ((if (1 : Int) > i7 then (1 : Int) else i7) - (1 : Int)) /\ ((0 <= ((if (1 : Int) > i7 then (1 : Int) else i7) - (1 : Int)) /\ ((if (1 : Int) > i7 then (1 : Int) else i7) - (1 : Int)) < (s18n : Int)) /\ (vSome s18b fun a19 => ∃ i20, cell h15 ((a19.add (Int.toNat ((if (1 : Int) > i7 then (1 : Int) else i7) - (1 : Int)) * 4)).add 0) = some (.int .i64 i20) /\ (Kr i20 (-1 : Int) h15)))))))))))) fun y4 y5 h => K (.tuple ⟨[.int .i64 y4, .int .i64 y5]⟩) h
theorem ok (hS : asks x0 x1_0 x1_1 x1_2 x1_3 K h) : HCalls Tryz.prog 54 ⟨[.pointer x0, (.agg ⟨[.int .i64 x1_0, .int .u8 x1_1, S x1_2, .int .u8 x1_3]⟩)]⟩ h K :=
  cl Tryz.func54 hS (fun hg hS => sq hg hS fun hg hS => sq hg hS fun hg hS => lf hg hS) fun hg hS => rt hg hS
end Sx.place_World_Where
namespace Sx.place_point
abbrev L0 : List Sl := [.o 4 (.i .u8)]
abbrev L4 : List Sl := []
abbrev L5 : List Sl := [.o 32 .l, .o 33 (.i .i64), .o 34 (.i .i64)]
abbrev L3 : List Sl := [.o 3 .a]
abbrev L7 : List Sl := [.o 3 .a, .o 17 .b]
abbrev L6 : List Sl := [.o 0 (.i .u8), .o 3 .a, .o 8 .b]
abbrev L2 : List Sl := [.o 0 (.i .u8), .o 3 .a]
abbrev T0 := TK L0
abbrev T4 := TK L4
abbrev T5 := TK L5
abbrev T3 := TK L3
variable (x0 x1_0 : Int) (x1_1 : List UInt8) (x1_2b : Option Addr) (x1_2n x1_2c : Nat) (x1_3 : Bool) (x1_4 : List UInt8) (x3 : Addr)
abbrev n4 (Kn Kr : T0) (h : H) : Prop :=
  Kr (0 : Int) h
abbrev n7_B (Kn Ke1 : T4) (Kr : T0) : T5 -> T5 := fun K2 x32b x32n x32c x33 x34 h => Spl (x34 < x33) ((0 <= x34 /\ x34 < (x32n : Int)) /\ (vSome x32b fun a1 => ∃ s2, cell h (((a1.add (Int.toNat x34 * 2))).add 0) = some (S s2) /\ (∃ s3, cell h (((a1.add (Int.toNat x34 * 2))).add 1) = some (S s3) /\ (newx h ⟨[S ([] : List UInt8), S ([] : List UInt8)]⟩ 67 fun a4 h5 => stL a4 [S s2, S s3] 0 h5 fun h6 => ∃ s7, cell h6 (a4.add 1) = some (S s7) /\ (HCalls Tryz.prog 184 ⟨[S s7]⟩ h6 fun v8 h9 => vStr v8 fun s10 => ∃ s11, cell h9 (a4.add 0) = some (S s11) /\ (Spl (s11 = ([101, 110, 99, 111, 100, 105, 110, 103] : List UInt8)) (Spl (s10 = ([116, 101, 120, 116, 47, 104, 116, 109, 108] : List UInt8)) (Kr (2 : Int) h9) (Spl (s10 = ([97, 112, 112, 108, 105, 99, 97, 116, 105, 111, 110, 47, 120, 104, 116, 109, 108, 43, 120, 109, 108] : List UInt8)) (Kr (2 : Int) h9) (Rng .i64 (x34 + (1 : Int)) /\ (K2 x32b x32n x32c x33 (x34 + (1 : Int)) h9)))) (Rng .i64 (x34 + (1 : Int)) /\ (K2 x32b x32n x32c x33 (x34 + (1 : Int)) h9)))))))) (Ke1 h)
abbrev n7_L (Kn Ke1 : T4) (Kr : T0) : Nat -> T5 := LP L5 (n7_B Kn Ke1 Kr)
abbrev n3 (Kn Kr : T0) (h : H) : Prop :=
  sqF L4 (fun K1 => sqF L5 (fun K3 => ∃ s12b s12n s12c, cell h (x3.add 2) = some (.slice s12b s12n s12c) /\ (K3 s12b s12n s12c (s12n : Int) (0 : Int) h)) fun x32b x32n x32c x33 x34 h => lpF L5 (n7_B K1 K1 Kr) fun K2 => K2 x32b x32n x32c x33 x34 h) fun h => n4 Kn Kr h
abbrev n12 (x0 : Int) (x3 : Addr) (Kn Ke0 : T3) (Kr : T0) (h : H) : Prop :=
  sqF L7 (fun K5 => Spl (x0 = (2 : Int)) (∃ s14, cell h (x3.add 1) = some (S s14) /\ (HCalls Tryz.prog 162 ⟨[.int .u8 x0, S s14]⟩ h fun v15 h16 => vBool v15 fun b17 => cond b17 (K5 x3 false h16) (K5 x3 true h16))) (K5 x3 true h)) fun x3 x17 h => cond x17 (Kr (0 : Int) h) (∃ s13, cell h (x3.add 1) = some (S s13) /\ (Spl (s13 = ([97, 110, 110, 111, 116, 97, 116, 105, 111, 110, 45, 120, 109, 108] : List UInt8)) (Kn x3 h) (Kr (1 : Int) h)))
variable (K : Value -> H -> Prop) (h : H)
abbrev asks (x0 x1_0 : Int) (x1_1 : List UInt8) (x1_2b : Option Addr) (x1_2n x1_2c : Nat) (x1_3 : Bool) (x1_4 : List UInt8) (K : Value -> H -> Prop) (h : H) : Prop := cF L0 (fun Kr => sqF L2 (fun K7 => newx h ⟨[.int .u8 x1_0, S x1_1, .slice x1_2b x1_2n x1_2c, .bool x1_3, S x1_4]⟩ 45 fun a22 h23 => K7 x0 a22 h23) fun x0 x3 h => sqF L3 (fun K4 => sqF L6 (fun K6 => Spl (x0 = (1 : Int)) (∃ s18, cell h (x3.add 1) = some (S s18) /\ (HCalls Tryz.prog 162 ⟨[.int .u8 x0, S s18]⟩ h fun v19 h20 => vBool v19 fun b21 => cond b21 (K6 x0 x3 true h20) (K6 x0 x3 false h20))) (K6 x0 x3 false h)) fun x0 x3 x8 h => cond x8 (Kr (2 : Int) h) (n12 x0 x3 K4 K4 Kr h)) fun x3 h => n3 x3 Kr Kr h) fun y4 h => K (.int .u8 y4) h
theorem ok (hS : asks x0 x1_0 x1_1 x1_2b x1_2n x1_2c x1_3 x1_4 K h) : HCalls Tryz.prog 139 ⟨[.int .u8 x0, (.agg ⟨[.int .u8 x1_0, S x1_1, .slice x1_2b x1_2n x1_2c, .bool x1_3, S x1_4]⟩)]⟩ h K :=
  cl Tryz.func139 hS (fun hg hS => sq (l := L2) hg hS fun hg hS => sc (l := L3) hS (fun hS => bl (b := 0) (sq (l := L6) hg hS fun hg hS => cn (i := 8) hg hS (fun hg hS => lf hg hS) fun hg hS => sq (l := L7) hg hS fun hg hS => lf hg hS)) fun hg hS => sc (l := L4) hS (fun hS => sq (l := L5) hg hS fun hg hS => bl (b := 1) (lp hg hS fun hg hS => lf hg hS)) fun hg hS => lf hg hS) fun hg hS => rt hg hS
end Sx.place_point
namespace Sx.place_grid
abbrev L3 : List Sl := []
abbrev L5 : List Sl := [.o 1 .a, .o 5 .b]
abbrev L6 : List Sl := [.o 1 .a, .o 4 .s, .o 5 .b]
abbrev L4 : List Sl := [.o 1 .a, .o 4 .s]
abbrev L2 : List Sl := [.o 1 .a]
abbrev L0 : List Sl := [.o 2 .b]
variable (x0_0 x0_1 : Int) (x0_2 : List UInt8) (x0_3 : Int)
variable (K : Value -> H -> Prop) (h : H)
abbrev asks : Prop := cF L0 (fun Kr => sqF L2 (fun K5 => newx h ⟨[.int .i64 x0_0, .int .u8 x0_1, S x0_2, .int .u8 x0_3]⟩ 77 fun a3 h4 => K5 a3 h4) fun x1 h => sqF L3 (fun K1 => sqF L4 (fun K4 => ∃ s2, cell h (x1.add 2) = some (S s2) /\ (K4 x1 s2 h)) fun x1 x4 h => sqF L5 (fun K2 => sqF L6 (fun K3 => Spl (x4 = ([116, 97, 98, 108, 101] : List UInt8)) (K3 x1 x4 true h) (K3 x1 x4 false h)) fun x1 x4 x5 h => cond x5 (K2 x1 x5 h) (Spl (x4 = ([116, 98, 111, 100, 121] : List UInt8)) (K2 x1 true h) (Spl (x4 = ([116, 102, 111, 111, 116] : List UInt8)) (K2 x1 true h) (Spl (x4 = ([116, 104, 101, 97, 100] : List UInt8)) (K2 x1 true h) (Spl (x4 = ([116, 114] : List UInt8)) (K2 x1 true h) (K2 x1 false h)))))) fun x1 x5 h => cond x5 (∃ i1, cell h (x1.add 1) = some (.int .u8 i1) /\ (Spl (i1 = (0 : Int)) (Kr true h) (Kr false h))) (K1 h)) fun h => Kr false h) fun y2 h => K (.bool y2) h
theorem ok (hS : asks x0_0 x0_1 x0_2 x0_3 K h) : HCalls Tryz.prog 127 ⟨[(.agg ⟨[.int .i64 x0_0, .int .u8 x0_1, S x0_2, .int .u8 x0_3]⟩)]⟩ h K :=
  cl Tryz.func127 hS (fun hg hS => sq hg hS fun hg hS => sc hS (fun hS => sq hg hS fun hg hS => bl (b := 0) (sc hS (fun hS => sq hg hS fun hg hS => lf hg hS) fun hg hS => lf hg hS)) fun hg hS => lf hg hS) fun hg hS => rt hg hS
end Sx.place_grid
namespace Sx.class_Lower
abbrev L0 : List Sl := [.o 2 .s]
abbrev L2 : List Sl := [.o 3 .l]
abbrev L3 : List Sl := [.o 3 .l, .o 8 .l, .o 9 (.i .i64), .o 10 (.i .i64)]
abbrev L1 : List Sl := [.o 0 .s]
abbrev T0 := TK L0
abbrev T2 := TK L2
abbrev T3 := TK L3
variable (x0 : List UInt8) (x3b : Option Addr) (x3n x3c : Nat)
abbrev n4 (Kn Kr : T0) (h : H) : Prop :=
  SemH Tryz.prog (convert 176 9 (.slice x3b x3n x3c)) h fun v1 h2 => vStr v1 fun s3 => Kr s3 h2
abbrev n7_B (Kn Ke0 : T2) (Kr : T0) : T3 -> T3 := fun K2 x3b x3n x3c x8b x8n x8c x9 x10 h => Spl (x10 < x9) ((0 <= x10 /\ x10 < (x8n : Int)) /\ (vSome x8b fun a4 => ∃ i5, cell h (a4.add (Int.toNat x10 * 1)) = some (.int .u8 i5) /\ (HCalls Tryz.prog 212 ⟨[.int .u8 i5]⟩ h fun v6 h7 => vInt .u8 v6 fun i8 => (0 <= x10 /\ x10 < (x3n : Int)) /\ (vSome x3b fun a9 => stL (a9.add (Int.toNat x10 * 1)) [.int .u8 i8] 0 h7 fun h10 => Rng .i64 (x10 + (1 : Int)) /\ (K2 x3b x3n x3c x8b x8n x8c x9 (x10 + (1 : Int)) h10))))) (Ke0 x3b x3n x3c h)
abbrev n7_L (Kn Ke0 : T2) (Kr : T0) : Nat -> T3 := LP L3 (n7_B Kn Ke0 Kr)
variable (K : Value -> H -> Prop) (h : H)
abbrev asks (x0 : List UInt8) (K : Value -> H -> Prop) (h : H) : Prop := cF L0 (fun Kr => sqF L1 (fun K5 => K5 x0 h) fun x0 h => sqF L2 (fun K4 => SemH Tryz.prog (convert 9 176 (S x0)) h fun v11 h12 => vSlice v11 fun s13b s13n s13c => K4 s13b s13n s13c h12) fun x3b x3n x3c h => sqF L2 (fun K1 => sqF L3 (fun K3 => K3 x3b x3n x3c x3b x3n x3c (x3n : Int) (0 : Int) h) fun x3b x3n x3c x8b x8n x8c x9 x10 h => lpF L3 (n7_B K1 K1 Kr) fun K2 => K2 x3b x3n x3c x8b x8n x8c x9 x10 h) fun x3b x3n x3c h => n4 x3b x3n x3c Kr Kr h) fun y2 h => K (S y2) h
theorem ok (hS : asks x0 K h) : HCalls Tryz.prog 184 ⟨[S x0]⟩ h K :=
  cl Tryz.func184 hS (fun hg hS => sq (l := L1) hg hS fun hg hS => sq (l := L2) hg hS fun hg hS => sc (l := L2) hS (fun hS => sq (l := L3) hg hS fun hg hS => bl (b := 0) (lp hg hS fun hg hS => lf hg hS)) fun hg hS => lf hg hS) fun hg hS => rt hg hS
end Sx.class_Lower
namespace Sx.class_small
abbrev L0 : List Sl := [.o 2 (.i .u8)]
variable (x0 : Int)
variable (K : Value -> H -> Prop) (h : H)
abbrev asks : Prop := cF L0 (fun Kr => Spl (x0 ≥ (65 : Int)) (Spl (x0 <= (90 : Int)) (Kr (bits .or .u8 x0 (32 : Int)) h) (Kr x0 h)) (Kr x0 h)) fun y2 h => K (.int .u8 y2) h
theorem ok (hS : asks x0 K h) : HCalls Tryz.prog 212 ⟨[.int .u8 x0]⟩ h K :=
  cl Tryz.func212 hS (fun hg hS => lf hg hS) fun hg hS => rt hg hS
end Sx.class_small
namespace Sx.dom_Tree_Copy
abbrev L0 : List Sl := [.o 4 (.i .i64)]
variable (x0 : Option Addr) (x1 : Int)
variable (K : Value -> H -> Prop) (h : H)
abbrev asks : Prop := cF L0 (fun Kr => HCalls Tryz.prog 48 ⟨[.pointer x0, .int .i64 x1]⟩ h fun v1 h2 => vPtr v1 fun p3 => SemH Tryz.prog (binS .eql 80 (.tmp 9) (.const (.pointer none)) (.pointer p3) (.pointer none)) h2 fun v4 h5 => vBool v4 fun b6 => cond b6 (Kr (-1 : Int) h5) (vSome p3 fun a7 => ∃ i8, cell h5 (((a7.add 0)).add 0) = some (.int .u8 i8) /\ (∃ i9, cell h5 (((a7.add 0)).add 1) = some (.int .u8 i9) /\ (∃ s10, cell h5 (((a7.add 0)).add 2) = some (S s10) /\ (∃ s11b s11n s11c, cell h5 (((a7.add 0)).add 3) = some (.slice s11b s11n s11c) /\ (∃ s12, cell h5 (((a7.add 0)).add 4) = some (S s12) /\ (∃ s13b s13n s13c, cell h5 (((a7.add 0)).add 5) = some (.slice s13b s13n s13c) /\ (HCalls Tryz.prog 66 ⟨[.pointer x0, (.agg ⟨[.int .u8 i8, .int .u8 i9, S s10, .slice s11b s11n s11c, S s12, .slice s13b s13n s13c]⟩)]⟩ h5 fun v14 h15 => vInt .i64 v14 fun i16 => Kr i16 h15)))))))) fun y4 h => K (.int .i64 y4) h
theorem ok (hS : asks x0 x1 K h) : HCalls Tryz.prog 238 ⟨[.pointer x0, .int .i64 x1]⟩ h K :=
  cl Tryz.func238 hS (fun hg hS => lf hg hS) fun hg hS => rt hg hS
end Sx.dom_Tree_Copy
namespace Sx.dom_Tree_Move
abbrev L0 : List Sl := [.o 6 .b]
abbrev L4 : List Sl := [.o 7 .p, .o 8 .p]
abbrev L5 : List Sl := [.o 0 .p, .o 2 (.i .i64), .o 7 .p, .o 8 .p, .o 40 .l, .o 41 (.i .i64), .o 42 (.i .i64)]
abbrev L3 : List Sl := [.o 0 .p, .o 2 (.i .i64), .o 7 .p, .o 8 .p]
abbrev L2 : List Sl := [.o 0 .p, .o 1 (.i .i64), .o 2 (.i .i64), .o 7 .p, .o 8 .p]
abbrev L1 : List Sl := [.o 0 .p, .o 1 (.i .i64), .o 2 (.i .i64)]
abbrev T0 := TK L0
abbrev T4 := TK L4
abbrev T5 := TK L5
variable (x0 : Option Addr) (x1 x2 : Int) (x7 x8 : Option Addr)
abbrev n5 (Kn Kr : T0) (h : H) : Prop :=
  vSome x8 fun a1 => ∃ s2b s2n s2c, cell h (a1.add 7) = some (.slice s2b s2n s2c) /\ (vSome x7 fun a3 => ∃ s4b s4n s4c, cell h (a3.add 7) = some (.slice s4b s4n s4c) /\ (SemH Tryz.prog (Builtin.append_ #[82, 82] 82 ⟨[.slice s2b s2n s2c, .slice s4b s4n s4c]⟩) h fun v5 h6 => vSlice v5 fun s7b s7n s7c => vSome x8 fun a8 => stL (a8.add 7) [.slice s7b s7n s7c] 0 h6 fun h9 => vSome x7 fun a10 => stL (a10.add 7) [.slice none 0 0] 0 h9 fun h11 => Kr true h11))
abbrev n8_B (Kn Ke0 : T4) (Kr : T0) : T5 -> T5 := fun K2 x0 x2 x7 x8 x40b x40n x40c x41 x42 h => Spl (x42 < x41) ((0 <= x42 /\ x42 < (x40n : Int)) /\ (vSome x40b fun a12 => ∃ i13, cell h (a12.add (Int.toNat x42 * 1)) = some (.int .i64 i13) /\ (vSome x0 fun a14 => ∃ s15b s15n s15c, cell h (a14.add 0) = some (.slice s15b s15n s15c) /\ ((0 <= i13 /\ i13 < (s15n : Int)) /\ (vSome s15b fun a16 => ∃ p17, cell h (a16.add (Int.toNat i13 * 1)) = some (.pointer p17) /\ (vSome p17 fun a18 => stL (a18.add 6) [.int .i64 x2] 0 h fun h19 => Rng .i64 (x42 + (1 : Int)) /\ (K2 x0 x2 x7 x8 x40b x40n x40c x41 (x42 + (1 : Int)) h19))))))) (Ke0 x7 x8 h)
abbrev n8_L (Kn Ke0 : T4) (Kr : T0) : Nat -> T5 := LP L5 (n8_B Kn Ke0 Kr)
variable (K : Value -> H -> Prop) (h : H)
abbrev asks (x0 : Option Addr) (x1 x2 : Int) (K : Value -> H -> Prop) (h : H) : Prop := cF L0 (fun Kr => sqF L1 (fun K6 => K6 x0 x1 x2 h) fun x0 x1 x2 h => sqF L2 (fun K5 => HCalls Tryz.prog 48 ⟨[.pointer x0, .int .i64 x1]⟩ h fun v33 h34 => vPtr v33 fun p35 => HCalls Tryz.prog 130 ⟨[.pointer x0, .int .i64 x2]⟩ h34 fun v36 h37 => vPtr v36 fun p38 => K5 x0 x1 x2 p35 p38 h37) fun x0 x1 x2 x7 x8 h => sqF L3 (fun K4 => SemH Tryz.prog (binS .eql 80 (.tmp 17) (.const (.pointer none)) (.pointer x7) (.pointer none)) h fun v22 h23 => vBool v22 fun b24 => cond b24 (Kr false h23) (SemH Tryz.prog (binS .eql 80 (.tmp 20) (.const (.pointer none)) (.pointer x8) (.pointer none)) h23 fun v25 h26 => vBool v25 fun b27 => cond b27 (Kr false h26) (vSome x7 fun a28 => ∃ s29b s29n s29c, cell h26 (a28.add 7) = some (.slice s29b s29n s29c) /\ (Spl ((s29n : Int) = (0 : Int)) (Kr false h26) (HCalls Tryz.prog 140 ⟨[.pointer x0, .int .i64 x2, .int .i64 x1]⟩ h26 fun v30 h31 => vBool v30 fun b32 => cond b32 (Kr false h31) (K4 x0 x2 x7 x8 h31)))))) fun x0 x2 x7 x8 h => sqF L4 (fun K1 => sqF L5 (fun K3 => vSome x7 fun a20 => ∃ s21b s21n s21c, cell h (a20.add 7) = some (.slice s21b s21n s21c) /\ (K3 x0 x2 x7 x8 s21b s21n s21c (s21n : Int) (0 : Int) h)) fun x0 x2 x7 x8 x40b x40n x40c x41 x42 h => lpF L5 (n8_B K1 K1 Kr) fun K2 => K2 x0 x2 x7 x8 x40b x40n x40c x41 x42 h) fun x7 x8 h => n5 x7 x8 Kr Kr h) fun y6 h => K (.bool y6) h
theorem ok (hS : asks x0 x1 x2 K h) : HCalls Tryz.prog 239 ⟨[.pointer x0, .int .i64 x1, .int .i64 x2]⟩ h K :=
  cl Tryz.func239 hS (fun hg hS => sq (l := L1) hg hS fun hg hS => sq (l := L2) hg hS fun hg hS => sq (l := L3) hg hS fun hg hS => sc (l := L4) hS (fun hS => sq (l := L5) hg hS fun hg hS => bl (b := 0) (lp hg hS fun hg hS => lf hg hS)) fun hg hS => lf hg hS) fun hg hS => rt hg hS
end Sx.dom_Tree_Move
end Go.Proofs
