/- The shallow forms of functions, printed by sh.py out of the translation; each with its proof. No condition. -/
import Derived.Test.YtakddeombdgdgaaGreatShQ
import Derived.Test.YtakddeombdgdgaaGreatProg
namespace Go.Proofs
open Go Go.Sh
set_option linter.unusedVariables false
set_option maxRecDepth 100000
namespace Sx.r10_New
abbrev L0 : List Sl := [.o 0 .p]
variable (K : Value -> H -> Prop) (h : H)
abbrev asks : Prop := cF L0 (fun Kr => newx h #[.int .u8 (0 : Int), .int .u8 (0 : Int), S ([] : List UInt8), .slice none 0 0, S ([] : List UInt8), .slice none 0 0, .int .i64 (-1 : Int), .slice none 0 0] 105 fun a1 h2 => newx h2 ⟨[.slice (some a1) 1 1]⟩ 108 fun a3 h4 => Kr (some a3) h4) fun y0 h => K (.pointer y0) h
theorem ok (hS : asks K h) : HCalls Tryz.prog 23 ⟨[]⟩ h K :=
  cl Tryz.func23 hS (fun hg hS => lf hg hS) fun hg hS => rt hg hS
end Sx.r10_New
namespace Sx.r10_Tree_Make
abbrev L0 : List Sl := [.o 4 (.i .i64)]
variable (x0 : Option Addr) (x1_0 x1_1 : Int) (x1_2 : List UInt8) (x1_3b : Option Addr) (x1_3n x1_3c : Nat) (x1_4 : List UInt8) (x1_5b : Option Addr) (x1_5n x1_5c : Nat)
variable (K : Value -> H -> Prop) (h : H)
abbrev asks : Prop := cF L0 (fun Kr => newx h ⟨[.int .u8 x1_0, .int .u8 x1_1, S x1_2, .slice x1_3b x1_3n x1_3c, S x1_4, .slice x1_5b x1_5n x1_5c]⟩ 57 fun a1 h2 => ∃ i3, cell h2 (a1.add 0) = some (.int .u8 i3) /\ (Spl (i3 < (1 : Int)) (Kr (-1 : Int) h2) (∃ i4, cell h2 (a1.add 0) = some (.int .u8 i4) /\ (Spl (i4 > (3 : Int)) (Kr (-1 : Int) h2) (vSome x0 fun a5 => ∃ s6b s6n s6c, cell h2 (a5.add 0) = some (.slice s6b s6n s6c) /\ (∃ i7, cell h2 (a1.add 0) = some (.int .u8 i7) /\ (∃ i8, cell h2 (a1.add 1) = some (.int .u8 i8) /\ (∃ s9, cell h2 (a1.add 2) = some (S s9) /\ (∃ s10b s10n s10c, cell h2 (a1.add 3) = some (.slice s10b s10n s10c) /\ (∃ s11, cell h2 (a1.add 4) = some (S s11) /\ (∃ s12b s12n s12c, cell h2 (a1.add 5) = some (.slice s12b s12n s12c) /\ (HCalls Tryz.prog 73 ⟨[(.agg ⟨[.int .u8 i7, .int .u8 i8, S s9, .slice s10b s10n s10c, S s11, .slice s12b s12n s12c]⟩)]⟩ h2 fun v13 h14 => vAgg v13 fun l15 => uncons l15 fun e16 l17 => vInt .u8 e16 fun i18 => uncons l17 fun e19 l20 => vInt .u8 e19 fun i21 => uncons l20 fun e22 l23 => vStr e22 fun s24 => uncons l23 fun e25 l26 => vSlice e25 fun s27b s27n s27c => uncons l26 fun e28 l29 => vStr e28 fun s30 => uncons l29 fun e31 l32 => vSlice e31 fun s33b s33n s33c => unnil l32 (ExtH h2 h14 /\ (newx h14 #[.int .u8 i18, .int .u8 i21, S s24, .slice s27b s27n s27c, S s30, .slice s33b s33n s33c, .int .i64 (-1 : Int), .slice none 0 0] 105 fun a34 h35 => ExtH h14 h35 /\ (SemH Tryz.prog (Builtin.append_ #[106, 106] 106 ⟨[.slice s6b s6n s6c, .slice (some a34) 1 1]⟩) h35 fun v36 h37 => vSlice v36 fun s38b s38n s38c => vSome x0 fun a39 => stL (a39.add 0) [.slice s38b s38n s38c] 0 h37 fun h40 => vSome x0 fun a41 => ∃ s42b s42n s42c, cell h40 (a41.add 0) = some (.slice s42b s42n s42c) /\ (Rng .i64 ((s42n : Int) - (1 : Int)) /\ (Kr ((s42n : Int) - (1 : Int)) h40))))))))))))))))) fun y4 h => K (.int .i64 y4) h
theorem ok (hS : asks x0 x1_0 x1_1 x1_2 x1_3b x1_3n x1_3c x1_4 x1_5b x1_5n x1_5c K h) : HCalls Tryz.prog 31 ⟨[.pointer x0, (.agg ⟨[.int .u8 x1_0, .int .u8 x1_1, S x1_2, .slice x1_3b x1_3n x1_3c, S x1_4, .slice x1_5b x1_5n x1_5c]⟩)]⟩ h K :=
  cl Tryz.func31 hS (fun hg hS => lf hg hS) fun hg hS => rt hg hS
end Sx.r10_Tree_Make
namespace Sx.r10_Tree_Put
abbrev L0 : List Sl := [.o 8 .b]
abbrev L1 : List Sl := [.o 0 .p, .o 1 (.i .i64), .o 2 (.i .i64), .o 3 (.i .i64)]
abbrev L4 : List Sl := [.o 0 .p, .o 1 (.i .i64), .o 2 (.i .i64), .o 3 (.i .i64), .o 11 .b]
abbrev L3 : List Sl := [.o 0 .p, .o 1 (.i .i64), .o 2 (.i .i64), .o 3 (.i .i64), .o 9 .b, .o 10 .b]
abbrev L2 : List Sl := [.o 0 .p, .o 1 (.i .i64), .o 2 (.i .i64), .o 3 (.i .i64), .o 9 .b]
abbrev T0 := TK L0
variable (x0 : Option Addr) (x1 x2 x3 : Int)
abbrev n8 (Kn Kr : T0) (h : H) : Prop :=
  HCalls Tryz.prog 77 ⟨[.pointer x0, .int .i64 x1, .int .i64 x2]⟩ h fun v1 h2 => vInt .i64 v1 fun i3 => vSome x0 fun a4 => ∃ s5b s5n s5c, cell h2 (a4.add 0) = some (.slice s5b s5n s5c) /\ ((0 <= x1 /\ x1 < (s5n : Int)) /\ (vSome s5b fun a6 => ∃ s7b s7n s7c, cell h2 ((a6.add (Int.toNat x1 * 8)).add 7) = some (.slice s7b s7n s7c) /\ ((0 <= (0 : Int) /\ (0 : Int) <= i3 /\ i3 <= (s7c : Int)) /\ (SemH Tryz.prog (Builtin.append_ #[97, 97] 97 ⟨[.slice none 0 0, (.slice (if s7c = Int.toNat (0 : Int) then s7b else Option.map (fun q => q.add (Int.toNat (0 : Int) * 1)) s7b) (Int.toNat i3 - Int.toNat (0 : Int)) (s7c - Int.toNat (0 : Int)))]⟩) h2 fun v8 h9 => vSlice v8 fun s10b s10n s10c => newx h9 #[.int .i64 x3] 3 fun a11 h12 => SemH Tryz.prog (Builtin.append_ #[97, 97] 97 ⟨[.slice s10b s10n s10c, .slice (some a11) 1 1]⟩) h12 fun v13 h14 => vSlice v13 fun s15b s15n s15c => vSome x0 fun a16 => ∃ s17b s17n s17c, cell h14 (a16.add 0) = some (.slice s17b s17n s17c) /\ ((0 <= x1 /\ x1 < (s17n : Int)) /\ (vSome s17b fun a18 => ∃ s19b s19n s19c, cell h14 ((a18.add (Int.toNat x1 * 8)).add 7) = some (.slice s19b s19n s19c) /\ ((0 <= i3 /\ i3 <= (s19n : Int) /\ (s19n : Int) <= (s19c : Int)) /\ (SemH Tryz.prog (Builtin.append_ #[97, 97] 97 ⟨[.slice s15b s15n s15c, (.slice (if s19c = Int.toNat i3 then s19b else Option.map (fun q => q.add (Int.toNat i3 * 1)) s19b) (Int.toNat (s19n : Int) - Int.toNat i3) (s19c - Int.toNat i3))]⟩) h14 fun v20 h21 => vSlice v20 fun s22b s22n s22c => vSome x0 fun a23 => ∃ s24b s24n s24c, cell h21 (a23.add 0) = some (.slice s24b s24n s24c) /\ ((0 <= x1 /\ x1 < (s24n : Int)) /\ (vSome s24b fun a25 => stL ((a25.add (Int.toNat x1 * 8)).add 7) [.slice s22b s22n s22c] 0 h21 fun h26 => vSome x0 fun a27 => ∃ s28b s28n s28c, cell h26 (a27.add 0) = some (.slice s28b s28n s28c) /\ ((0 <= x3 /\ x3 < (s28n : Int)) /\ (vSome s28b fun a29 => stL ((a29.add (Int.toNat x3 * 8)).add 6) [.int .i64 x1] 0 h26 fun h30 => Kr true h30))))))))))))
variable (K : Value -> H -> Prop) (h : H)
abbrev asks (x0 : Option Addr) (x1 x2 x3 : Int) (K : Value -> H -> Prop) (h : H) : Prop := cF L0 (fun Kr => sqF L1 (fun K7 => K7 x0 x1 x2 x3 h) fun x0 x1 x2 x3 h => sqF L2 (fun K6 => HCalls Tryz.prog 74 ⟨[.pointer x0, .int .i64 x1]⟩ h fun v43 h44 => vBool v43 fun b45 => cond b45 (K6 x0 x1 x2 x3 true h44) (K6 x0 x1 x2 x3 false h44)) fun x0 x1 x2 x3 x9 h => sqF L3 (fun K5 => HCalls Tryz.prog 75 ⟨[.pointer x0, .int .i64 x3]⟩ h fun v40 h41 => vBool v40 fun b42 => cond b42 (K5 x0 x1 x2 x3 x9 true h41) (K5 x0 x1 x2 x3 x9 false h41)) fun x0 x1 x2 x3 x9 x10 h => sqF L1 (fun K4 => cond x9 (cond x10 (Spl (x3 = (0 : Int)) (Kr false h) (Spl (x2 = x3) (Kr false h) (K4 x0 x1 x2 x3 h))) (Kr false h)) (Kr false h)) fun x0 x1 x2 x3 h => sqF L4 (fun K3 => HCalls Tryz.prog 76 ⟨[.pointer x0, .int .i64 x1, .int .i64 x3]⟩ h fun v37 h38 => vBool v37 fun b39 => cond b39 (K3 x0 x1 x2 x3 true h38) (K3 x0 x1 x2 x3 false h38)) fun x0 x1 x2 x3 x11 h => sqF L1 (fun K2 => cond x11 (Kr false h) (HCalls Tryz.prog 77 ⟨[.pointer x0, .int .i64 x1, .int .i64 x2]⟩ h fun v34 h35 => vInt .i64 v34 fun i36 => Spl (i36 < (0 : Int)) (Kr false h35) (K2 x0 x1 x2 x3 h35))) fun x0 x1 x2 x3 h => sqF L1 (fun K1 => HCalls Tryz.prog 78 ⟨[.pointer x0, .int .i64 x3]⟩ h fun v31 h32 => vBool v31 fun b33 => cond b33 (K1 x0 x1 x2 x3 h32) (K1 x0 x1 x2 x3 h32)) fun x0 x1 x2 x3 h => n8 x0 x1 x2 x3 Kr Kr h) fun y8 h => K (.bool y8) h
theorem ok (hS : asks x0 x1 x2 x3 K h) : HCalls Tryz.prog 32 ⟨[.pointer x0, .int .i64 x1, .int .i64 x2, .int .i64 x3]⟩ h K :=
  cl Tryz.func32 hS (fun hg hS => sq (l := L1) hg hS fun hg hS => sq (l := L2) hg hS fun hg hS => sq (l := L3) hg hS fun hg hS => sq (l := L1) hg hS fun hg hS => sq (l := L4) hg hS fun hg hS => sq (l := L1) hg hS fun hg hS => sq (l := L1) hg hS fun hg hS => lf hg hS) fun hg hS => rt hg hS
end Sx.r10_Tree_Put
namespace Sx.r10_Tree_Write
abbrev L0 : List Sl := [.o 8 .b]
abbrev L1 : List Sl := [.o 0 .p, .o 1 (.i .i64), .o 2 (.i .i64), .o 3 .s]
abbrev L6 : List Sl := [.o 0 .p, .o 1 (.i .i64), .o 2 (.i .i64), .o 3 .s, .o 11 (.i .i64), .o 49 .b]
abbrev L5 : List Sl := [.o 0 .p, .o 1 (.i .i64), .o 2 (.i .i64), .o 3 .s, .o 11 (.i .i64)]
abbrev L4 : List Sl := [.o 0 .p, .o 1 (.i .i64), .o 2 (.i .i64), .o 3 .s, .o 10 (.i .i64), .o 27 .b]
abbrev L3 : List Sl := [.o 0 .p, .o 1 (.i .i64), .o 2 (.i .i64), .o 3 .s, .o 10 (.i .i64)]
abbrev L2 : List Sl := [.o 0 .p, .o 1 (.i .i64), .o 2 (.i .i64), .o 3 .s, .o 9 .b]
abbrev T0 := TK L0
variable (x0 : Option Addr) (x1 x2 : Int) (x3 : List UInt8)
abbrev n8 (Kn Kr : T0) (h : H) : Prop :=
  HCalls Tryz.prog 31 ⟨[.pointer x0, (.agg ⟨[.int .u8 (2 : Int), .int .u8 (0 : Int), S ([] : List UInt8), .slice none 0 0, S x3, .slice none 0 0]⟩)]⟩ h fun v1 h2 => vInt .i64 v1 fun i3 => HCalls Tryz.prog 32 ⟨[.pointer x0, .int .i64 x1, .int .i64 x2, .int .i64 i3]⟩ h2 fun v4 h5 => vBool v4 fun b6 => cond b6 (Kr true h5) (Kr false h5)
variable (K : Value -> H -> Prop) (h : H)
abbrev asks (x0 : Option Addr) (x1 x2 : Int) (x3 : List UInt8) (K : Value -> H -> Prop) (h : H) : Prop := cF L0 (fun Kr => sqF L1 (fun K10 => K10 x0 x1 x2 x3 h) fun x0 x1 x2 x3 h => sqF L2 (fun K9 => HCalls Tryz.prog 74 ⟨[.pointer x0, .int .i64 x1]⟩ h fun v28 h29 => vBool v28 fun b30 => cond b30 (K9 x0 x1 x2 x3 true h29) (K9 x0 x1 x2 x3 false h29)) fun x0 x1 x2 x3 x9 h => sqF L1 (fun K8 => cond x9 (K8 x0 x1 x2 x3 h) (Kr false h)) fun x0 x1 x2 x3 h => sqF L3 (fun K7 => HCalls Tryz.prog 77 ⟨[.pointer x0, .int .i64 x1, .int .i64 x2]⟩ h fun v25 h26 => vInt .i64 v25 fun i27 => K7 x0 x1 x2 x3 i27 h26) fun x0 x1 x2 x3 x10 h => sqF L3 (fun K6 => Spl (x10 < (0 : Int)) (Kr false h) (K6 x0 x1 x2 x3 x10 h)) fun x0 x1 x2 x3 x10 h => sqF L3 (fun K5 => Spl (x3 = ([] : List UInt8)) (Kr true h) (K5 x0 x1 x2 x3 x10 h)) fun x0 x1 x2 x3 x10 h => sqF L1 (fun K1 => sqF L4 (fun K4 => Spl (x10 > (0 : Int)) (K4 x0 x1 x2 x3 x10 true h) (K4 x0 x1 x2 x3 x10 false h)) fun x0 x1 x2 x3 x10 x27 h => cond x27 (sqF L5 (fun K3 => vSome x0 fun a19 => ∃ s20b s20n s20c, cell h (a19.add 0) = some (.slice s20b s20n s20c) /\ ((0 <= x1 /\ x1 < (s20n : Int)) /\ (vSome s20b fun a21 => ∃ s22b s22n s22c, cell h ((a21.add (Int.toNat x1 * 8)).add 7) = some (.slice s22b s22n s22c) /\ (Rng .i64 (x10 - (1 : Int)) /\ ((0 <= (x10 - (1 : Int)) /\ (x10 - (1 : Int)) < (s22n : Int)) /\ (vSome s22b fun a23 => ∃ i24, cell h (a23.add (Int.toNat (x10 - (1 : Int)) * 1)) = some (.int .i64 i24) /\ (K3 x0 x1 x2 x3 i24 h))))))) fun x0 x1 x2 x3 x11 h => sqF L6 (fun K2 => vSome x0 fun a15 => ∃ s16b s16n s16c, cell h (a15.add 0) = some (.slice s16b s16n s16c) /\ ((0 <= x11 /\ x11 < (s16n : Int)) /\ (vSome s16b fun a17 => ∃ i18, cell h (((a17.add (Int.toNat x11 * 8)).add 0).add 0) = some (.int .u8 i18) /\ (Spl (i18 = (2 : Int)) (K2 x0 x1 x2 x3 x11 true h) (K2 x0 x1 x2 x3 x11 false h))))) fun x0 x1 x2 x3 x11 x49 h => cond x49 (vSome x0 fun a7 => ∃ s8b s8n s8c, cell h (a7.add 0) = some (.slice s8b s8n s8c) /\ (vSome x0 fun a9 => ∃ s10b s10n s10c, cell h (a9.add 0) = some (.slice s10b s10n s10c) /\ ((0 <= x11 /\ x11 < (s10n : Int)) /\ (vSome s10b fun a11 => ∃ s12, cell h (((a11.add (Int.toNat x11 * 8)).add 0).add 4) = some (S s12) /\ (((s12.length + x3.length : Nat) : Int) <= 9223372036854775807 /\ ((0 <= x11 /\ x11 < (s8n : Int)) /\ (vSome s8b fun a13 => stL (((a13.add (Int.toNat x11 * 8)).add 0).add 4) [(S (s12 ++ x3))] 0 h fun h14 => Kr true h14))))))) (K1 x0 x1 x2 x3 h)) (K1 x0 x1 x2 x3 h)) fun x0 x1 x2 x3 h => n8 x0 x1 x2 x3 Kr Kr h) fun y8 h => K (.bool y8) h
theorem ok (hS : asks x0 x1 x2 x3 K h) : HCalls Tryz.prog 37 ⟨[.pointer x0, .int .i64 x1, .int .i64 x2, S x3]⟩ h K :=
  cl Tryz.func37 hS (fun hg hS => sq (l := L1) hg hS fun hg hS => sq (l := L2) hg hS fun hg hS => sq (l := L1) hg hS fun hg hS => sq (l := L3) hg hS fun hg hS => sq (l := L3) hg hS fun hg hS => sq (l := L3) hg hS fun hg hS => sc (l := L1) hS (fun hS => sq (l := L4) hg hS fun hg hS => cn (i := 27) hg hS (fun hg hS => sq (l := L5) hg hS fun hg hS => sq (l := L6) hg hS fun hg hS => lf hg hS) fun hg hS => lf hg hS) fun hg hS => lf hg hS) fun hg hS => rt hg hS
end Sx.r10_Tree_Write
namespace Sx.r10_Tree_Whole
abbrev L0 : List Sl := [.o 4 .l]
abbrev L5 : List Sl := [.o 6 .l]
abbrev L6 : List Sl := [.o 0 .p, .o 6 .l, .o 7 .l, .o 8 (.i .i64)]
abbrev L4 : List Sl := [.o 0 .p, .o 6 .l, .o 7 .l]
abbrev L3 : List Sl := [.o 0 .p, .o 1 (.i .i64), .o 6 .l]
abbrev L1 : List Sl := [.o 0 .p, .o 1 (.i .i64)]
abbrev L2 : List Sl := [.o 0 .p, .o 1 (.i .i64), .o 5 .b]
abbrev T0 := TK L0
abbrev T5 := TK L5
abbrev T6 := TK L6
variable (x0 : Option Addr) (x1 : Int) (x6b : Option Addr) (x6n x6c : Nat)
abbrev n7 (Kn Kr : T0) (h : H) : Prop :=
  Kr x6b x6n x6c h
abbrev n10_B (Kn Ke0 : T5) (Kr : T0) : T6 -> T6 := fun K2 x0 x6b x6n x6c x7b x7n x7c x8 h => Spl (x8 < (x7n : Int)) ((vSome x0 fun a1 => ∃ s2b s2n s2c, cell h (a1.add 0) = some (.slice s2b s2n s2c) /\ ((0 <= x8 /\ x8 < (x7n : Int)) /\ (vSome x7b fun a3 => ∃ i4, cell h (a3.add (Int.toNat x8 * 1)) = some (.int .i64 i4) /\ ((0 <= i4 /\ i4 < (s2n : Int)) /\ (vSome s2b fun a5 => ∃ i6, cell h ((((a5.add (Int.toNat i4 * 8)).add 0)).add 0) = some (.int .u8 i6) /\ (∃ i7, cell h ((((a5.add (Int.toNat i4 * 8)).add 0)).add 1) = some (.int .u8 i7) /\ (∃ s8, cell h ((((a5.add (Int.toNat i4 * 8)).add 0)).add 2) = some (S s8) /\ (∃ s9b s9n s9c, cell h ((((a5.add (Int.toNat i4 * 8)).add 0)).add 3) = some (.slice s9b s9n s9c) /\ (∃ s10, cell h ((((a5.add (Int.toNat i4 * 8)).add 0)).add 4) = some (S s10) /\ (∃ s11b s11n s11c, cell h ((((a5.add (Int.toNat i4 * 8)).add 0)).add 5) = some (.slice s11b s11n s11c) /\ (HCalls Tryz.prog 73 ⟨[(.agg ⟨[.int .u8 i6, .int .u8 i7, S s8, .slice s9b s9n s9c, S s10, .slice s11b s11n s11c]⟩)]⟩ h fun v12 h13 => vAgg v12 fun l14 => uncons l14 fun e15 l16 => vInt .u8 e15 fun i17 => uncons l16 fun e18 l19 => vInt .u8 e18 fun i20 => uncons l19 fun e21 l22 => vStr e21 fun s23 => uncons l22 fun e24 l25 => vSlice e24 fun s26b s26n s26c => uncons l25 fun e27 l28 => vStr e27 fun s29 => uncons l28 fun e30 l31 => vSlice e30 fun s32b s32n s32c => unnil l31 (newx h13 ⟨[.int .u8 (0 : Int), .int .u8 (0 : Int), S ([] : List UInt8), .slice none 0 0, S ([] : List UInt8), .slice none 0 0]⟩ 57 fun a33 h34 => stL a33 [.int .u8 i17, .int .u8 i20, S s23, .slice s26b s26n s26c, S s29, .slice s32b s32n s32c] 0 h34 fun h35 => (0 <= x8 /\ x8 < (x7n : Int)) /\ (vSome x7b fun a36 => ∃ i37, cell h35 (a36.add (Int.toNat x8 * 1)) = some (.int .i64 i37) /\ (HCalls Tryz.prog 59 ⟨[.pointer x0, .int .i64 i37]⟩ h35 fun v38 h39 => vSlice v38 fun s40b s40n s40c => stL (a33.add 5) [.slice s40b s40n s40c] 0 h39 fun h41 => ∃ i42, cell h41 (a33.add 0) = some (.int .u8 i42) /\ (∃ i43, cell h41 (a33.add 1) = some (.int .u8 i43) /\ (∃ s44, cell h41 (a33.add 2) = some (S s44) /\ (∃ s45b s45n s45c, cell h41 (a33.add 3) = some (.slice s45b s45n s45c) /\ (∃ s46, cell h41 (a33.add 4) = some (S s46) /\ (∃ s47b s47n s47c, cell h41 (a33.add 5) = some (.slice s47b s47n s47c) /\ (newx h41 #[.int .u8 i42, .int .u8 i43, S s44, .slice s45b s45n s45c, S s46, .slice s47b s47n s47c] 57 fun a48 h49 => SemH Tryz.prog (Builtin.append_ #[54, 54] 54 ⟨[.slice x6b x6n x6c, .slice (some a48) 1 1]⟩) h49 fun v50 h51 => vSlice v50 fun s52b s52n s52c => Rng .i64 (x8 + (1 : Int)) /\ (K2 x0 s52b s52n s52c x7b x7n x7c (x8 + (1 : Int)) h51))))))))))))))))))))) /\ (vSome x0 fun a53 => ∃ s54b s54n s54c, cell h (a53.add 0) = some (.slice s54b s54n s54c) /\ ((0 <= x8 /\ x8 < (x7n : Int)) /\ (vSome x7b fun a55 => ∃ i56, cell h (a55.add (Int.toNat x8 * 1)) = some (.int .i64 i56) /\ ((0 <= i56 /\ i56 < (s54n : Int)) /\ (vSome s54b fun a57 => ∃ i58, cell h ((((a57.add (Int.toNat i56 * 8)).add 0)).add 0) = some (.int .u8 i58) /\ (∃ i59, cell h ((((a57.add (Int.toNat i56 * 8)).add 0)).add 1) = some (.int .u8 i59) /\ (∃ s60, cell h ((((a57.add (Int.toNat i56 * 8)).add 0)).add 2) = some (S s60) /\ (∃ s61b s61n s61c, cell h ((((a57.add (Int.toNat i56 * 8)).add 0)).add 3) = some (.slice s61b s61n s61c) /\ (∃ s62, cell h ((((a57.add (Int.toNat i56 * 8)).add 0)).add 4) = some (S s62) /\ (∃ s63b s63n s63c, cell h ((((a57.add (Int.toNat i56 * 8)).add 0)).add 5) = some (.slice s63b s63n s63c) /\ (newx h ⟨[.int .u8 (0 : Int), .int .u8 (0 : Int), S ([] : List UInt8), .slice none 0 0, S ([] : List UInt8), .slice none 0 0]⟩ 57 fun a64 h65 => ExtH h h65 /\ (HCalls Tryz.prog 73 ⟨[(.agg ⟨[.int .u8 i58, .int .u8 i59, S s60, .slice s61b s61n s61c, S s62, .slice s63b s63n s63c]⟩)]⟩ h65 fun v66 h67 => vAgg v66 fun l68 => uncons l68 fun e69 l70 => vInt .u8 e69 fun i71 => uncons l70 fun e72 l73 => vInt .u8 e72 fun i74 => uncons l73 fun e75 l76 => vStr e75 fun s77 => uncons l76 fun e78 l79 => vSlice e78 fun s80b s80n s80c => uncons l79 fun e81 l82 => vStr e81 fun s83 => uncons l82 fun e84 l85 => vSlice e84 fun s86b s86n s86c => unnil l85 (stL a64 [.int .u8 i71, .int .u8 i74, S s77, .slice s80b s80n s80c, S s83, .slice s86b s86n s86c] 0 h67 fun h87 => (0 <= x8 /\ x8 < (x7n : Int)) /\ (vSome x7b fun a88 => ∃ i89, cell h87 (a88.add (Int.toNat x8 * 1)) = some (.int .i64 i89) /\ (HCalls Tryz.prog 59 ⟨[.pointer x0, .int .i64 i89]⟩ h87 fun v90 h91 => vSlice v90 fun s92b s92n s92c => stL (a64.add 5) [.slice s92b s92n s92c] 0 h91 fun h93 => ∃ i94, cell h93 (a64.add 0) = some (.int .u8 i94) /\ (∃ i95, cell h93 (a64.add 1) = some (.int .u8 i95) /\ (∃ s96, cell h93 (a64.add 2) = some (S s96) /\ (∃ s97b s97n s97c, cell h93 (a64.add 3) = some (.slice s97b s97n s97c) /\ (∃ s98, cell h93 (a64.add 4) = some (S s98) /\ (∃ s99b s99n s99c, cell h93 (a64.add 5) = some (.slice s99b s99n s99c) /\ (newx h93 #[.int .u8 i94, .int .u8 i95, S s96, .slice s97b s97n s97c, S s98, .slice s99b s99n s99c] 57 fun a100 h101 => SemH Tryz.prog (Builtin.append_ #[54, 54] 54 ⟨[.slice x6b x6n x6c, .slice (some a100) 1 1]⟩) h101 fun v102 h103 => vSlice v102 fun s104b s104n s104c => Rng .i64 (x8 + (1 : Int)) /\ (K2 x0 s104b s104n s104c x7b x7n x7c (x8 + (1 : Int)) h103))))))))))))))))))))))) (Ke0 x6b x6n x6c h)
abbrev n10_L (Kn Ke0 : T5) (Kr : T0) : Nat -> T6 := LP L6 (n10_B Kn Ke0 Kr)
variable (K : Value -> H -> Prop) (h : H)
abbrev asks (x0 : Option Addr) (x1 : Int) (K : Value -> H -> Prop) (h : H) : Prop := cF L0 (fun Kr => sqF L1 (fun K8 => K8 x0 x1 h) fun x0 x1 h => sqF L2 (fun K7 => HCalls Tryz.prog 75 ⟨[.pointer x0, .int .i64 x1]⟩ h fun v109 h110 => vBool v109 fun b111 => cond b111 (K7 x0 x1 true h110) (K7 x0 x1 false h110)) fun x0 x1 x5 h => sqF L1 (fun K6 => cond x5 (K6 x0 x1 h) (Kr none 0 0 h)) fun x0 x1 h => sqF L3 (fun K5 => K5 x0 x1 none 0 0 h) fun x0 x1 x6b x6n x6c h => sqF L4 (fun K4 => vSome x0 fun a105 => ∃ s106b s106n s106c, cell h (a105.add 0) = some (.slice s106b s106n s106c) /\ ((0 <= x1 /\ x1 < (s106n : Int)) /\ (vSome s106b fun a107 => ∃ s108b s108n s108c, cell h ((a107.add (Int.toNat x1 * 8)).add 7) = some (.slice s108b s108n s108c) /\ (K4 x0 x6b x6n x6c s108b s108n s108c h)))) fun x0 x6b x6n x6c x7b x7n x7c h => sqF L5 (fun K1 => sqF L6 (fun K3 => K3 x0 x6b x6n x6c x7b x7n x7c (0 : Int) h) fun x0 x6b x6n x6c x7b x7n x7c x8 h => lpF L6 (n10_B K1 K1 Kr) fun K2 => K2 x0 x6b x6n x6c x7b x7n x7c x8 h) fun x6b x6n x6c h => n7 x6b x6n x6c Kr Kr h) fun y4b y4n y4c h => K (.slice y4b y4n y4c) h
theorem ok (hS : asks x0 x1 K h) : HCalls Tryz.prog 59 ⟨[.pointer x0, .int .i64 x1]⟩ h K :=
  cl Tryz.func59 hS (fun hg hS => sq (l := L1) hg hS fun hg hS => sq (l := L2) hg hS fun hg hS => sq (l := L1) hg hS fun hg hS => sq (l := L3) hg hS fun hg hS => sq (l := L4) hg hS fun hg hS => sc (l := L5) hS (fun hS => sq (l := L6) hg hS fun hg hS => bl (b := 0) (lp hg hS fun hg hS => lf hg hS)) fun hg hS => lf hg hS) fun hg hS => rt hg hS
end Sx.r10_Tree_Whole
namespace Sx.r10_Tree_Parent
abbrev L0 : List Sl := [.o 4 (.i .i64)]
variable (x0 : Option Addr) (x1 : Int)
variable (K : Value -> H -> Prop) (h : H)
abbrev asks : Prop := cF L0 (fun Kr => HCalls Tryz.prog 75 ⟨[.pointer x0, .int .i64 x1]⟩ h fun v1 h2 => vBool v1 fun b3 => cond b3 (vSome x0 fun a4 => ∃ s5b s5n s5c, cell h2 (a4.add 0) = some (.slice s5b s5n s5c) /\ ((0 <= x1 /\ x1 < (s5n : Int)) /\ (vSome s5b fun a6 => ∃ i7, cell h2 ((a6.add (Int.toNat x1 * 8)).add 6) = some (.int .i64 i7) /\ (Kr i7 h2)))) (Kr (-1 : Int) h2)) fun y4 h => K (.int .i64 y4) h
theorem ok (hS : asks x0 x1 K h) : HCalls Tryz.prog 72 ⟨[.pointer x0, .int .i64 x1]⟩ h K :=
  cl Tryz.func72 hS (fun hg hS => lf hg hS) fun hg hS => rt hg hS
end Sx.r10_Tree_Parent
namespace Sx.r10_bare
abbrev L0 : List Sl := [.o 2 .a]
variable (x0_0 x0_1 : Int) (x0_2 : List UInt8) (x0_3b : Option Addr) (x0_3n x0_3c : Nat) (x0_4 : List UInt8) (x0_5b : Option Addr) (x0_5n x0_5c : Nat)
variable (K : Value -> H -> Prop) (h : H)
abbrev asks : Prop := cF L0 (fun Kr => newx h ⟨[.int .u8 x0_0, .int .u8 x0_1, S x0_2, .slice x0_3b x0_3n x0_3c, S x0_4, .slice x0_5b x0_5n x0_5c]⟩ 57 fun a1 h2 => newx h2 ⟨[.int .u8 (0 : Int), .int .u8 (0 : Int), S ([] : List UInt8), .slice none 0 0, S ([] : List UInt8), .slice none 0 0]⟩ 57 fun a3 h4 => ∃ i5, cell h4 (a1.add 0) = some (.int .u8 i5) /\ (Spl (i5 = (1 : Int)) (∃ s6b s6n s6c, cell h4 (a1.add 3) = some (.slice s6b s6n s6c) /\ (SemH Tryz.prog (Builtin.append_ #[29, 29] 29 ⟨[.slice none 0 0, .slice s6b s6n s6c]⟩) h4 fun v7 h8 => vSlice v7 fun s9b s9n s9c => ∃ i10, cell h8 (a1.add 0) = some (.int .u8 i10) /\ (∃ i11, cell h8 (a1.add 1) = some (.int .u8 i11) /\ (∃ s12, cell h8 (a1.add 2) = some (S s12) /\ (stL a3 [.int .u8 i10, .int .u8 i11, S s12, .slice s9b s9n s9c, S ([] : List UInt8), .slice none 0 0] 0 h8 fun h13 => Kr a3 h13))))) (∃ i14, cell h4 (a1.add 0) = some (.int .u8 i14) /\ (∃ s15, cell h4 (a1.add 4) = some (S s15) /\ (stL a3 [.int .u8 i14, .int .u8 (0 : Int), S ([] : List UInt8), .slice none 0 0, S s15, .slice none 0 0] 0 h4 fun h16 => Kr a3 h16))))) fun y2 h => ∃ i17, cell h ((y2).add 0) = some (.int .u8 i17) /\ (∃ i18, cell h ((y2).add 1) = some (.int .u8 i18) /\ (∃ s19, cell h ((y2).add 2) = some (S s19) /\ (∃ s20b s20n s20c, cell h ((y2).add 3) = some (.slice s20b s20n s20c) /\ (∃ s21, cell h ((y2).add 4) = some (S s21) /\ (∃ s22b s22n s22c, cell h ((y2).add 5) = some (.slice s22b s22n s22c) /\ (K (.agg ⟨[.int .u8 i17, .int .u8 i18, S s19, .slice s20b s20n s20c, S s21, .slice s22b s22n s22c]⟩) h))))))
theorem ok (hS : asks x0_0 x0_1 x0_2 x0_3b x0_3n x0_3c x0_4 x0_5b x0_5n x0_5c K h) : HCalls Tryz.prog 73 ⟨[(.agg ⟨[.int .u8 x0_0, .int .u8 x0_1, S x0_2, .slice x0_3b x0_3n x0_3c, S x0_4, .slice x0_5b x0_5n x0_5c]⟩)]⟩ h K :=
  cl Tryz.func73 hS (fun hg hS => lf hg hS) fun hg hS => rt hg hS
end Sx.r10_bare
namespace Sx.r10_Tree_holds
abbrev L0 : List Sl := [.o 4 .b]
variable (x0 : Option Addr) (x1 : Int)
variable (K : Value -> H -> Prop) (h : H)
abbrev asks : Prop := cF L0 (fun Kr => HCalls Tryz.prog 75 ⟨[.pointer x0, .int .i64 x1]⟩ h fun v1 h2 => vBool v1 fun b3 => cond b3 (Spl (x1 = (0 : Int)) (Kr true h2) (vSome x0 fun a4 => ∃ s5b s5n s5c, cell h2 (a4.add 0) = some (.slice s5b s5n s5c) /\ ((0 <= x1 /\ x1 < (s5n : Int)) /\ (vSome s5b fun a6 => ∃ i7, cell h2 (((a6.add (Int.toNat x1 * 8)).add 0).add 0) = some (.int .u8 i7) /\ (Spl (i7 = (1 : Int)) (Kr true h2) (Kr false h2)))))) (Kr false h2)) fun y4 h => K (.bool y4) h
theorem ok (hS : asks x0 x1 K h) : HCalls Tryz.prog 74 ⟨[.pointer x0, .int .i64 x1]⟩ h K :=
  cl Tryz.func74 hS (fun hg hS => lf hg hS) fun hg hS => rt hg hS
end Sx.r10_Tree_holds
namespace Sx.r10_Tree_there
abbrev L0 : List Sl := [.o 4 .b]
variable (x0 : Option Addr) (x1 : Int)
variable (K : Value -> H -> Prop) (h : H)
abbrev asks : Prop := cF L0 (fun Kr => Spl (x1 ≥ (0 : Int)) (vSome x0 fun a1 => ∃ s2b s2n s2c, cell h (a1.add 0) = some (.slice s2b s2n s2c) /\ (Spl (x1 < (s2n : Int)) (Kr true h) (Kr false h))) (Kr false h)) fun y4 h => K (.bool y4) h
theorem ok (hS : asks x0 x1 K h) : HCalls Tryz.prog 75 ⟨[.pointer x0, .int .i64 x1]⟩ h K :=
  cl Tryz.func75 hS (fun hg hS => lf hg hS) fun hg hS => rt hg hS
end Sx.r10_Tree_there
namespace Sx.r10_Tree_within
abbrev L0 : List Sl := [.o 6 .b]
abbrev L2 : List Sl := []
abbrev L1 : List Sl := [.o 0 .p, .o 1 (.i .i64), .o 2 (.i .i64)]
abbrev T0 := TK L0
abbrev T2 := TK L2
abbrev T1 := TK L1
variable (x0 : Option Addr) (x1 x2 : Int)
abbrev n3 (Kn Kr : T0) (h : H) : Prop :=
  Kr false h
abbrev n5_B (Kn Ke0 : T2) (Kr : T0) : T1 -> T1 := fun K2 x0 x1 x2 h => Spl (x1 ≥ (0 : Int)) (Spl (x1 = x2) (Kr true h) (vSome x0 fun a1 => ∃ s2b s2n s2c, cell h (a1.add 0) = some (.slice s2b s2n s2c) /\ ((0 <= x1 /\ x1 < (s2n : Int)) /\ (vSome s2b fun a3 => ∃ i4, cell h ((a3.add (Int.toNat x1 * 8)).add 6) = some (.int .i64 i4) /\ (K2 x0 i4 x2 h))))) (Ke0 h)
abbrev n5_L (Kn Ke0 : T2) (Kr : T0) : Nat -> T1 := LP L1 (n5_B Kn Ke0 Kr)
variable (K : Value -> H -> Prop) (h : H)
abbrev asks (x0 : Option Addr) (x1 x2 : Int) (K : Value -> H -> Prop) (h : H) : Prop := cF L0 (fun Kr => sqF L1 (fun K3 => K3 x0 x1 x2 h) fun x0 x1 x2 h => sqF L2 (fun K1 => lpF L1 (n5_B K1 K1 Kr) fun K2 => K2 x0 x1 x2 h) fun h => n3 Kr Kr h) fun y6 h => K (.bool y6) h
theorem ok (hS : asks x0 x1 x2 K h) : HCalls Tryz.prog 76 ⟨[.pointer x0, .int .i64 x1, .int .i64 x2]⟩ h K :=
  cl Tryz.func76 hS (fun hg hS => sq (l := L1) hg hS fun hg hS => sc (l := L2) hS (fun hS => bl (b := 0) (lp hg hS fun hg hS => lf hg hS)) fun hg hS => lf hg hS) fun hg hS => rt hg hS
end Sx.r10_Tree_within
namespace Sx.r10_Tree_place
abbrev L0 : List Sl := [.o 6 (.i .i64)]
abbrev L3 : List Sl := []
abbrev L4 : List Sl := [.o 2 (.i .i64), .o 7 .l, .o 8 (.i .i64)]
abbrev L2 : List Sl := [.o 2 (.i .i64), .o 7 .l]
abbrev L1 : List Sl := [.o 0 .p, .o 1 (.i .i64), .o 2 (.i .i64)]
abbrev T0 := TK L0
abbrev T3 := TK L3
abbrev T4 := TK L4
variable (x0 : Option Addr) (x1 x2 : Int)
abbrev n5 (Kn Kr : T0) (h : H) : Prop :=
  Kr (-1 : Int) h
abbrev n8_B (Kn Ke0 : T3) (Kr : T0) : T4 -> T4 := fun K2 x2 x7b x7n x7c x8 h => Spl (x8 < (x7n : Int)) ((0 <= x8 /\ x8 < (x7n : Int)) /\ (vSome x7b fun a1 => ∃ i2, cell h (a1.add (Int.toNat x8 * 1)) = some (.int .i64 i2) /\ (Spl (i2 = x2) (Kr x8 h) (Rng .i64 (x8 + (1 : Int)) /\ (K2 x2 x7b x7n x7c (x8 + (1 : Int)) h))))) (Ke0 h)
abbrev n8_L (Kn Ke0 : T3) (Kr : T0) : Nat -> T4 := LP L4 (n8_B Kn Ke0 Kr)
variable (K : Value -> H -> Prop) (h : H)
abbrev asks (x0 : Option Addr) (x1 x2 : Int) (K : Value -> H -> Prop) (h : H) : Prop := cF L0 (fun Kr => sqF L1 (fun K6 => K6 x0 x1 x2 h) fun x0 x1 x2 h => sqF L2 (fun K5 => vSome x0 fun a3 => ∃ s4b s4n s4c, cell h (a3.add 0) = some (.slice s4b s4n s4c) /\ ((0 <= x1 /\ x1 < (s4n : Int)) /\ (vSome s4b fun a5 => ∃ s6b s6n s6c, cell h ((a5.add (Int.toNat x1 * 8)).add 7) = some (.slice s6b s6n s6c) /\ (K5 x2 s6b s6n s6c h)))) fun x2 x7b x7n x7c h => sqF L2 (fun K4 => Spl (x2 = (-1 : Int)) (Kr (x7n : Int) h) (K4 x2 x7b x7n x7c h)) fun x2 x7b x7n x7c h => sqF L3 (fun K1 => sqF L4 (fun K3 => K3 x2 x7b x7n x7c (0 : Int) h) fun x2 x7b x7n x7c x8 h => lpF L4 (n8_B K1 K1 Kr) fun K2 => K2 x2 x7b x7n x7c x8 h) fun h => n5 Kr Kr h) fun y6 h => K (.int .i64 y6) h
theorem ok (hS : asks x0 x1 x2 K h) : HCalls Tryz.prog 77 ⟨[.pointer x0, .int .i64 x1, .int .i64 x2]⟩ h K :=
  cl Tryz.func77 hS (fun hg hS => sq (l := L1) hg hS fun hg hS => sq (l := L2) hg hS fun hg hS => sq (l := L2) hg hS fun hg hS => sc (l := L3) hS (fun hS => sq (l := L4) hg hS fun hg hS => bl (b := 0) (lp hg hS fun hg hS => lf hg hS)) fun hg hS => lf hg hS) fun hg hS => rt hg hS
end Sx.r10_Tree_place
namespace Sx.r10_Tree_Cut
abbrev L2 : List Sl := [.o 0 .p, .o 1 (.i .i64), .o 5 .b]
abbrev L1 : List Sl := [.o 0 .p, .o 1 (.i .i64)]
abbrev L0 : List Sl := [.o 4 .b]
variable (x0 : Option Addr) (x1 : Int)
variable (K : Value -> H -> Prop) (h : H)
abbrev asks (x0 : Option Addr) (x1 : Int) (K : Value -> H -> Prop) (h : H) : Prop := cF L0 (fun Kr => sqF L1 (fun K2 => K2 x0 x1 h) fun x0 x1 h => sqF L2 (fun K1 => HCalls Tryz.prog 75 ⟨[.pointer x0, .int .i64 x1]⟩ h fun v34 h35 => vBool v34 fun b36 => cond b36 (K1 x0 x1 true h35) (K1 x0 x1 false h35)) fun x0 x1 x5 h => cond x5 (vSome x0 fun a1 => ∃ s2b s2n s2c, cell h (a1.add 0) = some (.slice s2b s2n s2c) /\ ((0 <= x1 /\ x1 < (s2n : Int)) /\ (vSome s2b fun a3 => ∃ i4, cell h ((a3.add (Int.toNat x1 * 8)).add 6) = some (.int .i64 i4) /\ (Spl (i4 < (0 : Int)) (Kr false h) (vSome x0 fun a5 => ∃ s6b s6n s6c, cell h (a5.add 0) = some (.slice s6b s6n s6c) /\ ((0 <= x1 /\ x1 < (s6n : Int)) /\ (vSome s6b fun a7 => ∃ i8, cell h ((a7.add (Int.toNat x1 * 8)).add 6) = some (.int .i64 i8) /\ (HCalls Tryz.prog 77 ⟨[.pointer x0, .int .i64 i8, .int .i64 x1]⟩ h fun v9 h10 => vInt .i64 v9 fun i11 => vSome x0 fun a12 => ∃ s13b s13n s13c, cell h10 (a12.add 0) = some (.slice s13b s13n s13c) /\ ((0 <= i8 /\ i8 < (s13n : Int)) /\ (vSome s13b fun a14 => ∃ s15b s15n s15c, cell h10 ((a14.add (Int.toNat i8 * 8)).add 7) = some (.slice s15b s15n s15c) /\ ((0 <= (0 : Int) /\ (0 : Int) <= i11 /\ i11 <= (s15c : Int)) /\ (SemH Tryz.prog (Builtin.append_ #[97, 97] 97 ⟨[.slice none 0 0, (.slice (if s15c = Int.toNat (0 : Int) then s15b else Option.map (fun q => q.add (Int.toNat (0 : Int) * 1)) s15b) (Int.toNat i11 - Int.toNat (0 : Int)) (s15c - Int.toNat (0 : Int)))]⟩) h10 fun v16 h17 => vSlice v16 fun s18b s18n s18c => vSome x0 fun a19 => ∃ s20b s20n s20c, cell h17 (a19.add 0) = some (.slice s20b s20n s20c) /\ ((0 <= i8 /\ i8 < (s20n : Int)) /\ (vSome s20b fun a21 => ∃ s22b s22n s22c, cell h17 ((a21.add (Int.toNat i8 * 8)).add 7) = some (.slice s22b s22n s22c) /\ (Rng .i64 (i11 + (1 : Int)) /\ ((0 <= (i11 + (1 : Int)) /\ (i11 + (1 : Int)) <= (s22n : Int) /\ (s22n : Int) <= (s22c : Int)) /\ (SemH Tryz.prog (Builtin.append_ #[97, 97] 97 ⟨[.slice s18b s18n s18c, (.slice (if s22c = Int.toNat (i11 + (1 : Int)) then s22b else Option.map (fun q => q.add (Int.toNat (i11 + (1 : Int)) * 1)) s22b) (Int.toNat (s22n : Int) - Int.toNat (i11 + (1 : Int))) (s22c - Int.toNat (i11 + (1 : Int))))]⟩) h17 fun v23 h24 => vSlice v23 fun s25b s25n s25c => vSome x0 fun a26 => ∃ s27b s27n s27c, cell h24 (a26.add 0) = some (.slice s27b s27n s27c) /\ ((0 <= i8 /\ i8 < (s27n : Int)) /\ (vSome s27b fun a28 => stL ((a28.add (Int.toNat i8 * 8)).add 7) [.slice s25b s25n s25c] 0 h24 fun h29 => vSome x0 fun a30 => ∃ s31b s31n s31c, cell h29 (a30.add 0) = some (.slice s31b s31n s31c) /\ ((0 <= x1 /\ x1 < (s31n : Int)) /\ (vSome s31b fun a32 => stL ((a32.add (Int.toNat x1 * 8)).add 6) [.int .i64 (-1 : Int)] 0 h29 fun h33 => Kr true h33))))))))))))))))))))) (Kr false h)) fun y4 h => K (.bool y4) h
theorem ok (hS : asks x0 x1 K h) : HCalls Tryz.prog 78 ⟨[.pointer x0, .int .i64 x1]⟩ h K :=
  cl Tryz.func78 hS (fun hg hS => sq hg hS fun hg hS => sq hg hS fun hg hS => lf hg hS) fun hg hS => rt hg hS
end Sx.r10_Tree_Cut
namespace Sx.r00_Tokens
abbrev L0 : List Sl := [.o 4 (.i .i64)]
abbrev L3 : List Sl := [.o 5 (.i .i64)]
abbrev L4 : List Sl := [.o 0 .l, .o 1 (.i .i64), .o 5 (.i .i64), .o 6 (.i .i64)]
abbrev L5 : List Sl := [.o 0 .l, .o 1 (.i .i64), .o 5 (.i .i64), .o 6 (.i .i64), .o 7 (.i .i64)]
abbrev L2 : List Sl := [.o 0 .l, .o 1 (.i .i64), .o 5 (.i .i64)]
abbrev L1 : List Sl := [.o 0 .l, .o 1 (.i .i64)]
abbrev T0 := TK L0
abbrev T4 := TK L4
abbrev T3 := TK L3
abbrev T5 := TK L5
variable (x0b : Option Addr) (x0n x0c : Nat) (x1 x5 x6 : Int)
abbrev n4 (Kn Kr : T0) (h : H) : Prop :=
  Kr x5 h
abbrev n10 (Kn : T4) (Ke0 : T3) (Kr : T0) (h : H) : Prop :=
  Rng .i64 (x6 + (1 : Int)) /\ (Kn x0b x0n x0c x1 x5 (x6 + (1 : Int)) h)
abbrev n15_B (Kn Ke2 Ke1 : T4) (Ke0 : T3) (Kr : T0) : T5 -> T5 := fun K4 x0b x0n x0c x1 x5 x6 x7 h => (0 <= x6 /\ x6 < (x0n : Int)) /\ (vSome x0b fun a1 => ∃ s2b s2n s2c, cell h ((a1.add (Int.toNat x6 * 5)).add 2) = some (.slice s2b s2n s2c) /\ (Spl (x7 < (s2n : Int)) (Spl (x5 <= x1) ((0 <= x6 /\ x6 < (x0n : Int)) /\ (vSome x0b fun a3 => ∃ s4b s4n s4c, cell h ((a3.add (Int.toNat x6 * 5)).add 2) = some (.slice s4b s4n s4c) /\ ((0 <= x7 /\ x7 < (s4n : Int)) /\ (vSome s4b fun a5 => ∃ s6, cell h ((a5.add (Int.toNat x7 * 2)).add 0) = some (S s6) /\ ((8 : Int) ≠ 0 /\ (Rng .i64 (Int.tdiv (s6.length : Int) (8 : Int)) /\ (Rng .i64 ((1 : Int) + (Int.tdiv (s6.length : Int) (8 : Int))) /\ ((0 <= x6 /\ x6 < (x0n : Int)) /\ (vSome x0b fun a7 => ∃ s8b s8n s8c, cell h ((a7.add (Int.toNat x6 * 5)).add 2) = some (.slice s8b s8n s8c) /\ ((0 <= x7 /\ x7 < (s8n : Int)) /\ (vSome s8b fun a9 => ∃ s10, cell h ((a9.add (Int.toNat x7 * 2)).add 1) = some (S s10) /\ ((8 : Int) ≠ 0 /\ (Rng .i64 (Int.tdiv (s10.length : Int) (8 : Int)) /\ (Rng .i64 (((1 : Int) + (Int.tdiv (s6.length : Int) (8 : Int))) + (Int.tdiv (s10.length : Int) (8 : Int))) /\ (Rng .i64 (x5 + (((1 : Int) + (Int.tdiv (s6.length : Int) (8 : Int))) + (Int.tdiv (s10.length : Int) (8 : Int)))) /\ (Rng .i64 (x7 + (1 : Int)) /\ (K4 x0b x0n x0c x1 (x5 + (((1 : Int) + (Int.tdiv (s6.length : Int) (8 : Int))) + (Int.tdiv (s10.length : Int) (8 : Int)))) x6 (x7 + (1 : Int)) h))))))))))))))))) (Ke2 x0b x0n x0c x1 x5 x6 h)) (Ke2 x0b x0n x0c x1 x5 x6 h)))
abbrev n15_L (Kn Ke2 Ke1 : T4) (Ke0 : T3) (Kr : T0) : Nat -> T5 := LP L5 (n15_B Kn Ke2 Ke1 Ke0 Kr)
abbrev n7_B (Kn Ke0 : T3) (Kr : T0) : T4 -> T4 := fun K2 x0b x0n x0c x1 x5 x6 h => sqF L4 (fun K7 => Spl (x6 < (x0n : Int)) (Spl (x5 <= x1) (K7 x0b x0n x0c x1 x5 x6 h) (Ke0 x5 h)) (Ke0 x5 h)) fun x0b x0n x0c x1 x5 x6 h => sqF L4 (fun K3 => sqF L4 (fun K6 => (0 <= x6 /\ x6 < (x0n : Int)) /\ (vSome x0b fun a11 => ∃ s12, cell h ((a11.add (Int.toNat x6 * 5)).add 4) = some (S s12) /\ ((8 : Int) ≠ 0 /\ (Rng .i64 (Int.tdiv (s12.length : Int) (8 : Int)) /\ (Rng .i64 ((1 : Int) + (Int.tdiv (s12.length : Int) (8 : Int))) /\ ((0 <= x6 /\ x6 < (x0n : Int)) /\ (vSome x0b fun a13 => ∃ s14, cell h ((a13.add (Int.toNat x6 * 5)).add 1) = some (S s14) /\ ((8 : Int) ≠ 0 /\ (Rng .i64 (Int.tdiv (s14.length : Int) (8 : Int)) /\ (Rng .i64 (((1 : Int) + (Int.tdiv (s12.length : Int) (8 : Int))) + (Int.tdiv (s14.length : Int) (8 : Int))) /\ (Rng .i64 (x5 + (((1 : Int) + (Int.tdiv (s12.length : Int) (8 : Int))) + (Int.tdiv (s14.length : Int) (8 : Int)))) /\ (K6 x0b x0n x0c x1 (x5 + (((1 : Int) + (Int.tdiv (s12.length : Int) (8 : Int))) + (Int.tdiv (s14.length : Int) (8 : Int)))) x6 h)))))))))))) fun x0b x0n x0c x1 x5 x6 h => sqF L5 (fun K5 => K5 x0b x0n x0c x1 x5 x6 (0 : Int) h) fun x0b x0n x0c x1 x5 x6 x7 h => lpF L5 (n15_B K3 K3 K3 Ke0 Kr) fun K4 => K4 x0b x0n x0c x1 x5 x6 x7 h) fun x0b x0n x0c x1 x5 x6 h => n10 x0b x0n x0c x1 x5 x6 K2 Ke0 Kr h
abbrev n7_L (Kn Ke0 : T3) (Kr : T0) : Nat -> T4 := LP L4 (n7_B Kn Ke0 Kr)
variable (K : Value -> H -> Prop) (h : H)
abbrev asks (x0b : Option Addr) (x0n x0c : Nat) (x1 : Int) (K : Value -> H -> Prop) (h : H) : Prop := cF L0 (fun Kr => sqF L1 (fun K10 => K10 x0b x0n x0c x1 h) fun x0b x0n x0c x1 h => sqF L2 (fun K9 => K9 x0b x0n x0c x1 (0 : Int) h) fun x0b x0n x0c x1 x5 h => sqF L3 (fun K1 => sqF L4 (fun K8 => K8 x0b x0n x0c x1 x5 (0 : Int) h) fun x0b x0n x0c x1 x5 x6 h => lpF L4 (n7_B K1 K1 Kr) fun K2 => K2 x0b x0n x0c x1 x5 x6 h) fun x5 h => n4 x5 Kr Kr h) fun y4 h => K (.int .i64 y4) h
theorem ok (hS : asks x0b x0n x0c x1 K h) : HCalls Tryz.prog 20 ⟨[.slice x0b x0n x0c, .int .i64 x1]⟩ h K :=
  cl Tryz.func20 hS (fun hg hS => sq (l := L1) hg hS fun hg hS => sq (l := L2) hg hS fun hg hS => sc (l := L3) hS (fun hS => sq (l := L4) hg hS fun hg hS => bl (b := 0) (lp hg hS fun hg hS => sq (l := L4) hg hS fun hg hS => sc (l := L4) hS (fun hS => bl (b := 1) (sq (l := L4) hg hS fun hg hS => sq (l := L5) hg hS fun hg hS => bl (b := 2) (lp hg hS fun hg hS => lf hg hS))) fun hg hS => lf hg hS)) fun hg hS => lf hg hS) fun hg hS => rt hg hS
end Sx.r00_Tokens
namespace Sx.r12_behind
abbrev L2 : List Sl := []
abbrev L3 : List Sl := [.o 0 .l, .o 3 (.i .i64)]
abbrev L0 : List Sl := [.o 2 (.i .i64)]
abbrev L1 : List Sl := [.o 0 .l]
abbrev T2 := TK L2
abbrev T0 := TK L0
abbrev T3 := TK L3
variable (x0b : Option Addr) (x0n x0c : Nat)
abbrev n6_B (Kn Ke0 : T2) (Kr : T0) : T3 -> T3 := fun K2 x0b x0n x0c x3 h => Spl (x3 ≥ (0 : Int)) ((0 <= x3 /\ x3 < (x0n : Int)) /\ (vSome x0b fun a1 => ∃ i2, cell h ((a1.add (Int.toNat x3 * 3)).add 0) = some (.int .i64 i2) /\ (Spl (i2 < (0 : Int)) (Rng .i64 (x3 + (1 : Int)) /\ (Kr (x3 + (1 : Int)) h)) (Rng .i64 (x3 - (1 : Int)) /\ (K2 x0b x0n x0c (x3 - (1 : Int)) h))))) (Ke0 h)
abbrev n6_L (Kn Ke0 : T2) (Kr : T0) : Nat -> T3 := LP L3 (n6_B Kn Ke0 Kr)
variable (K : Value -> H -> Prop) (h : H)
abbrev asks (x0b : Option Addr) (x0n x0c : Nat) (K : Value -> H -> Prop) (h : H) : Prop := cF L0 (fun Kr => sqF L1 (fun K4 => K4 x0b x0n x0c h) fun x0b x0n x0c h => sqF L2 (fun K1 => sqF L3 (fun K3 => Rng .i64 ((x0n : Int) - (1 : Int)) /\ (K3 x0b x0n x0c ((x0n : Int) - (1 : Int)) h)) fun x0b x0n x0c x3 h => lpF L3 (n6_B K1 K1 Kr) fun K2 => K2 x0b x0n x0c x3 h) fun h => Kr (0 : Int) h) fun y2 h => K (.int .i64 y2) h
theorem ok (hS : asks x0b x0n x0c K h) : HCalls Tryz.prog 34 ⟨[.slice x0b x0n x0c]⟩ h K :=
  cl Tryz.func34 hS (fun hg hS => sq (l := L1) hg hS fun hg hS => sc (l := L2) hS (fun hS => sq (l := L3) hg hS fun hg hS => bl (b := 0) (lp hg hS fun hg hS => lf hg hS)) fun hg hS => lf hg hS) fun hg hS => rt hg hS
end Sx.r12_behind
namespace Sx.r12_alike
abbrev L0 : List Sl := [.o 4 .b]
abbrev L3 : List Sl := []
abbrev L4 : List Sl := [.o 2 .a, .o 3 .a, .o 5 (.i .i64)]
abbrev L5 : List Sl := [.o 2 .a, .o 3 .a, .o 5 (.i .i64), .o 6 .b]
abbrev L6 : List Sl := [.o 2 .a, .o 3 .a, .o 5 (.i .i64), .o 6 .b, .o 7 (.i .i64)]
abbrev L2 : List Sl := [.o 2 .a, .o 3 .a]
abbrev T0 := TK L0
abbrev T3 := TK L3
abbrev T4 := TK L4
abbrev T5 := TK L5
abbrev T6 := TK L6
variable (x0_0 : Int) (x0_1 : List UInt8) (x0_2b : Option Addr) (x0_2n x0_2c : Nat) (x1_0 : Int) (x1_1 : List UInt8) (x1_2b : Option Addr) (x1_2n x1_2c : Nat)
abbrev n17_B (Kn Ke2 : T5) (Ke1 : T4) (Ke0 : T3) (Kr : T0) : T6 -> T6 := fun K5 x2 x3 x5 x6 x7 h => ∃ s1b s1n s1c, cell h (x3.add 2) = some (.slice s1b s1n s1c) /\ (Spl (x7 < (s1n : Int)) (cond x6 (Rng .i64 (x7 + (1 : Int)) /\ (K5 x2 x3 x5 true (x7 + (1 : Int)) h)) (∃ s2b s2n s2c, cell h (x2.add 2) = some (.slice s2b s2n s2c) /\ ((0 <= x5 /\ x5 < (s2n : Int)) /\ (vSome s2b fun a3 => ∃ s4, cell h (((a3.add (Int.toNat x5 * 2))).add 0) = some (S s4) /\ (∃ s5, cell h (((a3.add (Int.toNat x5 * 2))).add 1) = some (S s5) /\ (∃ s6b s6n s6c, cell h (x3.add 2) = some (.slice s6b s6n s6c) /\ ((0 <= x7 /\ x7 < (s6n : Int)) /\ (vSome s6b fun a7 => ∃ s8, cell h (((a7.add (Int.toNat x7 * 2))).add 0) = some (S s8) /\ (∃ s9, cell h (((a7.add (Int.toNat x7 * 2))).add 1) = some (S s9) /\ (SemR Tryz.prog (binS .eql 94 (.tmp 42) (.tmp 47) (.agg ⟨[S s4, S s5]⟩) (.agg ⟨[S s8, S s9]⟩)) h fun v10 => vBool v10 fun b11 => cond b11 (Rng .i64 (x7 + (1 : Int)) /\ (K5 x2 x3 x5 true (x7 + (1 : Int)) h)) (Rng .i64 (x7 + (1 : Int)) /\ (K5 x2 x3 x5 false (x7 + (1 : Int)) h)))))))))))) (Ke2 x2 x3 x5 x6 h))
abbrev n17_L (Kn Ke2 : T5) (Ke1 : T4) (Ke0 : T3) (Kr : T0) : Nat -> T6 := LP L6 (n17_B Kn Ke2 Ke1 Ke0 Kr)
abbrev n7_B (Kn Ke0 : T3) (Kr : T0) : T4 -> T4 := fun K2 x2 x3 x5 h => sqF L4 (fun K8 => ∃ s12b s12n s12c, cell h (x2.add 2) = some (.slice s12b s12n s12c) /\ (Spl (x5 < (s12n : Int)) (K8 x2 x3 x5 h) (Ke0 h))) fun x2 x3 x5 h => sqF L4 (fun K3 => sqF L5 (fun K7 => K7 x2 x3 x5 false h) fun x2 x3 x5 x6 h => sqF L5 (fun K4 => sqF L6 (fun K6 => K6 x2 x3 x5 x6 (0 : Int) h) fun x2 x3 x5 x6 x7 h => lpF L6 (n17_B K4 K4 K3 Ke0 Kr) fun K5 => K5 x2 x3 x5 x6 x7 h) fun x2 x3 x5 x6 h => cond x6 (K3 x2 x3 x5 h) (Kr false h)) fun x2 x3 x5 h => Rng .i64 (x5 + (1 : Int)) /\ (K2 x2 x3 (x5 + (1 : Int)) h)
abbrev n7_L (Kn Ke0 : T3) (Kr : T0) : Nat -> T4 := LP L4 (n7_B Kn Ke0 Kr)
variable (K : Value -> H -> Prop) (h : H)
abbrev asks : Prop := cF L0 (fun Kr => sqF L2 (fun K11 => newx h ⟨[.int .i64 x0_0, S x0_1, .slice x0_2b x0_2n x0_2c]⟩ 36 fun a17 h18 => newx h18 ⟨[.int .i64 x1_0, S x1_1, .slice x1_2b x1_2n x1_2c]⟩ 36 fun a19 h20 => K11 a17 a19 h20) fun x2 x3 h => sqF L2 (fun K10 => ∃ s13, cell h (x2.add 1) = some (S s13) /\ (∃ s14, cell h (x3.add 1) = some (S s14) /\ (Spl (s13 = s14) (∃ s15b s15n s15c, cell h (x2.add 2) = some (.slice s15b s15n s15c) /\ (∃ s16b s16n s16c, cell h (x3.add 2) = some (.slice s16b s16n s16c) /\ (Spl ((s15n : Int) = (s16n : Int)) (K10 x2 x3 h) (Kr false h)))) (Kr false h)))) fun x2 x3 h => sqF L3 (fun K1 => sqF L4 (fun K9 => K9 x2 x3 (0 : Int) h) fun x2 x3 x5 h => lpF L4 (n7_B K1 K1 Kr) fun K2 => K2 x2 x3 x5 h) fun h => Kr true h) fun y4 h => K (.bool y4) h
theorem ok (hS : asks x0_0 x0_1 x0_2b x0_2n x0_2c x1_0 x1_1 x1_2b x1_2n x1_2c K h) : HCalls Tryz.prog 35 ⟨[(.agg ⟨[.int .i64 x0_0, S x0_1, .slice x0_2b x0_2n x0_2c]⟩), (.agg ⟨[.int .i64 x1_0, S x1_1, .slice x1_2b x1_2n x1_2c]⟩)]⟩ h K :=
  cl Tryz.func35 hS (fun hg hS => sq (l := L2) hg hS fun hg hS => sq (l := L2) hg hS fun hg hS => sc (l := L3) hS (fun hS => sq (l := L4) hg hS fun hg hS => bl (b := 0) (lp hg hS fun hg hS => sq (l := L4) hg hS fun hg hS => sc (l := L4) hS (fun hS => bl (b := 1) (sq (l := L5) hg hS fun hg hS => sc (l := L5) hS (fun hS => sq (l := L6) hg hS fun hg hS => bl (b := 2) (lp hg hS fun hg hS => lf hg hS)) fun hg hS => lf hg hS)) fun hg hS => lf hg hS)) fun hg hS => lf hg hS) fun hg hS => rt hg hS
end Sx.r12_alike
namespace Sx.r12_Push
abbrev L0 : List Sl := [.o 4 .l]
abbrev L6 : List Sl := [.o 3 .a, .o 9 .l]
abbrev L7 : List Sl := [.o 0 .l, .o 3 .a, .o 5 (.i .i64), .o 6 (.i .i64), .o 9 .l, .o 10 (.i .i64)]
abbrev L8 : List Sl := [.o 0 .l, .o 3 .a, .o 5 (.i .i64), .o 6 (.i .i64), .o 9 .l, .o 10 (.i .i64), .o 48 .b]
abbrev L5 : List Sl := [.o 0 .l, .o 3 .a, .o 5 (.i .i64), .o 6 (.i .i64), .o 9 .l]
abbrev L4 : List Sl := [.o 0 .l, .o 3 .a, .o 5 (.i .i64), .o 6 (.i .i64)]
abbrev L9 : List Sl := [.o 0 .l, .o 3 .a, .o 5 (.i .i64), .o 6 (.i .i64), .o 7 (.i .i64)]
abbrev L3 : List Sl := [.o 0 .l, .o 3 .a, .o 5 (.i .i64)]
abbrev L2 : List Sl := [.o 0 .l, .o 3 .a]
abbrev T0 := TK L0
abbrev T6 := TK L6
abbrev T7 := TK L7
abbrev T4 := TK L4
abbrev T9 := TK L9
variable (x0b : Option Addr) (x0n x0c : Nat) (x1_0 : Int) (x1_1 : List UInt8) (x1_2b : Option Addr) (x1_2n x1_2c : Nat) (x3 : Addr) (x5 x6 : Int) (x9b : Option Addr) (x9n x9c : Nat) (x10 : Int) (x48 : Bool)
abbrev n7 (Kn Kr : T0) (h : H) : Prop :=
  ∃ i1, cell h (x3.add 0) = some (.int .i64 i1) /\ (∃ s2, cell h (x3.add 1) = some (S s2) /\ (∃ s3b s3n s3c, cell h (x3.add 2) = some (.slice s3b s3n s3c) /\ (newx h #[.int .i64 i1, S s2, .slice s3b s3n s3c] 36 fun a4 h5 => SemH Tryz.prog (Builtin.append_ #[37, 37] 37 ⟨[.slice x9b x9n x9c, .slice (some a4) 1 1]⟩) h5 fun v6 h7 => vSlice v6 fun s8b s8n s8c => Kr s8b s8n s8c h7)))
abbrev n16 (Kn Ke3 : T7) (Ke2 : T6) (Kr : T0) (h : H) : Prop :=
  cond x48 ((0 <= x10 /\ x10 < (x0n : Int)) /\ (vSome x0b fun a9 => ∃ i10, cell h (((a9.add (Int.toNat x10 * 3))).add 0) = some (.int .i64 i10) /\ (∃ s11, cell h (((a9.add (Int.toNat x10 * 3))).add 1) = some (S s11) /\ (∃ s12b s12n s12c, cell h (((a9.add (Int.toNat x10 * 3))).add 2) = some (.slice s12b s12n s12c) /\ (newx h #[.int .i64 i10, S s11, .slice s12b s12n s12c] 36 fun a13 h14 => SemH Tryz.prog (Builtin.append_ #[37, 37] 37 ⟨[.slice x9b x9n x9c, .slice (some a13) 1 1]⟩) h14 fun v15 h16 => vSlice v15 fun s17b s17n s17c => Kn x0b x0n x0c x3 x5 x6 s17b s17n s17c x10 h16))))) (Kn x0b x0n x0c x3 x5 x6 x9b x9n x9c x10 h)
abbrev n10_B (Kn Ke2 : T6) (Kr : T0) : T7 -> T7 := fun K2 x0b x0n x0c x3 x5 x6 x9b x9n x9c x10 h => sqF L7 (fun K5 => Spl (x10 < (x0n : Int)) (K5 x0b x0n x0c x3 x5 x6 x9b x9n x9c x10 h) (Ke2 x3 x9b x9n x9c h)) fun x0b x0n x0c x3 x5 x6 x9b x9n x9c x10 h => sqF L7 (fun K3 => sqF L8 (fun K4 => Spl (x5 < (3 : Int)) (K4 x0b x0n x0c x3 x5 x6 x9b x9n x9c x10 true h) (Spl (x10 = x6) (K4 x0b x0n x0c x3 x5 x6 x9b x9n x9c x10 false h) (K4 x0b x0n x0c x3 x5 x6 x9b x9n x9c x10 true h))) fun x0b x0n x0c x3 x5 x6 x9b x9n x9c x10 x48 h => n16 x0b x0n x0c x3 x5 x6 x9b x9n x9c x10 x48 K3 K3 Ke2 Kr h) fun x0b x0n x0c x3 x5 x6 x9b x9n x9c x10 h => Rng .i64 (x10 + (1 : Int)) /\ (K2 x0b x0n x0c x3 x5 x6 x9b x9n x9c (x10 + (1 : Int)) h)
abbrev n10_L (Kn Ke2 : T6) (Kr : T0) : Nat -> T7 := LP L7 (n10_B Kn Ke2 Kr)
abbrev n5 (x0b : Option Addr) (x0n x0c : Nat) (x3 : Addr) (x5 x6 : Int) (Kn Kr : T0) (h : H) : Prop :=
  sqF L5 (fun K7 => K7 x0b x0n x0c x3 x5 x6 none 0 0 h) fun x0b x0n x0c x3 x5 x6 x9b x9n x9c h => sqF L6 (fun K1 => sqF L7 (fun K6 => K6 x0b x0n x0c x3 x5 x6 x9b x9n x9c (0 : Int) h) fun x0b x0n x0c x3 x5 x6 x9b x9n x9c x10 h => lpF L7 (n10_B K1 K1 Kr) fun K2 => K2 x0b x0n x0c x3 x5 x6 x9b x9n x9c x10 h) fun x3 x9b x9n x9c h => n7 x3 x9b x9n x9c Kn Kr h
abbrev n19_B (Kn Ke0 : T4) (Kr : T0) : T9 -> T9 := fun K9 x0b x0n x0c x3 x5 x6 x7 h => sqF L9 (fun K11 => Spl (x7 < (x0n : Int)) (∃ i28, cell h (x3.add 0) = some (.int .i64 i28) /\ (Spl (i28 ≥ (0 : Int)) (K11 x0b x0n x0c x3 x5 x6 x7 h) (Ke0 x0b x0n x0c x3 x5 x6 h))) (Ke0 x0b x0n x0c x3 x5 x6 h)) fun x0b x0n x0c x3 x5 x6 x7 h => sqF L9 (fun K10 => ∃ i18, cell h (x3.add 0) = some (.int .i64 i18) /\ (∃ s19, cell h (x3.add 1) = some (S s19) /\ (∃ s20b s20n s20c, cell h (x3.add 2) = some (.slice s20b s20n s20c) /\ ((0 <= x7 /\ x7 < (x0n : Int)) /\ (vSome x0b fun a21 => ∃ i22, cell h (((a21.add (Int.toNat x7 * 3))).add 0) = some (.int .i64 i22) /\ (∃ s23, cell h (((a21.add (Int.toNat x7 * 3))).add 1) = some (S s23) /\ (∃ s24b s24n s24c, cell h (((a21.add (Int.toNat x7 * 3))).add 2) = some (.slice s24b s24n s24c) /\ (HCalls Tryz.prog 35 ⟨[(.agg ⟨[.int .i64 i18, S s19, .slice s20b s20n s20c]⟩), (.agg ⟨[.int .i64 i22, S s23, .slice s24b s24n s24c]⟩)]⟩ h fun v25 h26 => vBool v25 fun b27 => cond b27 (Rng .i64 (x5 + (1 : Int)) /\ (Spl (x6 < (0 : Int)) (K10 x0b x0n x0c x3 (x5 + (1 : Int)) x7 x7 h26) (K10 x0b x0n x0c x3 (x5 + (1 : Int)) x6 x7 h26))) (K10 x0b x0n x0c x3 x5 x6 x7 h26))))))))) fun x0b x0n x0c x3 x5 x6 x7 h => Rng .i64 (x7 + (1 : Int)) /\ (K9 x0b x0n x0c x3 x5 x6 (x7 + (1 : Int)) h)
abbrev n19_L (Kn Ke0 : T4) (Kr : T0) : Nat -> T9 := LP L9 (n19_B Kn Ke0 Kr)
variable (K : Value -> H -> Prop) (h : H)
abbrev asks (x0b : Option Addr) (x0n x0c : Nat) (x1_0 : Int) (x1_1 : List UInt8) (x1_2b : Option Addr) (x1_2n x1_2c : Nat) (K : Value -> H -> Prop) (h : H) : Prop := cF L0 (fun Kr => sqF L2 (fun K15 => newx h ⟨[.int .i64 x1_0, S x1_1, .slice x1_2b x1_2n x1_2c]⟩ 36 fun a32 h33 => K15 x0b x0n x0c a32 h33) fun x0b x0n x0c x3 h => sqF L3 (fun K14 => K14 x0b x0n x0c x3 (0 : Int) h) fun x0b x0n x0c x3 x5 h => sqF L4 (fun K13 => K13 x0b x0n x0c x3 x5 (-1 : Int) h) fun x0b x0n x0c x3 x5 x6 h => sqF L4 (fun K8 => sqF L9 (fun K12 => HCalls Tryz.prog 34 ⟨[.slice x0b x0n x0c]⟩ h fun v29 h30 => vInt .i64 v29 fun i31 => K12 x0b x0n x0c x3 x5 x6 i31 h30) fun x0b x0n x0c x3 x5 x6 x7 h => lpF L9 (n19_B K8 K8 Kr) fun K9 => K9 x0b x0n x0c x3 x5 x6 x7 h) fun x0b x0n x0c x3 x5 x6 h => n5 x0b x0n x0c x3 x5 x6 Kr Kr h) fun y4b y4n y4c h => K (.slice y4b y4n y4c) h
theorem ok (hS : asks x0b x0n x0c x1_0 x1_1 x1_2b x1_2n x1_2c K h) : HCalls Tryz.prog 10 ⟨[.slice x0b x0n x0c, (.agg ⟨[.int .i64 x1_0, S x1_1, .slice x1_2b x1_2n x1_2c]⟩)]⟩ h K :=
  cl Tryz.func10 hS (fun hg hS => sq (l := L2) hg hS fun hg hS => sq (l := L3) hg hS fun hg hS => sq (l := L4) hg hS fun hg hS => sc (l := L4) hS (fun hS => sq (l := L9) hg hS fun hg hS => bl (b := 0) (lp hg hS fun hg hS => sq (l := L9) hg hS fun hg hS => sq (l := L9) hg hS fun hg hS => lf hg hS)) fun hg hS => sq (l := L5) hg hS fun hg hS => sc (l := L6) hS (fun hS => sq (l := L7) hg hS fun hg hS => bl (b := 2) (lp hg hS fun hg hS => sq (l := L7) hg hS fun hg hS => sc (l := L7) hS (fun hS => bl (b := 3) (sq (l := L8) hg hS fun hg hS => lf hg hS)) fun hg hS => lf hg hS)) fun hg hS => lf hg hS) fun hg hS => rt hg hS
end Sx.r12_Push
namespace Sx.marks_Lost
noncomputable def code : Code := bodyOf Tryz.f38
abbrev T0 := Addr -> (List Deferred) -> H -> Prop
def E0 (g : Env) (x4 : Addr) (ds : List Deferred) : Prop := g.v 4 = (.pointer (some x4)) /\ g.ds = ds
def D0 (K : T0) (g : Env) (h : H) : Prop := vAddr (g.v 4) fun a1 => K a1 g.ds h
theorem D0_ok {K : T0} {g : Env} {h : H} (hq : D0 K g h) : ∃ (x4 : Addr) (ds : List Deferred), E0 g x4 ds /\ K x4 ds h := by
  obtain ⟨y3, e2, q4⟩ := vAddr_ok hq
  exact ⟨y3, g.ds, ⟨e2, rfl⟩, q4⟩
def Q0 (Kn Kr : T0) : XPost
  | .normal, g, h => D0 Kn g h
  | .ret, g, h => D0 Kr g h
  | _, _, _ => False
def E1 (g : Env) (x0b : Option Addr) (x0n x0c : Nat) (x1b : Option Addr) (x1n x1c : Nat) (ds : List Deferred) : Prop := g.v 0 = (.slice x0b x0n x0c) /\ g.v 1 = (.slice x1b x1n x1c) /\ g.ds = ds
noncomputable def n1_c1 : Code := cFst code
noncomputable def n1_c2 : Code := cSnd code
abbrev T2 := (Option Addr) -> Nat -> Nat -> Addr -> Addr -> (List Deferred) -> H -> Prop
def E2 (g : Env) (x0b : Option Addr) (x0n x0c : Nat) (x3 x4 : Addr) (ds : List Deferred) : Prop := g.v 0 = (.slice x0b x0n x0c) /\ g.v 3 = (.pointer (some x3)) /\ g.v 4 = (.pointer (some x4)) /\ g.ds = ds
def D2 (K : T2) (g : Env) (h : H) : Prop := vSlice (g.v 0) fun s13b s13n s13c => vAddr (g.v 3) fun a14 => vAddr (g.v 4) fun a15 => K s13b s13n s13c a14 a15 g.ds h
theorem D2_ok {K : T2} {g : Env} {h : H} (hq : D2 K g h) : ∃ (x0b : Option Addr) (x0n x0c : Nat) (x3 x4 : Addr) (ds : List Deferred), E2 g x0b x0n x0c x3 x4 ds /\ K x0b x0n x0c x3 x4 ds h := by
  obtain ⟨y17b, y17n, y17c, e16, q18⟩ := vSlice_ok hq
  obtain ⟨y20, e19, q21⟩ := vAddr_ok q18
  obtain ⟨y23, e22, q24⟩ := vAddr_ok q21
  exact ⟨y17b, y17n, y17c, y20, y23, g.ds, ⟨e16, e19, e22, rfl⟩, q24⟩
noncomputable def n2_c1 : Code := cFst n1_c2
noncomputable def n2_c2 : Code := cSnd n1_c2
abbrev n3 (x4 : Addr) (ds : List Deferred) (Kn Kr : T0) (h : H) : Prop :=
  stL x4 [.int .i64 (0 : Int)] 0 h fun h25 => Kr x4 ds h25
theorem n3_ok (x4 : Addr) (ds : List Deferred) (Kn Kr : T0) (g : Env) (hg : E0 g x4 ds) (h : H) (hS : n3 x4 ds Kn Kr h) : wpC none Tryz.prog 21 n2_c2 (Q0 Kn Kr) g h := by
  obtain ⟨hg4, hds⟩ := hg
  refine wpC_of_wpx (by kernel_rfl) (by kernel_rfl) (g' := (⟨g.v, ds⟩ : Env).upd (some 4) (.pointer (some x4))) (by rw [env_ds hds, upd_self hg4]) ?_
  have e : (n3 x4 ds Kn Kr h) = wpx none Tryz.prog 21 n2_c2 (Q0 Kn Kr) ((⟨g.v, ds⟩ : Env).upd (some 4) (.pointer (some x4))) h := by kernel_rfl
  exact e ▸ hS
noncomputable def n4_c1 : Code := cFst n2_c1
noncomputable def n4_c2 : Code := cSnd n2_c1
abbrev T3 := Addr -> Addr -> Value -> (List Deferred) -> H -> Prop
def E3 (g : Env) (x3 x4 : Addr) (x8 : Value) (ds : List Deferred) : Prop := g.v 3 = (.pointer (some x3)) /\ g.v 4 = (.pointer (some x4)) /\ g.v 8 = x8 /\ g.ds = ds
def D3 (K : T3) (g : Env) (h : H) : Prop := vAddr (g.v 3) fun a26 => vAddr (g.v 4) fun a27 => K a26 a27 (g.v 8) g.ds h
theorem D3_ok {K : T3} {g : Env} {h : H} (hq : D3 K g h) : ∃ (x3 x4 : Addr) (x8 : Value) (ds : List Deferred), E3 g x3 x4 x8 ds /\ K x3 x4 x8 ds h := by
  obtain ⟨y29, e28, q30⟩ := vAddr_ok hq
  obtain ⟨y32, e31, q33⟩ := vAddr_ok q30
  exact ⟨y29, y32, (g.v 8), g.ds, ⟨e28, e31, rfl, rfl⟩, q33⟩
noncomputable def n5_c1 : Code := cFst n4_c2
def Q1 (Kn Ke0 Kr : T0) : XPost
  | .normal, g, h => D0 Kn g h
  | .ret, g, h => D0 Kr g h
  | .exit id, g, h => cond (Nat.beq id 0) (D0 Ke0 g h) (False)
  | _, _, _ => False
noncomputable def n6_c1 : Code := cFst n5_c1
noncomputable def n6_c2 : Code := cSnd n5_c1
def n6_rd (x3 x4 : Addr) (x8 : Value) (ds : List Deferred) (Kn Ke0 Kr : T0) (h : H) (p9 p10_0 : Int) (p10_1 : List UInt8) (p10_2b : Option Addr) (p10_2n p10_2c : Nat) (Mid : H -> (H -> Prop) -> Prop) (Kc : H -> H -> Prop) (Fin : H -> H -> (H -> Prop) -> Prop) (h1 : H) : Prop :=
  newx h1 ⟨[.int .i64 (0 : Int), S ([] : List UInt8), .slice none 0 0]⟩ 36 fun a34 h35 => stL a34 [.int .i64 p10_0, S p10_1, .slice p10_2b p10_2n p10_2c] 0 h35 fun h36 => Mid h36 fun hb37 => ∃ i38, cell hb37 (a34.add 0) = some (.int .i64 i38) /\ (Spl (i38 < (0 : Int)) (Rng .i64 (p9 + (1 : Int)) /\ (stL x4 [.int .i64 (p9 + (1 : Int))] 0 hb37 fun h39 => Fin hb37 h39 fun h40 => Kr x4 (markD h.size :: ds) h40)) (∃ s41b s41n s41c, cell hb37 x3 = some (.slice s41b s41n s41c) /\ (HCalls Tryz.prog 81 ⟨[.slice s41b s41n s41c, (.func (.func 82) ⟨[]⟩ ⟨[.pointer (some a34)]⟩)]⟩ hb37 fun v42 h43 => vBool v42 fun b44 => cond b44 (Rng .i64 (p9 + (1 : Int)) /\ (stL x4 [.int .i64 (p9 + (1 : Int))] 0 h43 fun h45 => Fin hb37 h45 fun h46 => Kr x4 (markD h.size :: ds) h46)) (Kc hb37 h43))))
abbrev n6 (x3 x4 : Addr) (x8 : Value) (ds : List Deferred) (Kn Ke0 Kr : T0) (h : H) : Prop := Ranges Tryz.prog x8 2 h (fun l47 Mid Kc Fin h1 => uncons l47 fun e48 l49 => vInt .i64 e48 fun i50 => uncons l49 fun e51 l52 => vAgg e51 fun l53 => uncons l53 fun e54 l55 => vInt .i64 e54 fun i56 => uncons l55 fun e57 l58 => vStr e57 fun s59 => uncons l58 fun e60 l61 => vSlice e60 fun s62b s62n s62c => unnil l61 (unnil l52 (n6_rd x3 x4 x8 ds Kn Ke0 Kr h i50 i56 s59 s62b s62n s62c Mid Kc Fin h1))) (fun h4 => Kn x4 (markD h.size :: ds) h4)
theorem n6_ok (x3 x4 : Addr) (x8 : Value) (ds : List Deferred) (Kn Ke0 Kr : T0) (g : Env) (hg : E3 g x3 x4 x8 ds) (h : H) (hS : n6 x3 x4 x8 ds Kn Ke0 Kr h) : wpC none Tryz.prog 21 n5_c1 (Q1 Kn Ke0 Kr) g h := by
  obtain ⟨hg3, hg4, hg8, hds⟩ := hg
  subst hds
  have ho : ((((⟨g.v, g.ds⟩ : Env).upd (some 3) (.pointer (some x3))).upd (some 4) (.pointer (some x4))).upd (some 8) x8 : Env) = g := by rw [env_ds rfl, upd_self hg3, upd_self hg4, upd_self hg8]
  have hc : n5_c1 = .rangeFunc (.tmp 8) #[9, 10] n6_c1 n6_c2 := by kernel_rfl
  rw [hc]
  refine wpC_range (f := x8) (rd := (fun l47 Mid Kc Fin h1 => uncons l47 fun e48 l49 => vInt .i64 e48 fun i50 => uncons l49 fun e51 l52 => vAgg e51 fun l53 => uncons l53 fun e54 l55 => vInt .i64 e54 fun i56 => uncons l55 fun e57 l58 => vStr e57 fun s59 => uncons l58 fun e60 l61 => vSlice e60 fun s62b s62n s62c => unnil l61 (unnil l52 (n6_rd x3 x4 x8 g.ds Kn Ke0 Kr h i50 i56 s59 s62b s62n s62c Mid Kc Fin h1)))) (done := (fun h4 => Kn x4 (markD h.size :: g.ds) h4)) ?_ hS ?_ ?_
  · rw [<- ho]; kernel_rfl
  · intro h4 hd
    have e : (Kn x4 (markD h.size :: g.ds) h4) = (Q1 Kn Ke0 Kr) .normal ⟨((((⟨g.v, g.ds⟩ : Env).upd (some 3) (.pointer (some x3))).upd (some 4) (.pointer (some x4))).upd (some 8) x8).v, markD h.size :: g.ds⟩ h4 := by kernel_rfl
    rw [ho] at e
    exact e ▸ hd
  · intro L x Mid Kc Fin h1 hM hx
    obtain ⟨u63, l64, rfl, q65⟩ := uncons_ok hx
    obtain ⟨y66, rfl, q67⟩ := vInt_ok q65
    obtain ⟨u68, l69, rfl, q70⟩ := uncons_ok q67
    obtain ⟨l71, rfl, q72⟩ := vAgg_ok q70
    obtain ⟨u73, l74, rfl, q75⟩ := uncons_ok q72
    obtain ⟨y76, rfl, q77⟩ := vInt_ok q75
    obtain ⟨u78, l79, rfl, q80⟩ := uncons_ok q77
    obtain ⟨y81, rfl, q82⟩ := vStr_ok q80
    obtain ⟨u83, l84, rfl, q85⟩ := uncons_ok q82
    obtain ⟨y86b, y86n, y86c, rfl, q87⟩ := vSlice_ok q85
    obtain ⟨rfl, q88⟩ := unnil_ok q87
    obtain ⟨rfl, q89⟩ := unnil_ok q88
    have e : (n6_rd x3 x4 x8 g.ds Kn Ke0 Kr h y66 y76 y81 y86b y86n y86c Mid Kc Fin h1) = wpx (some L) Tryz.prog 21 n6_c1 (thenX (fun g1 he => Mid he fun hb => wpx (some L) Tryz.prog 21 n6_c2 (rpost Kc Fin (Q1 Kn Ke0 Kr) ⟨((((⟨g.v, g.ds⟩ : Env).upd (some 3) (.pointer (some x3))).upd (some 4) (.pointer (some x4))).upd (some 8) x8).v, markD h.size :: g.ds⟩ hb) g1 hb) fun _ _ _ => False) (setps ((((⟨g.v, g.ds⟩ : Env).upd (some 3) (.pointer (some x3))).upd (some 4) (.pointer (some x4))).upd (some 8) x8) [9, 10] [.int .i64 y66, (.agg ⟨[.int .i64 y76, S y81, .slice y86b y86n y86c]⟩)]) h1 := by kernel_rfl
    rw [ho] at e
    exact (wpx_ok (by kernel_rfl) _ _ _ _ (by kernel_rfl) (e ▸ q89)).mono (thenX_mono fun g1 he hm => hM he _ _ (fun hb => wpx_ok (by kernel_rfl) _ _ _ _ (by kernel_rfl)) hm)
abbrev n5 (x3 x4 : Addr) (x8 : Value) (ds : List Deferred) (Kn Kr : T0) (h : H) : Prop := n6 x3 x4 x8 ds Kn Kn Kr h
theorem n5_ok (x3 x4 : Addr) (x8 : Value) (ds : List Deferred) (Kn Kr : T0) (g : Env) (hg : E3 g x3 x4 x8 ds) (h : H) (hS : n5 x3 x4 x8 ds Kn Kr h) : wpC none Tryz.prog 21 n4_c2 (Q0 Kn Kr) g h := by
  refine wpC_block' (id := 0) (x := n5_c1) (by kernel_rfl) (n6_ok x3 x4 x8 ds Kn Kn Kr g hg h hS) ?_
  intro e g' h' hq
  cases e <;> exact hq
def Q2 (Kn : T3) (Kr : T0) : XPost
  | .normal, g, h => D3 Kn g h
  | .ret, g, h => D0 Kr g h
  | _, _, _ => False
abbrev n4 (x0b : Option Addr) (x0n x0c : Nat) (x3 x4 : Addr) (ds : List Deferred) (Kn Kr : T0) (h : H) : Prop :=
  HCalls Tryz.prog 80 ⟨[.slice x0b x0n x0c]⟩ h fun v90 h91 => n5 x3 x4 v90 ds Kn Kr h91
theorem n4_ok (x0b : Option Addr) (x0n x0c : Nat) (x3 x4 : Addr) (ds : List Deferred) (Kn Kr : T0) (g : Env) (hg : E2 g x0b x0n x0c x3 x4 ds) (h : H) (hS : n4 x0b x0n x0c x3 x4 ds Kn Kr h) : wpC none Tryz.prog 21 n2_c1 (Q0 Kn Kr) g h := by
  obtain ⟨hg0, hg3, hg4, hds⟩ := hg
  refine wpC_seq' (x := n4_c1) (y := n4_c2) (Q' := (Q2 (fun z3 z4 z8 zds h => n5 z3 z4 z8 zds Kn Kr h) Kr)) (by kernel_rfl) ?_ ?_
  · refine wpC_of_wpx (by kernel_rfl) (by kernel_rfl) (g' := (((⟨g.v, ds⟩ : Env).upd (some 0) (.slice x0b x0n x0c)).upd (some 3) (.pointer (some x3))).upd (some 4) (.pointer (some x4))) (by rw [env_ds hds, upd_self hg0, upd_self hg3, upd_self hg4]) ?_
    have e : (n4 x0b x0n x0c x3 x4 ds Kn Kr h) = wpx none Tryz.prog 21 n4_c1 (Q2 (fun z3 z4 z8 zds h => n5 z3 z4 z8 zds Kn Kr h) Kr) ((((⟨g.v, ds⟩ : Env).upd (some 0) (.slice x0b x0n x0c)).upd (some 3) (.pointer (some x3))).upd (some 4) (.pointer (some x4))) h := by kernel_rfl
    exact e ▸ hS
  · intro e g' h' hq
    cases e with
    | normal =>
      have hq : D3 (fun z3 z4 z8 zds h => n5 z3 z4 z8 zds Kn Kr h) g' h' := hq
      obtain ⟨y3, y4, y8, yds, hg', hq⟩ := D3_ok hq
      exact n5_ok y3 y4 y8 yds Kn Kr g' hg' h' hq
    | _ => exact hq
abbrev n2 (x0b : Option Addr) (x0n x0c : Nat) (x3 x4 : Addr) (ds : List Deferred) (Kn Kr : T0) (h : H) : Prop := n4 x0b x0n x0c x3 x4 ds (fun z4 zds h => n3 z4 zds Kn Kr h) Kr h
theorem n2_ok (x0b : Option Addr) (x0n x0c : Nat) (x3 x4 : Addr) (ds : List Deferred) (Kn Kr : T0) (g : Env) (hg : E2 g x0b x0n x0c x3 x4 ds) (h : H) (hS : n2 x0b x0n x0c x3 x4 ds Kn Kr h) : wpC none Tryz.prog 21 n1_c2 (Q0 Kn Kr) g h := by
  refine wpC_seq' (x := n2_c1) (y := n2_c2) (by kernel_rfl) (n4_ok x0b x0n x0c x3 x4 ds (fun z4 zds h => n3 z4 zds Kn Kr h) Kr g hg h hS) ?_
  intro e g' h' hq
  cases e with
  | normal =>
    have hq : D0 (fun z4 zds h => n3 z4 zds Kn Kr h) g' h' := hq
    obtain ⟨y4, yds, hg', hq⟩ := D0_ok hq
    exact n3_ok y4 yds Kn Kr g' hg' h' hq
  | _ => exact hq
def Q3 (Kn : T2) (Kr : T0) : XPost
  | .normal, g, h => D2 Kn g h
  | .ret, g, h => D0 Kr g h
  | _, _, _ => False
abbrev n1 (x0b : Option Addr) (x0n x0c : Nat) (x1b : Option Addr) (x1n x1c : Nat) (ds : List Deferred) (Kn Kr : T0) (h : H) : Prop :=
  newx h #[.slice x1b x1n x1c] 40 fun a92 h93 => newx h93 #[.int .i64 (0 : Int)] 3 fun a94 h95 => n2 x0b x0n x0c a92 a94 ds Kn Kr h95
theorem n1_ok (x0b : Option Addr) (x0n x0c : Nat) (x1b : Option Addr) (x1n x1c : Nat) (ds : List Deferred) (Kn Kr : T0) (g : Env) (hg : E1 g x0b x0n x0c x1b x1n x1c ds) (h : H) (hS : n1 x0b x0n x0c x1b x1n x1c ds Kn Kr h) : wpC none Tryz.prog 21 code (Q0 Kn Kr) g h := by
  obtain ⟨hg0, hg1, hds⟩ := hg
  refine wpC_seq' (x := n1_c1) (y := n1_c2) (Q' := (Q3 (fun z0b z0n z0c z3 z4 zds h => n2 z0b z0n z0c z3 z4 zds Kn Kr h) Kr)) (by kernel_rfl) ?_ ?_
  · refine wpC_of_wpx (by kernel_rfl) (by kernel_rfl) (g' := ((⟨g.v, ds⟩ : Env).upd (some 0) (.slice x0b x0n x0c)).upd (some 1) (.slice x1b x1n x1c)) (by rw [env_ds hds, upd_self hg0, upd_self hg1]) ?_
    have e : (n1 x0b x0n x0c x1b x1n x1c ds Kn Kr h) = wpx none Tryz.prog 21 n1_c1 (Q3 (fun z0b z0n z0c z3 z4 zds h => n2 z0b z0n z0c z3 z4 zds Kn Kr h) Kr) (((⟨g.v, ds⟩ : Env).upd (some 0) (.slice x0b x0n x0c)).upd (some 1) (.slice x1b x1n x1c)) h := by kernel_rfl
    exact e ▸ hS
  · intro e g' h' hq
    cases e with
    | normal =>
      have hq : D2 (fun z0b z0n z0c z3 z4 zds h => n2 z0b z0n z0c z3 z4 zds Kn Kr h) g' h' := hq
      obtain ⟨y0b, y0n, y0c, y3, y4, yds, hg', hq⟩ := D2_ok hq
      exact n2_ok y0b y0n y0c y3 y4 yds Kn Kr g' hg' h' hq
    | _ => exact hq
abbrev asks (x0b : Option Addr) (x0n x0c : Nat) (x1b : Option Addr) (x1n x1c : Nat) (K : Value -> H -> Prop) (h : H) : Prop := n1 x0b x0n x0c x1b x1n x1c [] (fun y4 ds h => leaveX ds h fun h => ∃ i96, cell h y4 = some (.int .i64 i96) /\ (K (.int .i64 i96) h)) (fun y4 ds h => leaveX ds h fun h => ∃ i96, cell h y4 = some (.int .i64 i96) /\ (K (.int .i64 i96) h)) h
theorem ok (x0b : Option Addr) (x0n x0c : Nat) (x1b : Option Addr) (x1n x1c : Nat) (K : Value -> H -> Prop) (h : H) (hS : asks x0b x0n x0c x1b x1n x1c K h) : HCalls Tryz.prog 38 ⟨[.slice x0b x0n x0c, .slice x1b x1n x1c]⟩ h K := by
  refine calls_of_wpC (c := code) Tryz.func38 (by kernel_rfl) (Nat.le_of_ble_eq_true (by kernel_rfl)) ?_
  refine (n1_ok x0b x0n x0c x1b x1n x1c [] (fun y4 ds h => leaveX ds h fun h => ∃ i96, cell h y4 = some (.int .i64 i96) /\ (K (.int .i64 i96) h)) (fun y4 ds h => leaveX ds h fun h => ∃ i96, cell h y4 = some (.int .i64 i96) /\ (K (.int .i64 i96) h)) (env0 [.slice x0b x0n x0c, .slice x1b x1n x1c]) ⟨rfl, rfl, rfl⟩ h hS).mono ?_
  intro e g' h' hq
  cases e with
  | normal =>
    have hq : D0 (fun y4 ds h => leaveX ds h fun h => ∃ i96, cell h y4 = some (.int .i64 i96) /\ (K (.int .i64 i96) h)) g' h' := hq
    obtain ⟨y4, ds, ⟨hg4, hd⟩, hq⟩ := D0_ok hq
    show leaveX g'.ds h' _
    rw [hd]
    show leaveX ds h' fun h => vAddr (g'.v 4) fun a97 => ldx Tryz.prog 3 a97 h fun v98 => K v98 h
    rw [hg4]
    exact hq
  | ret =>
    have hq : D0 (fun y4 ds h => leaveX ds h fun h => ∃ i96, cell h y4 = some (.int .i64 i96) /\ (K (.int .i64 i96) h)) g' h' := hq
    obtain ⟨y4, ds, ⟨hg4, hd⟩, hq⟩ := D0_ok hq
    show leaveX g'.ds h' _
    rw [hd]
    show leaveX ds h' fun h => vAddr (g'.v 4) fun a97 => ldx Tryz.prog 3 a97 h fun v98 => K v98 h
    rw [hg4]
    exact hq
  | _ => exact hq
end Sx.marks_Lost
namespace Sx.r12_Lost
abbrev L0 : List Sl := [.o 4 (.i .i64)]
abbrev L2 : List Sl := []
abbrev L3 : List Sl := [.o 0 .l, .o 1 .l, .o 5 (.i .i64)]
abbrev L4 : List Sl := [.o 0 .l, .o 1 .l, .o 5 (.i .i64), .o 6 .b]
abbrev L5 : List Sl := [.o 0 .l, .o 1 .l, .o 5 (.i .i64), .o 6 .b, .o 7 (.i .i64)]
abbrev L1 : List Sl := [.o 0 .l, .o 1 .l]
abbrev T0 := TK L0
abbrev T2 := TK L2
abbrev T3 := TK L3
abbrev T4 := TK L4
abbrev T5 := TK L5
variable (x0b : Option Addr) (x0n x0c : Nat) (x1b : Option Addr) (x1n x1c : Nat) (x5 : Int) (x6 : Bool)
abbrev n9 (Kn : T3) (Ke0 : T2) (Kr : T0) (h : H) : Prop :=
  Rng .i64 (x5 - (1 : Int)) /\ (Kn x0b x0n x0c x1b x1n x1c (x5 - (1 : Int)) h)
abbrev n16_B (Kn Ke2 : T4) (Ke1 : T3) (Ke0 : T2) (Kr : T0) : T5 -> T5 := fun K5 x0b x0n x0c x1b x1n x1c x5 x6 x7 h => Spl (x7 < (x1n : Int)) (cond x6 (Rng .i64 (x7 + (1 : Int)) /\ (K5 x0b x0n x0c x1b x1n x1c x5 true (x7 + (1 : Int)) h)) ((0 <= x7 /\ x7 < (x1n : Int)) /\ (vSome x1b fun a1 => ∃ i2, cell h ((a1.add (Int.toNat x7 * 4)).add 0) = some (.int .i64 i2) /\ ((0 <= x5 /\ x5 < (x0n : Int)) /\ (vSome x0b fun a3 => ∃ i4, cell h ((a3.add (Int.toNat x5 * 3)).add 0) = some (.int .i64 i4) /\ (Spl (i2 = i4) (Rng .i64 (x7 + (1 : Int)) /\ (K5 x0b x0n x0c x1b x1n x1c x5 true (x7 + (1 : Int)) h)) (Rng .i64 (x7 + (1 : Int)) /\ (K5 x0b x0n x0c x1b x1n x1c x5 false (x7 + (1 : Int)) h)))))))) (Ke2 x0b x0n x0c x1b x1n x1c x5 x6 h)
abbrev n16_L (Kn Ke2 : T4) (Ke1 : T3) (Ke0 : T2) (Kr : T0) : Nat -> T5 := LP L5 (n16_B Kn Ke2 Ke1 Ke0 Kr)
abbrev n12 (x0b : Option Addr) (x0n x0c : Nat) (x1b : Option Addr) (x1n x1c : Nat) (x5 : Int) (x6 : Bool) (Kn Ke1 : T3) (Ke0 : T2) (Kr : T0) (h : H) : Prop :=
  sqF L4 (fun K4 => sqF L5 (fun K6 => K6 x0b x0n x0c x1b x1n x1c x5 x6 (0 : Int) h) fun x0b x0n x0c x1b x1n x1c x5 x6 x7 h => lpF L5 (n16_B K4 K4 Ke1 Ke0 Kr) fun K5 => K5 x0b x0n x0c x1b x1n x1c x5 x6 x7 h) fun x0b x0n x0c x1b x1n x1c x5 x6 h => cond x6 (Rng .i64 (x5 + (1 : Int)) /\ (Kr (x5 + (1 : Int)) h)) (Kn x0b x0n x0c x1b x1n x1c x5 h)
abbrev n6_B (Kn Ke0 : T2) (Kr : T0) : T3 -> T3 := fun K2 x0b x0n x0c x1b x1n x1c x5 h => sqF L3 (fun K8 => Spl (x5 ≥ (0 : Int)) (K8 x0b x0n x0c x1b x1n x1c x5 h) (Ke0 h)) fun x0b x0n x0c x1b x1n x1c x5 h => sqF L3 (fun K3 => sqF L4 (fun K7 => (0 <= x5 /\ x5 < (x0n : Int)) /\ (vSome x0b fun a5 => ∃ i6, cell h ((a5.add (Int.toNat x5 * 3)).add 0) = some (.int .i64 i6) /\ (Spl (i6 < (0 : Int)) (K7 x0b x0n x0c x1b x1n x1c x5 true h) (K7 x0b x0n x0c x1b x1n x1c x5 false h)))) fun x0b x0n x0c x1b x1n x1c x5 x6 h => n12 x0b x0n x0c x1b x1n x1c x5 x6 K3 K3 Ke0 Kr h) fun x0b x0n x0c x1b x1n x1c x5 h => n9 x0b x0n x0c x1b x1n x1c x5 K2 Ke0 Kr h
abbrev n6_L (Kn Ke0 : T2) (Kr : T0) : Nat -> T3 := LP L3 (n6_B Kn Ke0 Kr)
variable (K : Value -> H -> Prop) (h : H)
abbrev asks (x0b : Option Addr) (x0n x0c : Nat) (x1b : Option Addr) (x1n x1c : Nat) (K : Value -> H -> Prop) (h : H) : Prop := cF L0 (fun Kr => sqF L1 (fun K10 => K10 x0b x0n x0c x1b x1n x1c h) fun x0b x0n x0c x1b x1n x1c h => sqF L2 (fun K1 => sqF L3 (fun K9 => Rng .i64 ((x0n : Int) - (1 : Int)) /\ (K9 x0b x0n x0c x1b x1n x1c ((x0n : Int) - (1 : Int)) h)) fun x0b x0n x0c x1b x1n x1c x5 h => lpF L3 (n6_B K1 K1 Kr) fun K2 => K2 x0b x0n x0c x1b x1n x1c x5 h) fun h => Kr (0 : Int) h) fun y4 h => K (.int .i64 y4) h
theorem ok (hS : asks x0b x0n x0c x1b x1n x1c K h) : HCalls Tryz.prog 40 ⟨[.slice x0b x0n x0c, .slice x1b x1n x1c]⟩ h K :=
  cl Tryz.func40 hS (fun hg hS => sq (l := L1) hg hS fun hg hS => sc (l := L2) hS (fun hS => sq (l := L3) hg hS fun hg hS => bl (b := 0) (lp hg hS fun hg hS => sq (l := L3) hg hS fun hg hS => sc (l := L3) hS (fun hS => bl (b := 1) (sq (l := L4) hg hS fun hg hS => sc (l := L4) hS (fun hS => sq (l := L5) hg hS fun hg hS => bl (b := 2) (lp hg hS fun hg hS => lf hg hS)) fun hg hS => lf hg hS)) fun hg hS => lf hg hS)) fun hg hS => lf hg hS) fun hg hS => rt hg hS
end Sx.r12_Lost
namespace Sx.slices_Backward_apiMark
abbrev L0 : List Sl := [.o 2 .r]
variable (x0b : Option Addr) (x0n x0c : Nat)
variable (K : Value -> H -> Prop) (h : H)
abbrev asks : Prop := cF L0 (fun Kr => newx h #[.slice x0b x0n x0c] 37 fun a1 h2 => Kr (.func (.func 110) ⟨[]⟩ ⟨[.pointer (some a1)]⟩) h2) fun y2 h => K y2 h
theorem ok (hS : asks x0b x0n x0c K h) : HCalls Tryz.prog 80 ⟨[.slice x0b x0n x0c]⟩ h K :=
  cl Tryz.func80 hS (fun hg hS => lf hg hS) fun hg hS => rt hg hS
end Sx.slices_Backward_apiMark
namespace Sx.slices_ContainsFunc_apiOpen
abbrev L0 : List Sl := [.o 4 .b]
variable (x0b : Option Addr) (x0n x0c : Nat) (x1 : Value)
variable (K : Value -> H -> Prop) (h : H)
abbrev asks : Prop := cF L0 (fun Kr => HCalls Tryz.prog 88 ⟨[.slice x0b x0n x0c, x1]⟩ h fun v1 h2 => vInt .i64 v1 fun i3 => Spl (i3 ≥ (0 : Int)) (Kr true h2) (Kr false h2)) fun y4 h => K (.bool y4) h
theorem ok (hS : asks x0b x0n x0c x1 K h) : HCalls Tryz.prog 81 ⟨[.slice x0b x0n x0c, x1]⟩ h K :=
  cl Tryz.func81 hS (fun hg hS => lf hg hS) fun hg hS => rt hg hS
end Sx.slices_ContainsFunc_apiOpen
namespace Sx.marks_Lost_1
abbrev L0 : List Sl := [.o 3 .b]
variable (x0_0 x0_1 : Int) (x0_2 : List UInt8) (x0_3 : Int) (x1 : Addr)
variable (K : Value -> H -> Prop) (h : H)
abbrev asks : Prop := cF L0 (fun Kr => newx h ⟨[.int .i64 x0_0, .int .u8 x0_1, S x0_2, .int .u8 x0_3]⟩ 60 fun a1 h2 => ∃ i3, cell h2 (a1.add 0) = some (.int .i64 i3) /\ (∃ i4, cell h2 (x1.add 0) = some (.int .i64 i4) /\ (Spl (i3 = i4) (Kr true h2) (Kr false h2)))) fun y3 h => K (.bool y3) h
theorem ok (hS : asks x0_0 x0_1 x0_2 x0_3 x1 K h) : HCalls Tryz.prog 82 ⟨[(.agg ⟨[.int .i64 x0_0, .int .u8 x0_1, S x0_2, .int .u8 x0_3]⟩), .pointer (some x1)]⟩ h K :=
  cl Tryz.func82 hS (fun hg hS => lf hg hS) fun hg hS => rt hg hS
end Sx.marks_Lost_1
namespace Sx.slices_Backward_1_apiMark1
abbrev L2 : List Sl := [.o 0 .r, .o 1 .a, .o 3 (.i .i64)]
abbrev L0 : List Sl := []
abbrev T0 := TK L0
abbrev T2 := TK L2
variable (x0 : Value) (x1 : Addr)
abbrev n3_B (Kn Ke0 Kr : T0) : T2 -> T2 := fun K1 x0 x1 x3 h => Spl (x3 ≥ (0 : Int)) (∃ s1b s1n s1c, cell h x1 = some (.slice s1b s1n s1c) /\ ((0 <= x3 /\ x3 < (s1n : Int)) /\ (vSome s1b fun a2 => ∃ i3, cell h (((a2.add (Int.toNat x3 * 3))).add 0) = some (.int .i64 i3) /\ (∃ s4, cell h (((a2.add (Int.toNat x3 * 3))).add 1) = some (S s4) /\ (∃ s5b s5n s5c, cell h (((a2.add (Int.toNat x3 * 3))).add 2) = some (.slice s5b s5n s5c) /\ (CallV Tryz.prog 4 x0 ⟨[.int .i64 x3, (.agg ⟨[.int .i64 i3, S s4, .slice s5b s5n s5c]⟩)]⟩ h fun v6 h7 => vBool v6 fun b8 => cond b8 (Rng .i64 (x3 - (1 : Int)) /\ (K1 x0 x1 (x3 - (1 : Int)) h7)) (Kr h7))))))) (Ke0 h)
abbrev n3_L (Kn Ke0 Kr : T0) : Nat -> T2 := LP L2 (n3_B Kn Ke0 Kr)
variable (K : Value -> H -> Prop) (h : H)
abbrev asks (x0 : Value) (x1 : Addr) (K : Value -> H -> Prop) (h : H) : Prop := cF L0 (fun Kr => sqF L2 (fun K2 => ∃ s9b s9n s9c, cell h x1 = some (.slice s9b s9n s9c) /\ (Rng .i64 ((s9n : Int) - (1 : Int)) /\ (K2 x0 x1 ((s9n : Int) - (1 : Int)) h))) fun x0 x1 x3 h => lpF L2 (n3_B Kr Kr Kr) fun K1 => K1 x0 x1 x3 h) fun h => K (.tuple ⟨[]⟩) h
theorem ok (hS : asks x0 x1 K h) : HCalls Tryz.prog 110 ⟨[x0, .pointer (some x1)]⟩ h K :=
  cl Tryz.func110 hS (fun hg hS => sq (l := L2) hg hS fun hg hS => bl (b := 0) (lp hg hS fun hg hS => lf hg hS)) fun hg hS => rt hg hS
end Sx.slices_Backward_1_apiMark1
namespace Sx.slices_Clone_apiMark
abbrev L0 : List Sl := [.o 2 .l]
variable (x0b : Option Addr) (x0n x0c : Nat)
variable (K : Value -> H -> Prop) (h : H)
abbrev asks : Prop := cF L0 (fun Kr => SemH Tryz.prog (binS .eql 37 (.tmp 3) (.const (.slice none 0 0)) (.slice x0b x0n x0c) (.slice none 0 0)) h fun v1 h2 => vBool v1 fun b3 => cond b3 (Kr none 0 0 h2) (newx h2 #[] 36 fun a4 h5 => SemH Tryz.prog (Builtin.append_ #[37, 37] 37 ⟨[.slice (some a4) 0 0, .slice x0b x0n x0c]⟩) h5 fun v6 h7 => vSlice v6 fun s8b s8n s8c => Kr s8b s8n s8c h7)) fun y2b y2n y2c h => K (.slice y2b y2n y2c) h
theorem ok (hS : asks x0b x0n x0c K h) : HCalls Tryz.prog 39 ⟨[.slice x0b x0n x0c]⟩ h K :=
  cl Tryz.func39 hS (fun hg hS => lf hg hS) fun hg hS => rt hg hS
end Sx.slices_Clone_apiMark
namespace Sx.r00_SameMarks
abbrev L2 : List Sl := []
abbrev L3 : List Sl := [.o 0 .l, .o 1 .l, .o 5 (.i .i64)]
abbrev L0 : List Sl := [.o 4 .b]
abbrev L1 : List Sl := [.o 0 .l, .o 1 .l]
abbrev T2 := TK L2
abbrev T0 := TK L0
abbrev T3 := TK L3
variable (x0b : Option Addr) (x0n x0c : Nat) (x1b : Option Addr) (x1n x1c : Nat)
abbrev n7_B (Kn Ke0 : T2) (Kr : T0) : T3 -> T3 := fun K2 x0b x0n x0c x1b x1n x1c x5 h => Spl (x5 < (x0n : Int)) ((0 <= x5 /\ x5 < (x0n : Int)) /\ (vSome x0b fun a1 => ∃ i2, cell h ((a1.add (Int.toNat x5 * 3)).add 0) = some (.int .i64 i2) /\ ((0 <= x5 /\ x5 < (x1n : Int)) /\ (vSome x1b fun a3 => ∃ i4, cell h ((a3.add (Int.toNat x5 * 3)).add 0) = some (.int .i64 i4) /\ (Spl (i2 = i4) ((0 <= x5 /\ x5 < (x0n : Int)) /\ (vSome x0b fun a5 => ∃ s6, cell h ((a5.add (Int.toNat x5 * 3)).add 1) = some (S s6) /\ ((0 <= x5 /\ x5 < (x1n : Int)) /\ (vSome x1b fun a7 => ∃ s8, cell h ((a7.add (Int.toNat x5 * 3)).add 1) = some (S s8) /\ (Spl (s6 = s8) ((0 <= x5 /\ x5 < (x0n : Int)) /\ (vSome x0b fun a9 => ∃ s10b s10n s10c, cell h ((a9.add (Int.toNat x5 * 3)).add 2) = some (.slice s10b s10n s10c) /\ ((0 <= x5 /\ x5 < (x1n : Int)) /\ (vSome x1b fun a11 => ∃ s12b s12n s12c, cell h ((a11.add (Int.toNat x5 * 3)).add 2) = some (.slice s12b s12n s12c) /\ (HCalls Tryz.prog 101 ⟨[.slice s10b s10n s10c, .slice s12b s12n s12c]⟩ h fun v13 h14 => vBool v13 fun b15 => cond b15 (Rng .i64 (x5 + (1 : Int)) /\ (K2 x0b x0n x0c x1b x1n x1c (x5 + (1 : Int)) h14)) (Kr false h14)))))) (Kr false h)))))) (Kr false h)))))) (Ke0 h)
abbrev n7_L (Kn Ke0 : T2) (Kr : T0) : Nat -> T3 := LP L3 (n7_B Kn Ke0 Kr)
variable (K : Value -> H -> Prop) (h : H)
abbrev asks (x0b : Option Addr) (x0n x0c : Nat) (x1b : Option Addr) (x1n x1c : Nat) (K : Value -> H -> Prop) (h : H) : Prop := cF L0 (fun Kr => sqF L1 (fun K5 => K5 x0b x0n x0c x1b x1n x1c h) fun x0b x0n x0c x1b x1n x1c h => sqF L1 (fun K4 => Spl ((x0n : Int) = (x1n : Int)) (K4 x0b x0n x0c x1b x1n x1c h) (Kr false h)) fun x0b x0n x0c x1b x1n x1c h => sqF L2 (fun K1 => sqF L3 (fun K3 => K3 x0b x0n x0c x1b x1n x1c (0 : Int) h) fun x0b x0n x0c x1b x1n x1c x5 h => lpF L3 (n7_B K1 K1 Kr) fun K2 => K2 x0b x0n x0c x1b x1n x1c x5 h) fun h => Kr true h) fun y4 h => K (.bool y4) h
theorem ok (hS : asks x0b x0n x0c x1b x1n x1c K h) : HCalls Tryz.prog 57 ⟨[.slice x0b x0n x0c, .slice x1b x1n x1c]⟩ h K :=
  cl Tryz.func57 hS (fun hg hS => sq (l := L1) hg hS fun hg hS => sq (l := L1) hg hS fun hg hS => sc (l := L2) hS (fun hS => sq (l := L3) hg hS fun hg hS => bl (b := 0) (lp hg hS fun hg hS => lf hg hS)) fun hg hS => lf hg hS) fun hg hS => rt hg hS
end Sx.r00_SameMarks
namespace Sx.r00_SameOpen
abbrev L2 : List Sl := []
abbrev L3 : List Sl := [.o 0 .l, .o 1 .l, .o 5 (.i .i64)]
abbrev L0 : List Sl := [.o 4 .b]
abbrev L1 : List Sl := [.o 0 .l, .o 1 .l]
abbrev T2 := TK L2
abbrev T0 := TK L0
abbrev T3 := TK L3
variable (x0b : Option Addr) (x0n x0c : Nat) (x1b : Option Addr) (x1n x1c : Nat)
abbrev n7_B (Kn Ke0 : T2) (Kr : T0) : T3 -> T3 := fun K2 x0b x0n x0c x1b x1n x1c x5 h => Spl (x5 < (x0n : Int)) ((0 <= x5 /\ x5 < (x0n : Int)) /\ (vSome x0b fun a1 => ∃ i2, cell h (((a1.add (Int.toNat x5 * 4))).add 0) = some (.int .i64 i2) /\ (∃ i3, cell h (((a1.add (Int.toNat x5 * 4))).add 1) = some (.int .u8 i3) /\ (∃ s4, cell h (((a1.add (Int.toNat x5 * 4))).add 2) = some (S s4) /\ (∃ i5, cell h (((a1.add (Int.toNat x5 * 4))).add 3) = some (.int .u8 i5) /\ ((0 <= x5 /\ x5 < (x1n : Int)) /\ (vSome x1b fun a6 => ∃ i7, cell h (((a6.add (Int.toNat x5 * 4))).add 0) = some (.int .i64 i7) /\ (∃ i8, cell h (((a6.add (Int.toNat x5 * 4))).add 1) = some (.int .u8 i8) /\ (∃ s9, cell h (((a6.add (Int.toNat x5 * 4))).add 2) = some (S s9) /\ (∃ i10, cell h (((a6.add (Int.toNat x5 * 4))).add 3) = some (.int .u8 i10) /\ (SemR Tryz.prog (binS .neq 60 (.tmp 20) (.tmp 24) (.agg ⟨[.int .i64 i2, .int .u8 i3, S s4, .int .u8 i5]⟩) (.agg ⟨[.int .i64 i7, .int .u8 i8, S s9, .int .u8 i10]⟩)) h fun v11 => vBool v11 fun b12 => cond b12 (Kr false h) (Rng .i64 (x5 + (1 : Int)) /\ (K2 x0b x0n x0c x1b x1n x1c (x5 + (1 : Int)) h))))))))))))) (Ke0 h)
abbrev n7_L (Kn Ke0 : T2) (Kr : T0) : Nat -> T3 := LP L3 (n7_B Kn Ke0 Kr)
variable (K : Value -> H -> Prop) (h : H)
abbrev asks (x0b : Option Addr) (x0n x0c : Nat) (x1b : Option Addr) (x1n x1c : Nat) (K : Value -> H -> Prop) (h : H) : Prop := cF L0 (fun Kr => sqF L1 (fun K5 => K5 x0b x0n x0c x1b x1n x1c h) fun x0b x0n x0c x1b x1n x1c h => sqF L1 (fun K4 => Spl ((x0n : Int) = (x1n : Int)) (K4 x0b x0n x0c x1b x1n x1c h) (Kr false h)) fun x0b x0n x0c x1b x1n x1c h => sqF L2 (fun K1 => sqF L3 (fun K3 => K3 x0b x0n x0c x1b x1n x1c (0 : Int) h) fun x0b x0n x0c x1b x1n x1c x5 h => lpF L3 (n7_B K1 K1 Kr) fun K2 => K2 x0b x0n x0c x1b x1n x1c x5 h) fun h => Kr true h) fun y4 h => K (.bool y4) h
theorem ok (hS : asks x0b x0n x0c x1b x1n x1c K h) : HCalls Tryz.prog 56 ⟨[.slice x0b x0n x0c, .slice x1b x1n x1c]⟩ h K :=
  cl Tryz.func56 hS (fun hg hS => sq (l := L1) hg hS fun hg hS => sq (l := L1) hg hS fun hg hS => sc (l := L2) hS (fun hS => sq (l := L3) hg hS fun hg hS => bl (b := 0) (lp hg hS fun hg hS => lf hg hS)) fun hg hS => lf hg hS) fun hg hS => rt hg hS
end Sx.r00_SameOpen
end Go.Proofs
