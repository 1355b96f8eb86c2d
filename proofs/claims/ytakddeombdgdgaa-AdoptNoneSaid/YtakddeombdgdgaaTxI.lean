/- The shallow forms of functions, printed by sh.py out of the translation; each with its proof. No condition. -/
import Derived.Test.YtakddeombdgdgaaShQ
import Derived.Test.YtakddeombdgdgaaProg
namespace Go.Proofs
open Go Go.Sh
set_option linter.unusedVariables false
set_option maxRecDepth 100000

namespace Sx.l14_heavy
abbrev L0 : List Sl := [.o 2 .b]
abbrev L2 : List Sl := [.o 0 .l, .o 3 (.i .i64)]
abbrev L3 : List Sl := [.o 0 .l, .o 3 (.i .i64), .o 4 (.i .i64)]
abbrev L1 : List Sl := [.o 0 .l]
abbrev T0 := TK L0
abbrev T2 := TK L2
abbrev T3 := TK L3
variable (x0b : Option Addr) (x0n x0c : Nat) (x3 : Int)
abbrev n4 (x0b : Option Addr) (x0n : Nat) (x0c : Nat) (x3 : Int) (Kn Kr : T0) (h : H) : Prop :=
  Spl (x3 > (300 : Int)) (Kr true h) (Spl ((x0n : Int) > (80 : Int)) (Kr true h) (Kr false h))
abbrev n7_B (Kn Ke0 : T2) (Kr : T0) : T3 → T3 := fun K2 x0b x0n x0c x3 x4 h => Spl (x4 < (x0n : Int)) (Spl (x3 ≤ (300 : Int)) ((0 ≤ x4 ∧ x4 < (x0n : Int)) ∧ (vSome x0b fun a1 => ∃ s2, cell h ((a1.add (Int.toNat x4 * 4)).add 2) = some (S s2) ∧ ((8 : Int) ≠ 0 ∧ (Rng .i64 (Int.tdiv (s2.length : Int) (8 : Int)) ∧ ((0 ≤ x4 ∧ x4 < (x0n : Int)) ∧ (vSome x0b fun a3 => ∃ s4b s4n s4c, cell h ((a3.add (Int.toNat x4 * 4)).add 3) = some (.slice s4b s4n s4c) ∧ (newx h #[(.int .u8 (0 : Int)), (S ([] : List UInt8)), (.slice s4b s4n s4c), (.bool false), (S ([] : List UInt8))] 32 fun a5 h6 => ExtH h h6 ∧ (HCalls Try.prog 12 ⟨[(.slice (some a5) 1 1), (.int .i64 (300 : Int))]⟩ h6 fun v7 h8 => vInt .i64 v7 fun i9 => ExtH h6 h8 ∧ (Rng .i64 ((Int.tdiv (s2.length : Int) (8 : Int)) + i9) ∧ (Rng .i64 (x3 + ((Int.tdiv (s2.length : Int) (8 : Int)) + i9)) ∧ (Rng .i64 (x4 + (1 : Int)) ∧ (K2 x0b x0n x0c (x3 + ((Int.tdiv (s2.length : Int) (8 : Int)) + i9)) (x4 + (1 : Int)) h8)))))))))))) (Ke0 x0b x0n x0c x3 h)) (Ke0 x0b x0n x0c x3 h)
abbrev n7_L (Kn Ke0 : T2) (Kr : T0) : Nat → T3 := LP L3 (n7_B Kn Ke0 Kr)
abbrev n5 (x0b : Option Addr) (x0n : Nat) (x0c : Nat) (x3 : Int) (Kn : T2) (Kr : T0) (h : H) : Prop :=
  sqF L3 (fun K3 => K3 x0b x0n x0c x3 (0 : Int) h) fun x0b x0n x0c x3 x4 h => lpF L3 (n7_B Kn Kn Kr) fun K2 => K2 x0b x0n x0c x3 x4 h
abbrev n3 (x0b : Option Addr) (x0n : Nat) (x0c : Nat) (x3 : Int) (Kn Kr : T0) (h : H) : Prop :=
  sqF L2 (fun K1 => n5 x0b x0n x0c x3 K1 Kr h) fun x0b x0n x0c x3 h => n4 x0b x0n x0c x3 Kn Kr h
abbrev n2 (x0b : Option Addr) (x0n : Nat) (x0c : Nat) (Kn Kr : T0) (h : H) : Prop :=
  sqF L2 (fun K4 => K4 x0b x0n x0c (x0n : Int) h) fun x0b x0n x0c x3 h => n3 x0b x0n x0c x3 Kn Kr h
abbrev n1 (x0b : Option Addr) (x0n : Nat) (x0c : Nat) (Kn Kr : T0) (h : H) : Prop :=
  sqF L1 (fun K5 => K5 x0b x0n x0c h) fun x0b x0n x0c h => n2 x0b x0n x0c Kn Kr h
variable (K : Value → H → Prop) (h : H)
/-- tympan/tympanlaw14.heavy -/
abbrev asks : Prop := cF L0 (fun Kr => n1 x0b x0n x0c Kr Kr h) fun y2 h => K (.bool y2) h
theorem ok (hS : asks x0b x0n x0c K h) : HCalls Try.prog 4 ⟨[(.slice x0b x0n x0c)]⟩ h K :=
  cl Try.func4 hS (fun hg hS => sq (l := L1) hg hS fun hg hS => sq (l := L2) hg hS fun hg hS => sc (l := L2) hS (fun hS => sq (l := L3) hg hS fun hg hS => bl (b := 0) (lp hg hS fun hg hS => lf hg hS)) fun hg hS => lf hg hS) fun hg hS => rt hg hS
end Sx.l14_heavy

namespace Sx.l14_known
abbrev L0 : List Sl := [.o 0 .b]
abbrev L5 : List Sl := [.o 1 .p, .o 3 .b, .o 4 .b]
abbrev L4 : List Sl := [.o 1 .p, .o 3 .b]
abbrev L2 : List Sl := [.o 1 .p]
abbrev L3 : List Sl := [.o 1 .p, .o 2 (.i .i64)]
abbrev L1 : List Sl := []
abbrev T0 := TK L0
variable (x1 : Option Addr) (x2 : Int) (x3 x4 : Bool)
abbrev n11 (Kn Kr : T0) (h : H) : Prop :=
  HCalls Try.prog 14 ⟨[(.pointer x1), (S ([120] : List UInt8))]⟩ h fun v1 h2 => vSome x1 fun a3 => ∃ p4, cell h2 (a3.add 0) = some (.pointer p4) ∧ (HCalls Try.prog 9 ⟨[(.pointer p4), (.int .i64 (0 : Int))]⟩ h2 fun v5 h6 => vSlice v5 fun s7b s7n s7c => cond x3 (cond x4 (Kr false h6) (Spl ((s7n : Int) = (2 : Int)) ((0 ≤ (1 : Int) ∧ (1 : Int) < (s7n : Int)) ∧ (vSome s7b fun a8 => ∃ s9, cell h6 ((a8.add (Int.toNat (1 : Int) * 6)).add 2) = some (S s9) ∧ (Spl (s9 = ([112] : List UInt8)) ((0 ≤ (1 : Int) ∧ (1 : Int) < (s7n : Int)) ∧ (vSome s7b fun a10 => ∃ s11b s11n s11c, cell h6 ((a10.add (Int.toNat (1 : Int) * 6)).add 5) = some (.slice s11b s11n s11c) ∧ (Spl ((s11n : Int) = (1 : Int)) ((0 ≤ (1 : Int) ∧ (1 : Int) < (s7n : Int)) ∧ (vSome s7b fun a12 => ∃ s13b s13n s13c, cell h6 ((a12.add (Int.toNat (1 : Int) * 6)).add 5) = some (.slice s13b s13n s13c) ∧ ((0 ≤ (0 : Int) ∧ (0 : Int) < (s13n : Int)) ∧ (vSome s13b fun a14 => ∃ s15, cell h6 ((a14.add (Int.toNat (0 : Int) * 6)).add 2) = some (S s15) ∧ (Spl (s15 = ([98] : List UInt8)) (vSome x1 fun a16 => ∃ s17b s17n s17c, cell h6 (a16.add 1) = some (.slice s17b s17n s17c) ∧ (Spl ((s17n : Int) = (2 : Int)) (Kr true h6) (Kr false h6))) (Kr false h6)))))) (Kr false h6)))) (Kr false h6)))) (Kr false h6))) (Kr false h6))
abbrev n10 (x1 : Option Addr) (x3 : Bool) (Kn Kr : T0) (h : H) : Prop :=
  sqF L5 (fun K1 => HCalls Try.prog 10 ⟨[(.pointer x1), (S ([105] : List UInt8))]⟩ h fun v18 h19 => vBool v18 fun b20 => cond b20 (K1 x1 x3 true h19) (K1 x1 x3 false h19)) fun x1 x3 x4 h => n11 x1 x3 x4 Kn Kr h
abbrev n9 (x1 : Option Addr) (Kn Kr : T0) (h : H) : Prop :=
  sqF L4 (fun K2 => HCalls Try.prog 10 ⟨[(.pointer x1), (S ([98] : List UInt8))]⟩ h fun v21 h22 => vBool v21 fun b23 => cond b23 (K2 x1 true h22) (K2 x1 false h22)) fun x1 x3 h => n10 x1 x3 Kn Kr h
abbrev n8 (x1 : Option Addr) (Kn Kr : T0) (h : H) : Prop :=
  sqF L2 (fun K3 => HCalls Try.prog 13 ⟨[(.pointer x1), (S ([50] : List UInt8))]⟩ h fun v24 h25 => K3 x1 h25) fun x1 h => n9 x1 Kn Kr h
abbrev n7 (x1 : Option Addr) (Kn Kr : T0) (h : H) : Prop :=
  sqF L2 (fun K4 => HCalls Try.prog 7 ⟨[(.pointer x1), (.int .u8 (0 : Int)), (.agg ⟨[(.int .u8 (0 : Int)), (S ([112] : List UInt8)), (.slice none 0 0), (.bool false), (S ([] : List UInt8))]⟩)]⟩ h fun v26 h27 => vInt .i64 v26 fun i28 => K4 x1 h27) fun x1 h => n8 x1 Kn Kr h
abbrev n6 (x1 : Option Addr) (Kn Kr : T0) (h : H) : Prop :=
  sqF L2 (fun K5 => HCalls Try.prog 13 ⟨[(.pointer x1), (S ([49] : List UInt8))]⟩ h fun v29 h30 => K5 x1 h30) fun x1 h => n7 x1 Kn Kr h
abbrev n5 (x1 : Option Addr) (x2 : Int) (Kn Kr : T0) (h : H) : Prop :=
  sqF L2 (fun K6 => newx h #[(.int .i64 x2), (S ([98] : List UInt8)), (.slice none 0 0)] 49 fun a31 h32 => vSome x1 fun a33 => stL (a33.add 2) [(.slice (some a31) 1 1)] 0 h32 fun h34 => K6 x1 h34) fun x1 h => n6 x1 Kn Kr h
abbrev n4 (x1 : Option Addr) (Kn Kr : T0) (h : H) : Prop :=
  sqF L3 (fun K7 => HCalls Try.prog 7 ⟨[(.pointer x1), (.int .u8 (0 : Int)), (.agg ⟨[(.int .u8 (0 : Int)), (S ([98] : List UInt8)), (.slice none 0 0), (.bool false), (S ([] : List UInt8))]⟩)]⟩ h fun v35 h36 => vInt .i64 v35 fun i37 => K7 x1 i37 h36) fun x1 x2 h => n5 x1 x2 Kn Kr h
abbrev n3 (x1 : Option Addr) (Kn Kr : T0) (h : H) : Prop :=
  sqF L2 (fun K8 => SemH Try.prog (binS .eql 25 (.tmp 7) (.const (.pointer none)) (.pointer x1) (.pointer none)) h fun v38 h39 => vBool v38 fun b40 => cond b40 (Kr false h39) (vSome x1 fun a41 => ∃ p42, cell h39 (a41.add 0) = some (.pointer p42) ∧ (SemH Try.prog (binS .eql 33 (.tmp 13) (.const (.pointer none)) (.pointer p42) (.pointer none)) h39 fun v43 h44 => vBool v43 fun b45 => cond b45 (Kr false h44) (K8 x1 h44)))) fun x1 h => n4 x1 Kn Kr h
abbrev n2 (Kn Kr : T0) (h : H) : Prop :=
  sqF L2 (fun K9 => HCalls Try.prog 6 ⟨[]⟩ h fun v46 h47 => vPtr v46 fun p48 => K9 p48 h47) fun x1 h => n3 x1 Kn Kr h
abbrev n1 (Kn Kr : T0) (h : H) : Prop :=
  sqF L1 (fun K10 => K10 h) fun h => n2 Kn Kr h
variable (K : Value → H → Prop) (h : H)
/-- tympan/tympanlaw14.known -/
abbrev asks : Prop := cF L0 (fun Kr => n1 Kr Kr h) fun y0 h => K (.bool y0) h
theorem ok (hS : asks K h) : HCalls Try.prog 5 ⟨[]⟩ h K :=
  cl Try.func5 hS (fun hg hS => sq (l := L1) hg hS fun hg hS => sq (l := L2) hg hS fun hg hS => sq (l := L2) hg hS fun hg hS => sq (l := L3) hg hS fun hg hS => sq (l := L2) hg hS fun hg hS => sq (l := L2) hg hS fun hg hS => sq (l := L2) hg hS fun hg hS => sq (l := L2) hg hS fun hg hS => sq (l := L4) hg hS fun hg hS => sq (l := L5) hg hS fun hg hS => lf hg hS) fun hg hS => rt hg hS
end Sx.l14_known

namespace Sx.l14_AdoptNone
abbrev L0 : List Sl := [.o 4 .b]
abbrev L10 : List Sl := [.o 5 .p, .o 9 .l, .o 10 .b, .o 11 .b, .o 12 (.i .i64)]
abbrev L9 : List Sl := [.o 5 .p, .o 7 (.i .i64), .o 9 .l, .o 10 .b, .o 11 .b, .o 12 (.i .i64)]
abbrev L8 : List Sl := [.o 5 .p, .o 7 (.i .i64), .o 9 .l, .o 10 .b, .o 11 .b]
abbrev L7 : List Sl := [.o 1 .s, .o 5 .p, .o 7 (.i .i64), .o 8 .a, .o 9 .l, .o 10 .b]
abbrev L6 : List Sl := [.o 1 .s, .o 5 .p, .o 7 (.i .i64), .o 8 .a, .o 9 .l]
abbrev L5 : List Sl := [.o 1 .s, .o 5 .p, .o 7 (.i .i64), .o 8 .a]
abbrev L4 : List Sl := [.o 1 .s, .o 5 .p, .o 7 (.i .i64)]
abbrev L3 : List Sl := [.o 1 .s, .o 5 .p]
abbrev L11 : List Sl := [.o 0 .l, .o 1 .s, .o 5 .p, .o 6 (.i .i64)]
abbrev L2 : List Sl := [.o 0 .l, .o 1 .s, .o 5 .p]
abbrev L1 : List Sl := [.o 0 .l, .o 1 .s]
abbrev T0 := TK L0
abbrev T3 := TK L3
abbrev T11 := TK L11
variable (x0b : Option Addr) (x0n x0c : Nat) (x1 : List UInt8) (x5 : Option Addr) (x7 : Int) (x8 : Addr) (x9b : Option Addr) (x9n x9c : Nat) (x10 x11 : Bool) (x12 : Int)
abbrev n12 (Kn Kr : T0) (h : H) : Prop :=
  cond x10 (cond x11 (vSome x5 fun a1 => ∃ s2b s2n s2c, cell h (a1.add 1) = some (.slice s2b s2n s2c) ∧ (Spl ((s2n : Int) = x12) (vSome x5 fun a3 => ∃ p4, cell h (a3.add 0) = some (.pointer p4) ∧ (HCalls Try.prog 9 ⟨[(.pointer p4), (.int .i64 (0 : Int))]⟩ h fun v5 h6 => vSlice v5 fun s7b s7n s7c => HCalls Try.prog 11 ⟨[(.slice s7b s7n s7c), (.slice x9b x9n x9c)]⟩ h6 fun v8 h9 => vBool v8 fun b10 => cond b10 (vSome x5 fun a11 => ∃ s12b s12n s12c, cell h9 (a11.add 2) = some (.slice s12b s12n s12c) ∧ (Spl ((s12n : Int) = (0 : Int)) (Kr true h9) (Kr false h9))) (Kr false h9))) (Kr false h))) (Kr false h)) (cond x11 (Kr false h) (vSome x5 fun a13 => ∃ s14b s14n s14c, cell h (a13.add 1) = some (.slice s14b s14n s14c) ∧ (Spl ((s14n : Int) = x12) (vSome x5 fun a15 => ∃ p16, cell h (a15.add 0) = some (.pointer p16) ∧ (HCalls Try.prog 9 ⟨[(.pointer p16), (.int .i64 (0 : Int))]⟩ h fun v17 h18 => vSlice v17 fun s19b s19n s19c => HCalls Try.prog 11 ⟨[(.slice s19b s19n s19c), (.slice x9b x9n x9c)]⟩ h18 fun v20 h21 => vBool v20 fun b22 => cond b22 (vSome x5 fun a23 => ∃ s24b s24n s24c, cell h21 (a23.add 2) = some (.slice s24b s24n s24c) ∧ (Spl ((s24n : Int) = (0 : Int)) (Kr true h21) (Kr false h21))) (Kr false h21))) (Kr false h))))
abbrev n11 (x5 : Option Addr) (x7 : Int) (x9b : Option Addr) (x9n : Nat) (x9c : Nat) (x10 : Bool) (x11 : Bool) (x12 : Int) (Kn Kr : T0) (h : H) : Prop :=
  sqF L10 (fun K1 => cond x11 (Rng .i64 (x7 - (1 : Int)) ∧ (K1 x5 x9b x9n x9c x10 x11 (if (1 : Int) > (x7 - (1 : Int)) then (1 : Int) else (x7 - (1 : Int))) h)) (K1 x5 x9b x9n x9c x10 x11 x12 h)) fun x5 x9b x9n x9c x10 x11 x12 h => n12 x5 x9b x9n x9c x10 x11 x12 Kn Kr h
abbrev n10 (x5 : Option Addr) (x7 : Int) (x9b : Option Addr) (x9n : Nat) (x9c : Nat) (x10 : Bool) (x11 : Bool) (Kn Kr : T0) (h : H) : Prop :=
  sqF L9 (fun K2 => K2 x5 x7 x9b x9n x9c x10 x11 x7 h) fun x5 x7 x9b x9n x9c x10 x11 x12 h => n11 x5 x7 x9b x9n x9c x10 x11 x12 Kn Kr h
abbrev n9 (x1 : List UInt8) (x5 : Option Addr) (x7 : Int) (x8 : Addr) (x9b : Option Addr) (x9n : Nat) (x9c : Nat) (x10 : Bool) (Kn Kr : T0) (h : H) : Prop :=
  sqF L8 (fun K3 => ∃ i25, cell h (x8.add 1) = some (.int .u8 i25) ∧ (Spl (i25 = (0 : Int)) (∃ s26, cell h (x8.add 2) = some (S s26) ∧ (Spl (s26 = x1) (K3 x5 x7 x9b x9n x9c x10 true h) (K3 x5 x7 x9b x9n x9c x10 false h))) (K3 x5 x7 x9b x9n x9c x10 false h))) fun x5 x7 x9b x9n x9c x10 x11 h => n10 x5 x7 x9b x9n x9c x10 x11 Kn Kr h
abbrev n8 (x1 : List UInt8) (x5 : Option Addr) (x7 : Int) (x8 : Addr) (x9b : Option Addr) (x9n : Nat) (x9c : Nat) (Kn Kr : T0) (h : H) : Prop :=
  sqF L7 (fun K4 => HCalls Try.prog 10 ⟨[(.pointer x5), (S x1)]⟩ h fun v27 h28 => vBool v27 fun b29 => cond b29 (K4 x1 x5 x7 x8 x9b x9n x9c true h28) (K4 x1 x5 x7 x8 x9b x9n x9c false h28)) fun x1 x5 x7 x8 x9b x9n x9c x10 h => n9 x1 x5 x7 x8 x9b x9n x9c x10 Kn Kr h
abbrev n7 (x1 : List UInt8) (x5 : Option Addr) (x7 : Int) (x8 : Addr) (Kn Kr : T0) (h : H) : Prop :=
  sqF L6 (fun K5 => vSome x5 fun a30 => ∃ p31, cell h (a30.add 0) = some (.pointer p31) ∧ (HCalls Try.prog 9 ⟨[(.pointer p31), (.int .i64 (0 : Int))]⟩ h fun v32 h33 => vSlice v32 fun s34b s34n s34c => K5 x1 x5 x7 x8 s34b s34n s34c h33)) fun x1 x5 x7 x8 x9b x9n x9c h => n8 x1 x5 x7 x8 x9b x9n x9c Kn Kr h
abbrev n6 (x1 : List UInt8) (x5 : Option Addr) (x7 : Int) (Kn Kr : T0) (h : H) : Prop :=
  sqF L5 (fun K6 => HCalls Try.prog 8 ⟨[(.pointer x5)]⟩ h fun v35 h36 => vAgg v35 fun l37 => uncons l37 fun e38 l39 => vInt .i64 e38 fun i40 => uncons l39 fun e41 l42 => vInt .u8 e41 fun i43 => uncons l42 fun e44 l45 => vStr e44 fun s46 => uncons l45 fun e47 l48 => vInt .u8 e47 fun i49 => unnil l48 (newx h36 ⟨[(.int .i64 (0 : Int)), (.int .u8 (0 : Int)), (S ([] : List UInt8)), (.int .u8 (0 : Int))]⟩ 39 fun a50 h51 => stL a50 [(.int .i64 i40), (.int .u8 i43), (S s46), (.int .u8 i49)] 0 h51 fun h52 => K6 x1 x5 x7 a50 h52)) fun x1 x5 x7 x8 h => n7 x1 x5 x7 x8 Kn Kr h
abbrev n5 (x1 : List UInt8) (x5 : Option Addr) (Kn Kr : T0) (h : H) : Prop :=
  sqF L4 (fun K7 => vSome x5 fun a53 => ∃ s54b s54n s54c, cell h (a53.add 1) = some (.slice s54b s54n s54c) ∧ (K7 x1 x5 (s54n : Int) h)) fun x1 x5 x7 h => n6 x1 x5 x7 Kn Kr h
abbrev n15_B (Kn Ke0 : T3) (Kr : T0) : T11 → T11 := fun K9 x0b x0n x0c x1 x5 x6 h => Spl (x6 < (x0n : Int)) ((0 ≤ x6 ∧ x6 < (x0n : Int)) ∧ (vSome x0b fun a55 => ∃ i56, cell h ((a55.add (Int.toNat x6 * 4)).add 1) = some (.int .u8 i56) ∧ ((3 : Int) ≠ 0 ∧ ((0 ≤ x6 ∧ x6 < (x0n : Int)) ∧ (vSome x0b fun a57 => ∃ s58, cell h ((a57.add (Int.toNat x6 * 4)).add 2) = some (S s58) ∧ (HCalls Try.prog 7 ⟨[(.pointer x5), (.int .u8 (Int.tmod i56 (3 : Int))), (.agg ⟨[(.int .u8 (0 : Int)), (S s58), (.slice none 0 0), (.bool false), (S ([] : List UInt8))]⟩)]⟩ h fun v59 h60 => vInt .i64 v59 fun i61 => Rng .i64 (x6 + (1 : Int)) ∧ (K9 x0b x0n x0c x1 x5 (x6 + (1 : Int)) h60))))))) (Ke0 x1 x5 h)
abbrev n15_L (Kn Ke0 : T3) (Kr : T0) : Nat → T11 := LP L11 (n15_B Kn Ke0 Kr)
abbrev n13 (x0b : Option Addr) (x0n : Nat) (x0c : Nat) (x1 : List UInt8) (x5 : Option Addr) (Kn : T3) (Kr : T0) (h : H) : Prop :=
  sqF L11 (fun K10 => K10 x0b x0n x0c x1 x5 (0 : Int) h) fun x0b x0n x0c x1 x5 x6 h => lpF L11 (n15_B Kn Kn Kr) fun K9 => K9 x0b x0n x0c x1 x5 x6 h
abbrev n4 (x0b : Option Addr) (x0n : Nat) (x0c : Nat) (x1 : List UInt8) (x5 : Option Addr) (Kn Kr : T0) (h : H) : Prop :=
  sqF L3 (fun K8 => n13 x0b x0n x0c x1 x5 K8 Kr h) fun x1 x5 h => n5 x1 x5 Kn Kr h
abbrev n3 (x0b : Option Addr) (x0n : Nat) (x0c : Nat) (x1 : List UInt8) (Kn Kr : T0) (h : H) : Prop :=
  sqF L2 (fun K11 => HCalls Try.prog 6 ⟨[]⟩ h fun v62 h63 => vPtr v62 fun p64 => K11 x0b x0n x0c x1 p64 h63) fun x0b x0n x0c x1 x5 h => n4 x0b x0n x0c x1 x5 Kn Kr h
abbrev n2 (x0b : Option Addr) (x0n : Nat) (x0c : Nat) (x1 : List UInt8) (Kn Kr : T0) (h : H) : Prop :=
  sqF L1 (fun K12 => HCalls Try.prog 4 ⟨[(.slice x0b x0n x0c)]⟩ h fun v65 h66 => vBool v65 fun b67 => cond b67 (HCalls Try.prog 5 ⟨[]⟩ h66 fun v68 h69 => vBool v68 fun b70 => cond b70 (Kr true h69) (Kr false h69)) (Spl ((x1.length : Int) > (300 : Int)) (HCalls Try.prog 5 ⟨[]⟩ h66 fun v71 h72 => vBool v71 fun b73 => cond b73 (Kr true h72) (Kr false h72)) (HCalls Try.prog 5 ⟨[]⟩ h66 fun v74 h75 => vBool v74 fun b76 => cond b76 (K12 x0b x0n x0c x1 h75) (HCalls Try.prog 5 ⟨[]⟩ h75 fun v77 h78 => vBool v77 fun b79 => cond b79 (Kr true h78) (Kr false h78))))) fun x0b x0n x0c x1 h => n3 x0b x0n x0c x1 Kn Kr h
abbrev n1 (x0b : Option Addr) (x0n : Nat) (x0c : Nat) (x1 : List UInt8) (Kn Kr : T0) (h : H) : Prop :=
  sqF L1 (fun K13 => K13 x0b x0n x0c x1 h) fun x0b x0n x0c x1 h => n2 x0b x0n x0c x1 Kn Kr h
variable (K : Value → H → Prop) (h : H)
/-- tympan/tympanlaw14.AdoptNone -/
abbrev asks : Prop := cF L0 (fun Kr => n1 x0b x0n x0c x1 Kr Kr h) fun y4 h => K (.bool y4) h
theorem ok (hS : asks x0b x0n x0c x1 K h) : HCalls Try.prog 3 ⟨[(.slice x0b x0n x0c), (S x1)]⟩ h K :=
  cl Try.func3 hS (fun hg hS => sq (l := L1) hg hS fun hg hS => sq (l := L1) hg hS fun hg hS => sq (l := L2) hg hS fun hg hS => sc (l := L3) hS (fun hS => sq (l := L11) hg hS fun hg hS => bl (b := 0) (lp hg hS fun hg hS => lf hg hS)) fun hg hS => sq (l := L4) hg hS fun hg hS => sq (l := L5) hg hS fun hg hS => sq (l := L6) hg hS fun hg hS => sq (l := L7) hg hS fun hg hS => sq (l := L8) hg hS fun hg hS => sq (l := L9) hg hS fun hg hS => sq (l := L10) hg hS fun hg hS => lf hg hS) fun hg hS => rt hg hS
end Sx.l14_AdoptNone
end Go.Proofs
