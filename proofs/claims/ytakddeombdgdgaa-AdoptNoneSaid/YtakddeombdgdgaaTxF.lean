/- The shallow forms of functions, printed by sh.py out of the translation; each with its proof. No condition. -/
import Derived.Test.YtakddeombdgdgaaShQ
import Derived.Test.YtakddeombdgdgaaProg
namespace Go.Proofs
open Go Go.Sh
set_option linter.unusedVariables false
set_option maxRecDepth 100000

namespace Sx.place_World_Drop
abbrev L4 : List Sl := [.o 0 .p, .o 4 (.i .i64), .o 12 .b]
abbrev L3 : List Sl := [.o 0 .p, .o 4 (.i .i64)]
abbrev L2 : List Sl := [.o 0 .p, .o 3 .a]
abbrev L0 : List Sl := []
variable (x0 : Option Addr) (x1 : Int)
variable (K : Value → H → Prop) (h : H)
/-- (*tympan/place.World).Drop -/
abbrev asks (x0 : Option Addr) (x1 : Int) (K : Value → H → Prop) (h : H) : Prop := cF L0 (fun Kr => sqF L2 (fun K3 => newx h #[(.int .i64 x1)] 3 fun a16 h17 => K3 x0 a16 h17) fun x0 x3 h => sqF L3 (fun K2 => vSome x0 fun a11 => ∃ s12b s12n s12c, cell h (a11.add 1) = some (.slice s12b s12n s12c) ∧ (HCalls Try.prog 45 ⟨[(.slice s12b s12n s12c), (.func (.func 74) ⟨[]⟩ ⟨[(.pointer (some x3))]⟩)]⟩ h fun v13 h14 => vInt .i64 v13 fun i15 => K2 x0 i15 h14)) fun x0 x4 h => sqF L4 (fun K1 => Spl (x4 > (0 : Int)) (K1 x0 x4 true h) (K1 x0 x4 false h)) fun x0 x4 x12 h => cond x12 (vSome x0 fun a1 => ∃ s2b s2n s2c, cell h (a1.add 1) = some (.slice s2b s2n s2c) ∧ (HCalls Try.prog 76 ⟨[(.slice s2b s2n s2c)]⟩ h fun v3 h4 => vSlice v3 fun s5b s5n s5c => Rng .i64 (x4 + (1 : Int)) ∧ (HCalls Try.prog 75 ⟨[(.slice s5b s5n s5c), (.int .i64 x4), (.int .i64 (x4 + (1 : Int)))]⟩ h4 fun v6 h7 => vSlice v6 fun s8b s8n s8c => vSome x0 fun a9 => stL (a9.add 1) [(.slice s8b s8n s8c)] 0 h7 fun h10 => Kr h10))) (Kr h)) fun h => K (.tuple ⟨[]⟩) h
theorem ok (hS : asks x0 x1 K h) : HCalls Try.prog 64 ⟨[(.pointer x0), (.int .i64 x1)]⟩ h K :=
  cl Try.func64 hS (fun hg hS => sq hg hS fun hg hS => sq hg hS fun hg hS => sq hg hS fun hg hS => lf hg hS) fun hg hS => rt hg hS
end Sx.place_World_Drop

namespace Sx.slices_IndexFunc_apiOpen
abbrev L2 : List Sl := []
abbrev L3 : List Sl := [.o 0 .l, .o 1 .r, .o 7 (.i .i64), .o 8 (.i .i64)]
abbrev L0 : List Sl := [.o 4 (.i .i64)]
abbrev L1 : List Sl := [.o 0 .l, .o 1 .r]
abbrev T2 := TK L2
abbrev T0 := TK L0
abbrev T3 := TK L3
variable (x0b : Option Addr) (x0n x0c : Nat) (x1 : Value)
abbrev n6_B (Kn Ke0 : T2) (Kr : T0) : T3 → T3 := fun K2 x0b x0n x0c x1 x7 x8 h => Spl (x8 < x7) ((0 ≤ x8 ∧ x8 < (x0n : Int)) ∧ (vSome x0b fun a1 => ∃ i2, cell h (((a1.add (Int.toNat x8 * 4))).add 0) = some (.int .i64 i2) ∧ (∃ i3, cell h (((a1.add (Int.toNat x8 * 4))).add 1) = some (.int .u8 i3) ∧ (∃ s4, cell h (((a1.add (Int.toNat x8 * 4))).add 2) = some (S s4) ∧ (∃ i5, cell h (((a1.add (Int.toNat x8 * 4))).add 3) = some (.int .u8 i5) ∧ (CallV Try.prog 4 x1 ⟨[(.agg ⟨[(.int .i64 i2), (.int .u8 i3), (S s4), (.int .u8 i5)]⟩)]⟩ h fun v6 h7 => vBool v6 fun b8 => cond b8 (Kr x8 h7) (Rng .i64 (x8 + (1 : Int)) ∧ (K2 x0b x0n x0c x1 x7 (x8 + (1 : Int)) h7)))))))) (Ke0 h)
abbrev n6_L (Kn Ke0 : T2) (Kr : T0) : Nat → T3 := LP L3 (n6_B Kn Ke0 Kr)
variable (K : Value → H → Prop) (h : H)
/-- slices.IndexFunc[[]tympan/api.Open,tympan/api.Open] -/
abbrev asks (x0b : Option Addr) (x0n : Nat) (x0c : Nat) (x1 : Value) (K : Value → H → Prop) (h : H) : Prop := cF L0 (fun Kr => sqF L1 (fun K4 => K4 x0b x0n x0c x1 h) fun x0b x0n x0c x1 h => sqF L2 (fun K1 => sqF L3 (fun K3 => K3 x0b x0n x0c x1 (x0n : Int) (0 : Int) h) fun x0b x0n x0c x1 x7 x8 h => lpF L3 (n6_B K1 K1 Kr) fun K2 => K2 x0b x0n x0c x1 x7 x8 h) fun h => Kr (-1 : Int) h) fun y4 h => K (.int .i64 y4) h
theorem ok (hS : asks x0b x0n x0c x1 K h) : HCalls Try.prog 45 ⟨[(.slice x0b x0n x0c), x1]⟩ h K :=
  cl Try.func45 hS (fun hg hS => sq (l := L1) hg hS fun hg hS => sc (l := L2) hS (fun hS => sq (l := L3) hg hS fun hg hS => bl (b := 0) (lp hg hS fun hg hS => lf hg hS)) fun hg hS => lf hg hS) fun hg hS => rt hg hS
end Sx.slices_IndexFunc_apiOpen

namespace Sx.place_World_Drop_1
abbrev L0 : List Sl := [.o 3 .b]
variable (x0_0 x0_1 : Int) (x0_2 : List UInt8) (x0_3 : Int) (x1 : Addr)
variable (K : Value → H → Prop) (h : H)
/-- (*tympan/place.World).Drop$1 -/
abbrev asks : Prop := cF L0 (fun Kr => newx h ⟨[(.int .i64 x0_0), (.int .u8 x0_1), (S x0_2), (.int .u8 x0_3)]⟩ 39 fun a1 h2 => ∃ i3, cell h2 (a1.add 0) = some (.int .i64 i3) ∧ (∃ i4, cell h2 x1 = some (.int .i64 i4) ∧ (Spl (i3 = i4) (Kr true h2) (Kr false h2)))) fun y3 h => K (.bool y3) h
theorem ok (hS : asks x0_0 x0_1 x0_2 x0_3 x1 K h) : HCalls Try.prog 74 ⟨[(.agg ⟨[(.int .i64 x0_0), (.int .u8 x0_1), (S x0_2), (.int .u8 x0_3)]⟩), (.pointer (some x1))]⟩ h K :=
  cl Try.func74 hS (fun hg hS => lf hg hS) fun hg hS => rt hg hS
end Sx.place_World_Drop_1

namespace Sx.slices_Delete_apiOpen
abbrev L0 : List Sl := [.o 6 .l]
variable (x0b : Option Addr) (x0n x0c : Nat) (x1 x2 : Int)
variable (K : Value → H → Prop) (h : H)
/-- slices.Delete[[]tympan/api.Open,tympan/api.Open] -/
abbrev asks : Prop := cF L0 (fun Kr => (0 ≤ x1 ∧ x1 ≤ x2 ∧ x2 ≤ (x0n : Int) ∧ (x0n : Int) ≤ (x0c : Int)) ∧ (Spl (x1 = x2) (Kr x0b x0n x0c h) ((0 ≤ (0 : Int) ∧ (0 : Int) ≤ x1 ∧ x1 ≤ (x0c : Int)) ∧ ((0 ≤ x2 ∧ x2 ≤ (x0n : Int) ∧ (x0n : Int) ≤ (x0c : Int)) ∧ (SemH Try.prog (Builtin.append_ #[34, 34] 34 ⟨[(.slice (if x0c = Int.toNat (0 : Int) then x0b else Option.map (fun q => q.add (Int.toNat (0 : Int) * 4)) x0b) (Int.toNat x1 - Int.toNat (0 : Int)) (x0c - Int.toNat (0 : Int))), (.slice (if x0c = Int.toNat x2 then x0b else Option.map (fun q => q.add (Int.toNat x2 * 4)) x0b) (Int.toNat (x0n : Int) - Int.toNat x2) (x0c - Int.toNat x2))]⟩) h fun v1 h2 => vSlice v1 fun s3b s3n s3c => (0 ≤ (s3n : Int) ∧ (s3n : Int) ≤ (x0n : Int) ∧ (x0n : Int) ≤ (s3c : Int)) ∧ (SemH Try.prog (Builtin.clear_ #[34] 0 ⟨[(.slice (if s3c = Int.toNat (s3n : Int) then s3b else Option.map (fun q => q.add (Int.toNat (s3n : Int) * 4)) s3b) (Int.toNat (x0n : Int) - Int.toNat (s3n : Int)) (s3c - Int.toNat (s3n : Int)))]⟩) h2 fun v4 h5 => Kr s3b s3n s3c h5)))))) fun y6b y6n y6c h => K (.slice y6b y6n y6c) h
theorem ok (hS : asks x0b x0n x0c x1 x2 K h) : HCalls Try.prog 75 ⟨[(.slice x0b x0n x0c), (.int .i64 x1), (.int .i64 x2)]⟩ h K :=
  cl Try.func75 hS (fun hg hS => lf hg hS) fun hg hS => rt hg hS
end Sx.slices_Delete_apiOpen

namespace Sx.slices_Clone_apiOpen
abbrev L0 : List Sl := [.o 2 .l]
variable (x0b : Option Addr) (x0n x0c : Nat)
variable (K : Value → H → Prop) (h : H)
/-- slices.Clone[[]tympan/api.Open,tympan/api.Open] -/
abbrev asks : Prop := cF L0 (fun Kr => SemH Try.prog (binS .eql 34 (.tmp 3) (.const (.slice none 0 0)) (.slice x0b x0n x0c) (.slice none 0 0)) h fun v1 h2 => vBool v1 fun b3 => cond b3 (Kr none 0 0 h2) (newx h2 #[] 39 fun a4 h5 => SemH Try.prog (Builtin.append_ #[34, 34] 34 ⟨[(.slice (some a4) 0 0), (.slice x0b x0n x0c)]⟩) h5 fun v6 h7 => vSlice v6 fun s8b s8n s8c => Kr s8b s8n s8c h7)) fun y2b y2n y2c h => K (.slice y2b y2n y2c) h
theorem ok (hS : asks x0b x0n x0c K h) : HCalls Try.prog 76 ⟨[(.slice x0b x0n x0c)]⟩ h K :=
  cl Try.func76 hS (fun hg hS => lf hg hS) fun hg hS => rt hg hS
end Sx.slices_Clone_apiOpen
end Go.Proofs
