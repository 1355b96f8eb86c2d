/- The shallow forms of functions, printed by sh.py out of the translation; each with its proof. No condition. -/
import Derived.Test.YtakddeombdgdgaaShQ
import Derived.Test.YtakddeombdgdgaaProg
namespace Go.Proofs
open Go Go.Sh
set_option linter.unusedVariables false
set_option maxRecDepth 100000

namespace Sx.r00_Tokens
abbrev L0 : List Sl := [.o 4 (.i .i64)]
abbrev L3 : List Sl := [.o 5 (.i .i64)]
abbrev L4 : List Sl := [.o 0 .l, .o 1 (.i .i64), .o 5 (.i .i64), .o 6 (.i .i64)]
abbrev L5 : List Sl := [.o 0 .l, .o 1 (.i .i64), .o 5 (.i .i64), .o 6 (.i .i64), .o 7 (.i .i64)]
abbrev L2 : List Sl := [.o 0 .l, .o 1 (.i .i64), .o 5 (.i .i64)]
abbrev L1 : List Sl := [.o 0 .l, .o 1 (.i .i64)]
abbrev T0 := TK L0
abbrev T4 := TK L4
abbrev T3 := TK L3
abbrev T5 := TK L5
variable (x0b : Option Addr) (x0n x0c : Nat) (x1 x5 x6 : Int)
abbrev n4 (Kn Kr : T0) (h : H) : Prop :=
  Kr x5 h
abbrev n10 (Kn : T4) (Ke0 : T3) (Kr : T0) (h : H) : Prop :=
  Rng .i64 (x6 + (1 : Int)) ∧ (Kn x0b x0n x0c x1 x5 (x6 + (1 : Int)) h)
abbrev n15_B (Kn Ke2 Ke1 : T4) (Ke0 : T3) (Kr : T0) : T5 → T5 := fun K4 x0b x0n x0c x1 x5 x6 x7 h => (0 ≤ x6 ∧ x6 < (x0n : Int)) ∧ (vSome x0b fun a1 => ∃ s2b s2n s2c, cell h ((a1.add (Int.toNat x6 * 5)).add 2) = some (.slice s2b s2n s2c) ∧ (Spl (x7 < (s2n : Int)) (Spl (x5 ≤ x1) ((0 ≤ x6 ∧ x6 < (x0n : Int)) ∧ (vSome x0b fun a3 => ∃ s4b s4n s4c, cell h ((a3.add (Int.toNat x6 * 5)).add 2) = some (.slice s4b s4n s4c) ∧ ((0 ≤ x7 ∧ x7 < (s4n : Int)) ∧ (vSome s4b fun a5 => ∃ s6, cell h ((a5.add (Int.toNat x7 * 2)).add 0) = some (S s6) ∧ ((8 : Int) ≠ 0 ∧ (Rng .i64 (Int.tdiv (s6.length : Int) (8 : Int)) ∧ (Rng .i64 ((1 : Int) + (Int.tdiv (s6.length : Int) (8 : Int))) ∧ ((0 ≤ x6 ∧ x6 < (x0n : Int)) ∧ (vSome x0b fun a7 => ∃ s8b s8n s8c, cell h ((a7.add (Int.toNat x6 * 5)).add 2) = some (.slice s8b s8n s8c) ∧ ((0 ≤ x7 ∧ x7 < (s8n : Int)) ∧ (vSome s8b fun a9 => ∃ s10, cell h ((a9.add (Int.toNat x7 * 2)).add 1) = some (S s10) ∧ ((8 : Int) ≠ 0 ∧ (Rng .i64 (Int.tdiv (s10.length : Int) (8 : Int)) ∧ (Rng .i64 (((1 : Int) + (Int.tdiv (s6.length : Int) (8 : Int))) + (Int.tdiv (s10.length : Int) (8 : Int))) ∧ (Rng .i64 (x5 + (((1 : Int) + (Int.tdiv (s6.length : Int) (8 : Int))) + (Int.tdiv (s10.length : Int) (8 : Int)))) ∧ (Rng .i64 (x7 + (1 : Int)) ∧ (K4 x0b x0n x0c x1 (x5 + (((1 : Int) + (Int.tdiv (s6.length : Int) (8 : Int))) + (Int.tdiv (s10.length : Int) (8 : Int)))) x6 (x7 + (1 : Int)) h))))))))))))))))) (Ke2 x0b x0n x0c x1 x5 x6 h)) (Ke2 x0b x0n x0c x1 x5 x6 h)))
abbrev n15_L (Kn Ke2 Ke1 : T4) (Ke0 : T3) (Kr : T0) : Nat → T5 := LP L5 (n15_B Kn Ke2 Ke1 Ke0 Kr)
abbrev n7_B (Kn Ke0 : T3) (Kr : T0) : T4 → T4 := fun K2 x0b x0n x0c x1 x5 x6 h => sqF L4 (fun K7 => Spl (x6 < (x0n : Int)) (Spl (x5 ≤ x1) (K7 x0b x0n x0c x1 x5 x6 h) (Ke0 x5 h)) (Ke0 x5 h)) fun x0b x0n x0c x1 x5 x6 h => sqF L4 (fun K3 => sqF L4 (fun K6 => (0 ≤ x6 ∧ x6 < (x0n : Int)) ∧ (vSome x0b fun a11 => ∃ s12, cell h ((a11.add (Int.toNat x6 * 5)).add 4) = some (S s12) ∧ ((8 : Int) ≠ 0 ∧ (Rng .i64 (Int.tdiv (s12.length : Int) (8 : Int)) ∧ (Rng .i64 ((1 : Int) + (Int.tdiv (s12.length : Int) (8 : Int))) ∧ ((0 ≤ x6 ∧ x6 < (x0n : Int)) ∧ (vSome x0b fun a13 => ∃ s14, cell h ((a13.add (Int.toNat x6 * 5)).add 1) = some (S s14) ∧ ((8 : Int) ≠ 0 ∧ (Rng .i64 (Int.tdiv (s14.length : Int) (8 : Int)) ∧ (Rng .i64 (((1 : Int) + (Int.tdiv (s12.length : Int) (8 : Int))) + (Int.tdiv (s14.length : Int) (8 : Int))) ∧ (Rng .i64 (x5 + (((1 : Int) + (Int.tdiv (s12.length : Int) (8 : Int))) + (Int.tdiv (s14.length : Int) (8 : Int)))) ∧ (K6 x0b x0n x0c x1 (x5 + (((1 : Int) + (Int.tdiv (s12.length : Int) (8 : Int))) + (Int.tdiv (s14.length : Int) (8 : Int)))) x6 h)))))))))))) fun x0b x0n x0c x1 x5 x6 h => sqF L5 (fun K5 => K5 x0b x0n x0c x1 x5 x6 (0 : Int) h) fun x0b x0n x0c x1 x5 x6 x7 h => lpF L5 (n15_B K3 K3 K3 Ke0 Kr) fun K4 => K4 x0b x0n x0c x1 x5 x6 x7 h) fun x0b x0n x0c x1 x5 x6 h => n10 x0b x0n x0c x1 x5 x6 K2 Ke0 Kr h
abbrev n7_L (Kn Ke0 : T3) (Kr : T0) : Nat → T4 := LP L4 (n7_B Kn Ke0 Kr)
variable (K : Value → H → Prop) (h : H)
/-- tympan/tympanref00.Tokens -/
abbrev asks (x0b : Option Addr) (x0n : Nat) (x0c : Nat) (x1 : Int) (K : Value → H → Prop) (h : H) : Prop := cF L0 (fun Kr => sqF L1 (fun K10 => K10 x0b x0n x0c x1 h) fun x0b x0n x0c x1 h => sqF L2 (fun K9 => K9 x0b x0n x0c x1 (0 : Int) h) fun x0b x0n x0c x1 x5 h => sqF L3 (fun K1 => sqF L4 (fun K8 => K8 x0b x0n x0c x1 x5 (0 : Int) h) fun x0b x0n x0c x1 x5 x6 h => lpF L4 (n7_B K1 K1 Kr) fun K2 => K2 x0b x0n x0c x1 x5 x6 h) fun x5 h => n4 x5 Kr Kr h) fun y4 h => K (.int .i64 y4) h
theorem ok (hS : asks x0b x0n x0c x1 K h) : HCalls Try.prog 12 ⟨[(.slice x0b x0n x0c), (.int .i64 x1)]⟩ h K :=
  cl Try.func12 hS (fun hg hS => sq (l := L1) hg hS fun hg hS => sq (l := L2) hg hS fun hg hS => sc (l := L3) hS (fun hS => sq (l := L4) hg hS fun hg hS => bl (b := 0) (lp hg hS fun hg hS => sq (l := L4) hg hS fun hg hS => sc (l := L4) hS (fun hS => bl (b := 1) (sq (l := L4) hg hS fun hg hS => sq (l := L5) hg hS fun hg hS => bl (b := 2) (lp hg hS fun hg hS => lf hg hS))) fun hg hS => lf hg hS)) fun hg hS => lf hg hS) fun hg hS => rt hg hS
end Sx.r00_Tokens

namespace Sx.slices_Backward_apiMark
abbrev L0 : List Sl := [.o 2 .r]
variable (x0b : Option Addr) (x0n x0c : Nat)
variable (K : Value → H → Prop) (h : H)
/-- slices.Backward[[]tympan/api.Mark,tympan/api.Mark] -/
abbrev asks : Prop := cF L0 (fun Kr => newx h #[(.slice x0b x0n x0c)] 35 fun a1 h2 => Kr (.func (.func 59) ⟨[]⟩ ⟨[(.pointer (some a1))]⟩) h2) fun y2 h => K y2 h
theorem ok (hS : asks x0b x0n x0c K h) : HCalls Try.prog 41 ⟨[(.slice x0b x0n x0c)]⟩ h K :=
  cl Try.func41 hS (fun hg hS => lf hg hS) fun hg hS => rt hg hS
end Sx.slices_Backward_apiMark

namespace Sx.slices_Backward_1_apiMark1
abbrev L2 : List Sl := [.o 0 .r, .o 1 .a, .o 3 (.i .i64)]
abbrev L0 : List Sl := []
abbrev T0 := TK L0
abbrev T2 := TK L2
variable (x0 : Value) (x1 : Addr)
abbrev n3_B (Kn Ke0 Kr : T0) : T2 → T2 := fun K1 x0 x1 x3 h => Spl (x3 ≥ (0 : Int)) (∃ s1b s1n s1c, cell h x1 = some (.slice s1b s1n s1c) ∧ ((0 ≤ x3 ∧ x3 < (s1n : Int)) ∧ (vSome s1b fun a2 => ∃ i3, cell h (((a2.add (Int.toNat x3 * 3))).add 0) = some (.int .i64 i3) ∧ (∃ s4, cell h (((a2.add (Int.toNat x3 * 3))).add 1) = some (S s4) ∧ (∃ s5b s5n s5c, cell h (((a2.add (Int.toNat x3 * 3))).add 2) = some (.slice s5b s5n s5c) ∧ (CallV Try.prog 4 x0 ⟨[(.int .i64 x3), (.agg ⟨[(.int .i64 i3), (S s4), (.slice s5b s5n s5c)]⟩)]⟩ h fun v6 h7 => vBool v6 fun b8 => cond b8 (Rng .i64 (x3 - (1 : Int)) ∧ (K1 x0 x1 (x3 - (1 : Int)) h7)) (Kr h7))))))) (Ke0 h)
abbrev n3_L (Kn Ke0 Kr : T0) : Nat → T2 := LP L2 (n3_B Kn Ke0 Kr)
variable (K : Value → H → Prop) (h : H)
/-- slices.Backward[[]tympan/api.Mark,tympan/api.Mark]$1 -/
abbrev asks (x0 : Value) (x1 : Addr) (K : Value → H → Prop) (h : H) : Prop := cF L0 (fun Kr => sqF L2 (fun K2 => ∃ s9b s9n s9c, cell h x1 = some (.slice s9b s9n s9c) ∧ (Rng .i64 ((s9n : Int) - (1 : Int)) ∧ (K2 x0 x1 ((s9n : Int) - (1 : Int)) h))) fun x0 x1 x3 h => lpF L2 (n3_B Kr Kr Kr) fun K1 => K1 x0 x1 x3 h) fun h => K (.tuple ⟨[]⟩) h
theorem ok (hS : asks x0 x1 K h) : HCalls Try.prog 59 ⟨[x0, (.pointer (some x1))]⟩ h K :=
  cl Try.func59 hS (fun hg hS => sq (l := L2) hg hS fun hg hS => bl (b := 0) (lp hg hS fun hg hS => lf hg hS)) fun hg hS => rt hg hS
end Sx.slices_Backward_1_apiMark1

namespace Sx.slices_Clone_apiMark
abbrev L0 : List Sl := [.o 2 .l]
variable (x0b : Option Addr) (x0n x0c : Nat)
variable (K : Value → H → Prop) (h : H)
/-- slices.Clone[[]tympan/api.Mark,tympan/api.Mark] -/
abbrev asks : Prop := cF L0 (fun Kr => SemH Try.prog (binS .eql 35 (.tmp 3) (.const (.slice none 0 0)) (.slice x0b x0n x0c) (.slice none 0 0)) h fun v1 h2 => vBool v1 fun b3 => cond b3 (Kr none 0 0 h2) (newx h2 #[] 49 fun a4 h5 => SemH Try.prog (Builtin.append_ #[35, 35] 35 ⟨[(.slice (some a4) 0 0), (.slice x0b x0n x0c)]⟩) h5 fun v6 h7 => vSlice v6 fun s8b s8n s8c => Kr s8b s8n s8c h7)) fun y2b y2n y2c h => K (.slice y2b y2n y2c) h
theorem ok (hS : asks x0b x0n x0c K h) : HCalls Try.prog 62 ⟨[(.slice x0b x0n x0c)]⟩ h K :=
  cl Try.func62 hS (fun hg hS => lf hg hS) fun hg hS => rt hg hS
end Sx.slices_Clone_apiMark
end Go.Proofs
