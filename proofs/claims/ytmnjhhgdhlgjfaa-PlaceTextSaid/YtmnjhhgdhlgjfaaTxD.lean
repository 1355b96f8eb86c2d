/- The shallow forms of functions, printed by sh.py out of the translation; each with its proof. No condition. -/
import Derived.Test.YtmnjhhgdhlgjfaaShJ
import Derived.Test.YtmnjhhgdhlgjfaaProg
namespace Go.Proofs
open Go Go.Sh
set_option linter.unusedVariables false
set_option maxRecDepth 100000

/-! ### tympan/tympanlaw13.PlaceText -/
namespace Sx.l13_PlaceText
noncomputable def code : Code := bodyOf Try.f3
abbrev T0 := Bool → H → Prop
def E0 (g : Env) (x2 : Bool) : Prop := g.v 2 = (.bool x2) ∧ g.ds = []
def D0 (K : T0) (g : Env) (h : H) : Prop := nilDs g.ds (vBool (g.v 2) fun b1 => K b1 h)
theorem D0_ok {K : T0} {g : Env} {h : H} (hq : D0 K g h) : ∃ (x2 : Bool), E0 g x2 ∧ K x2 h := by
  obtain ⟨hd, hq⟩ := nilDs_ok hq
  obtain ⟨y3, e2, q4⟩ := vBool_ok hq
  exact ⟨y3, ⟨e2, hd⟩, q4⟩
def Q0 (Kn : T0) (Kr : T0) : XPost
  | .normal, g, h => D0 Kn g h
  | .ret, g, h => D0 Kr g h
  | _, _, _ => False
abbrev T1 := (Option Addr) → Nat → Nat → H → Prop
def E1 (g : Env) (x0b : Option Addr) (x0n : Nat) (x0c : Nat) : Prop := g.v 0 = (.slice x0b x0n x0c) ∧ g.ds = []
def D1 (K : T1) (g : Env) (h : H) : Prop := nilDs g.ds (vSlice (g.v 0) fun s5b s5n s5c => K s5b s5n s5c h)
theorem D1_ok {K : T1} {g : Env} {h : H} (hq : D1 K g h) : ∃ (x0b : Option Addr) (x0n : Nat) (x0c : Nat), E1 g x0b x0n x0c ∧ K x0b x0n x0c h := by
  obtain ⟨hd, hq⟩ := nilDs_ok hq
  obtain ⟨y7b, y7n, y7c, e6, q8⟩ := vSlice_ok hq
  exact ⟨y7b, y7n, y7c, ⟨e6, hd⟩, q8⟩
noncomputable def n1_c1 : Code := cFst code
noncomputable def n1_c2 : Code := cSnd code
noncomputable def n2_c1 : Code := cFst n1_c2
noncomputable def n2_c2 : Code := cSnd n1_c2
noncomputable def n3_c1 : Code := cFst n2_c2
noncomputable def n3_c2 : Code := cSnd n2_c2
abbrev T2 := (Option Addr) → Nat → Nat → (Option Addr) → H → Prop
def E2 (g : Env) (x0b : Option Addr) (x0n : Nat) (x0c : Nat) (x3 : Option Addr) : Prop := g.v 0 = (.slice x0b x0n x0c) ∧ g.v 3 = (.pointer x3) ∧ g.ds = []
def D2 (K : T2) (g : Env) (h : H) : Prop := nilDs g.ds (vSlice (g.v 0) fun s9b s9n s9c => vPtr (g.v 3) fun p10 => K s9b s9n s9c p10 h)
theorem D2_ok {K : T2} {g : Env} {h : H} (hq : D2 K g h) : ∃ (x0b : Option Addr) (x0n : Nat) (x0c : Nat) (x3 : Option Addr), E2 g x0b x0n x0c x3 ∧ K x0b x0n x0c x3 h := by
  obtain ⟨hd, hq⟩ := nilDs_ok hq
  obtain ⟨y12b, y12n, y12c, e11, q13⟩ := vSlice_ok hq
  obtain ⟨y15, e14, q16⟩ := vPtr_ok q13
  exact ⟨y12b, y12n, y12c, y15, ⟨e11, e14, hd⟩, q16⟩
noncomputable def n4_c1 : Code := cFst n3_c2
noncomputable def n4_c2 : Code := cSnd n3_c2
abbrev T3 := (Option Addr) → Nat → Nat → (Option Addr) → (List UInt8) → H → Prop
def E3 (g : Env) (x0b : Option Addr) (x0n : Nat) (x0c : Nat) (x3 : Option Addr) (x4 : List UInt8) : Prop := g.v 0 = (.slice x0b x0n x0c) ∧ g.v 3 = (.pointer x3) ∧ g.v 4 = (S x4) ∧ g.ds = []
def D3 (K : T3) (g : Env) (h : H) : Prop := nilDs g.ds (vSlice (g.v 0) fun s17b s17n s17c => vPtr (g.v 3) fun p18 => vStr (g.v 4) fun s19 => K s17b s17n s17c p18 s19 h)
theorem D3_ok {K : T3} {g : Env} {h : H} (hq : D3 K g h) : ∃ (x0b : Option Addr) (x0n : Nat) (x0c : Nat) (x3 : Option Addr) (x4 : List UInt8), E3 g x0b x0n x0c x3 x4 ∧ K x0b x0n x0c x3 x4 h := by
  obtain ⟨hd, hq⟩ := nilDs_ok hq
  obtain ⟨y21b, y21n, y21c, e20, q22⟩ := vSlice_ok hq
  obtain ⟨y24, e23, q25⟩ := vPtr_ok q22
  obtain ⟨y27, e26, q28⟩ := vStr_ok q25
  exact ⟨y21b, y21n, y21c, y24, y27, ⟨e20, e23, e26, hd⟩, q28⟩
noncomputable def n5_c1 : Code := cFst n4_c2
noncomputable def n5_c2 : Code := cSnd n4_c2
abbrev T4 := (Option Addr) → (List UInt8) → H → Prop
def E4 (g : Env) (x3 : Option Addr) (x4 : List UInt8) : Prop := g.v 3 = (.pointer x3) ∧ g.v 4 = (S x4) ∧ g.ds = []
def D4 (K : T4) (g : Env) (h : H) : Prop := nilDs g.ds (vPtr (g.v 3) fun p29 => vStr (g.v 4) fun s30 => K p29 s30 h)
theorem D4_ok {K : T4} {g : Env} {h : H} (hq : D4 K g h) : ∃ (x3 : Option Addr) (x4 : List UInt8), E4 g x3 x4 ∧ K x3 x4 h := by
  obtain ⟨hd, hq⟩ := nilDs_ok hq
  obtain ⟨y32, e31, q33⟩ := vPtr_ok hq
  obtain ⟨y35, e34, q36⟩ := vStr_ok q33
  exact ⟨y32, y35, ⟨e31, e34, hd⟩, q36⟩
abbrev n6 (x3 : Option Addr) (x4 : List UInt8) (Kn : T0) (Kr : T0) (h : H) : Prop :=
  vSome x3 fun a37 => ∃ p38, cell h (a37.add 0) = some (.pointer p38) ∧ (HCalls Try.prog 12 ⟨[(.pointer p38), (.int .i64 (0 : Int))]⟩ h fun v39 h40 => vSlice v39 fun s41b s41n s41c => HCalls Try.prog 11 ⟨[(.slice s41b s41n s41c)]⟩ h40 fun v42 h43 => vStr v42 fun s44 => Spl (s44 = x4) (Kr true h43) (Kr false h43))
theorem n6_ok (x3 : Option Addr) (x4 : List UInt8) (Kn : T0) (Kr : T0) (g : Env) (hg : E4 g x3 x4) (h : H) (hS : n6 x3 x4 Kn Kr h) : wpC none Try.prog 67 n5_c2 (Q0 Kn Kr) g h := by
  obtain ⟨hg3, hg4, hds⟩ := hg
  refine wpC_of_wpx (by kernel_rfl) (by kernel_rfl) (g' := ((⟨g.v, []⟩ : Env).upd (some 3) (.pointer x3)).upd (some 4) (S x4)) (by rw [env_ds hds, upd_self hg3, upd_self hg4]) ?_
  have e : (n6 x3 x4 Kn Kr h) = wpx none Try.prog 67 n5_c2 (Q0 Kn Kr) (((⟨g.v, []⟩ : Env).upd (some 3) (.pointer x3)).upd (some 4) (S x4)) h := by kernel_rfl
  exact e ▸ hS
def Q1 (Kn : T4) (Kr : T0) : XPost
  | .normal, g, h => D4 Kn g h
  | .ret, g, h => D0 Kr g h
  | _, _, _ => False
noncomputable def n7_c1 : Code := cFst n5_c1
noncomputable def n7_c2 : Code := cSnd n5_c1
abbrev T5 := (Option Addr) → Nat → Nat → (Option Addr) → (List UInt8) → Int → H → Prop
def E5 (g : Env) (x0b : Option Addr) (x0n : Nat) (x0c : Nat) (x3 : Option Addr) (x4 : List UInt8) (x5 : Int) : Prop := g.v 0 = (.slice x0b x0n x0c) ∧ g.v 3 = (.pointer x3) ∧ g.v 4 = (S x4) ∧ g.v 5 = (.int .i64 x5) ∧ g.ds = []
def D5 (K : T5) (g : Env) (h : H) : Prop := nilDs g.ds (vSlice (g.v 0) fun s45b s45n s45c => vPtr (g.v 3) fun p46 => vStr (g.v 4) fun s47 => vInt .i64 (g.v 5) fun i48 => K s45b s45n s45c p46 s47 i48 h)
theorem D5_ok {K : T5} {g : Env} {h : H} (hq : D5 K g h) : ∃ (x0b : Option Addr) (x0n : Nat) (x0c : Nat) (x3 : Option Addr) (x4 : List UInt8) (x5 : Int), E5 g x0b x0n x0c x3 x4 x5 ∧ K x0b x0n x0c x3 x4 x5 h := by
  obtain ⟨hd, hq⟩ := nilDs_ok hq
  obtain ⟨y50b, y50n, y50c, e49, q51⟩ := vSlice_ok hq
  obtain ⟨y53, e52, q54⟩ := vPtr_ok q51
  obtain ⟨y56, e55, q57⟩ := vStr_ok q54
  obtain ⟨y59, e58, q60⟩ := vInt_ok q57
  exact ⟨y50b, y50n, y50c, y53, y56, y59, ⟨e49, e52, e55, e58, hd⟩, q60⟩
noncomputable def n8_c1 : Code := cFst n7_c2
def Q2 (Kn : T4) (Ke0 : T4) (Kr : T0) : XPost
  | .normal, g, h => D4 Kn g h
  | .ret, g, h => D0 Kr g h
  | .exit id, g, h => cond (Nat.beq id 0) (D4 Ke0 g h) (False)
  | _, _, _ => False
noncomputable def n9_c1 : Code := cFst n8_c1
def Q3 (Kn : T5) (Ke0 : T4) (Kr : T0) : XPost
  | .normal, g, h => D5 Kn g h
  | .ret, g, h => D0 Kr g h
  | .exit id, g, h => cond (Nat.beq id 0) (D4 Ke0 g h) (False)
  | _, _, _ => False
noncomputable def n10_c1 : Code := cFst n9_c1
noncomputable def n10_c2 : Code := cSnd n9_c1
noncomputable def n11_c1 : Code := cFst n10_c2
noncomputable def n11_c2 : Code := cSnd n10_c2
abbrev n12 (x0b : Option Addr) (x0n : Nat) (x0c : Nat) (x3 : Option Addr) (x4 : List UInt8) (x5 : Int) (Kn : T5) (Ke0 : T4) (Kr : T0) (h : H) : Prop :=
  Rng .i64 (x5 + (1 : Int)) ∧ (Kn x0b x0n x0c x3 x4 (x5 + (1 : Int)) h)
theorem n12_ok (x0b : Option Addr) (x0n : Nat) (x0c : Nat) (x3 : Option Addr) (x4 : List UInt8) (x5 : Int) (Kn : T5) (Ke0 : T4) (Kr : T0) (g : Env) (hg : E5 g x0b x0n x0c x3 x4 x5) (h : H) (hS : n12 x0b x0n x0c x3 x4 x5 Kn Ke0 Kr h) : wpC none Try.prog 67 n11_c2 (Q3 Kn Ke0 Kr) g h := by
  obtain ⟨hg0, hg3, hg4, hg5, hds⟩ := hg
  refine wpC_of_wpx (by kernel_rfl) (by kernel_rfl) (g' := ((((⟨g.v, []⟩ : Env).upd (some 0) (.slice x0b x0n x0c)).upd (some 3) (.pointer x3)).upd (some 4) (S x4)).upd (some 5) (.int .i64 x5)) (by rw [env_ds hds, upd_self hg0, upd_self hg3, upd_self hg4, upd_self hg5]) ?_
  have e : (n12 x0b x0n x0c x3 x4 x5 Kn Ke0 Kr h) = wpx none Try.prog 67 n11_c2 (Q3 Kn Ke0 Kr) (((((⟨g.v, []⟩ : Env).upd (some 0) (.slice x0b x0n x0c)).upd (some 3) (.pointer x3)).upd (some 4) (S x4)).upd (some 5) (.int .i64 x5)) h := by kernel_rfl
  exact e ▸ hS
noncomputable def n13_c1 : Code := cFst n11_c1
def Q4 (Kn : T5) (Ke1 : T5) (Ke0 : T4) (Kr : T0) : XPost
  | .normal, g, h => D5 Kn g h
  | .ret, g, h => D0 Kr g h
  | .exit id, g, h => cond (Nat.beq id 1) (D5 Ke1 g h) (cond (Nat.beq id 0) (D4 Ke0 g h) (False))
  | _, _, _ => False
noncomputable def n14_c1 : Code := cFst n13_c1
noncomputable def n14_c2 : Code := cSnd n13_c1
abbrev n15 (x0b : Option Addr) (x0n : Nat) (x0c : Nat) (x3 : Option Addr) (x4 : List UInt8) (x5 : Int) (Kn : T5) (Ke1 : T5) (Ke0 : T4) (Kr : T0) (h : H) : Prop :=
  (0 ≤ x5 ∧ x5 < (x0n : Int)) ∧ (vSome x0b fun a61 => ∃ s62, cell h (((a61.add (Int.toNat x5 * 9)).add 2).add 4) = some (S s62) ∧ (HCalls Try.prog 9 ⟨[(.pointer x3), (S s62)]⟩ h fun v63 h64 => (0 ≤ x5 ∧ x5 < (x0n : Int)) ∧ (vSome x0b fun a65 => ∃ s66, cell h64 (((a65.add (Int.toNat x5 * 9)).add 2).add 4) = some (S s66) ∧ (((x4.length + s66.length : Nat) : Int) ≤ 9223372036854775807 ∧ ((0 ≤ x5 ∧ x5 < (x0n : Int)) ∧ (vSome x0b fun a67 => ∃ b68, cell h64 ((a67.add (Int.toNat x5 * 9)).add 8) = some (.bool b68) ∧ (cond b68 (vSome x3 fun a69 => ∃ s70b s70n s70c, cell h64 (a69.add 1) = some (.slice s70b s70n s70c) ∧ (Rng .i64 ((s70n : Int) - (1 : Int)) ∧ (HCalls Try.prog 10 ⟨[(.pointer x3), (.int .i64 ((s70n : Int) - (1 : Int)))]⟩ h64 fun v71 h72 => Kn x0b x0n x0c x3 (x4 ++ s66) x5 h72))) (Kn x0b x0n x0c x3 (x4 ++ s66) x5 h64))))))))
theorem n15_ok (x0b : Option Addr) (x0n : Nat) (x0c : Nat) (x3 : Option Addr) (x4 : List UInt8) (x5 : Int) (Kn : T5) (Ke1 : T5) (Ke0 : T4) (Kr : T0) (g : Env) (hg : E5 g x0b x0n x0c x3 x4 x5) (h : H) (hS : n15 x0b x0n x0c x3 x4 x5 Kn Ke1 Ke0 Kr h) : wpC none Try.prog 67 n14_c2 (Q4 Kn Ke1 Ke0 Kr) g h := by
  obtain ⟨hg0, hg3, hg4, hg5, hds⟩ := hg
  refine wpC_of_wpx (by kernel_rfl) (by kernel_rfl) (g' := ((((⟨g.v, []⟩ : Env).upd (some 0) (.slice x0b x0n x0c)).upd (some 3) (.pointer x3)).upd (some 4) (S x4)).upd (some 5) (.int .i64 x5)) (by rw [env_ds hds, upd_self hg0, upd_self hg3, upd_self hg4, upd_self hg5]) ?_
  have e : (n15 x0b x0n x0c x3 x4 x5 Kn Ke1 Ke0 Kr h) = wpx none Try.prog 67 n14_c2 (Q4 Kn Ke1 Ke0 Kr) (((((⟨g.v, []⟩ : Env).upd (some 0) (.slice x0b x0n x0c)).upd (some 3) (.pointer x3)).upd (some 4) (S x4)).upd (some 5) (.int .i64 x5)) h := by kernel_rfl
  exact e ▸ hS
abbrev n14 (x0b : Option Addr) (x0n : Nat) (x0c : Nat) (x3 : Option Addr) (x4 : List UInt8) (x5 : Int) (Kn : T5) (Ke1 : T5) (Ke0 : T4) (Kr : T0) (h : H) : Prop :=
  (0 ≤ x5 ∧ x5 < (x0n : Int)) ∧ (vSome x0b fun a73 => ∃ i74, cell h ((a73.add (Int.toNat x5 * 9)).add 0) = some (.int .u8 i74) ∧ ((2 : Int) ≠ 0 ∧ (Spl ((Int.tmod i74 (2 : Int)) = (0 : Int)) (HCalls Try.prog 8 ⟨[(.pointer x3), (.int .u8 (0 : Int)), (.agg ⟨[(.int .u8 (0 : Int)), (S ([120] : List UInt8)), (.slice none 0 0), (.bool false), (S ([] : List UInt8))]⟩)]⟩ h fun v75 h76 => vInt .i64 v75 fun i77 => n15 x0b x0n x0c x3 x4 x5 Kn Ke1 Ke0 Kr h76) (n15 x0b x0n x0c x3 x4 x5 Kn Ke1 Ke0 Kr h))))
theorem n14_ok (x0b : Option Addr) (x0n : Nat) (x0c : Nat) (x3 : Option Addr) (x4 : List UInt8) (x5 : Int) (Kn : T5) (Ke1 : T5) (Ke0 : T4) (Kr : T0) (g : Env) (hg : E5 g x0b x0n x0c x3 x4 x5) (h : H) (hS : n14 x0b x0n x0c x3 x4 x5 Kn Ke1 Ke0 Kr h) : wpC none Try.prog 67 n13_c1 (Q4 Kn Ke1 Ke0 Kr) g h := by
  obtain ⟨hg0, hg3, hg4, hg5, hds⟩ := hg
  refine wpC_seq' (x := n14_c1) (y := n14_c2) (Q' := (Q4 (fun z0b z0n z0c z3 z4 z5 h => n15 z0b z0n z0c z3 z4 z5 Kn Ke1 Ke0 Kr h) Ke1 Ke0 Kr)) (by kernel_rfl) ?_ ?_
  · refine wpC_of_wpx (by kernel_rfl) (by kernel_rfl) (g' := ((((⟨g.v, []⟩ : Env).upd (some 0) (.slice x0b x0n x0c)).upd (some 3) (.pointer x3)).upd (some 4) (S x4)).upd (some 5) (.int .i64 x5)) (by rw [env_ds hds, upd_self hg0, upd_self hg3, upd_self hg4, upd_self hg5]) ?_
    have e : (n14 x0b x0n x0c x3 x4 x5 Kn Ke1 Ke0 Kr h) = wpx none Try.prog 67 n14_c1 (Q4 (fun z0b z0n z0c z3 z4 z5 h => n15 z0b z0n z0c z3 z4 z5 Kn Ke1 Ke0 Kr h) Ke1 Ke0 Kr) (((((⟨g.v, []⟩ : Env).upd (some 0) (.slice x0b x0n x0c)).upd (some 3) (.pointer x3)).upd (some 4) (S x4)).upd (some 5) (.int .i64 x5)) h := by kernel_rfl
    exact e ▸ hS
  · intro e g' h' hq
    cases e with
    | normal =>
      have hq : D5 (fun z0b z0n z0c z3 z4 z5 h => n15 z0b z0n z0c z3 z4 z5 Kn Ke1 Ke0 Kr h) g' h' := hq
      obtain ⟨y0b, y0n, y0c, y3, y4, y5, hg', hq⟩ := D5_ok hq
      exact n15_ok y0b y0n y0c y3 y4 y5 Kn Ke1 Ke0 Kr g' hg' h' hq
    | _ => exact hq
abbrev n13 (x0b : Option Addr) (x0n : Nat) (x0c : Nat) (x3 : Option Addr) (x4 : List UInt8) (x5 : Int) (Kn : T5) (Ke0 : T4) (Kr : T0) (h : H) : Prop := n14 x0b x0n x0c x3 x4 x5 Kn Kn Ke0 Kr h
theorem n13_ok (x0b : Option Addr) (x0n : Nat) (x0c : Nat) (x3 : Option Addr) (x4 : List UInt8) (x5 : Int) (Kn : T5) (Ke0 : T4) (Kr : T0) (g : Env) (hg : E5 g x0b x0n x0c x3 x4 x5) (h : H) (hS : n13 x0b x0n x0c x3 x4 x5 Kn Ke0 Kr h) : wpC none Try.prog 67 n11_c1 (Q3 Kn Ke0 Kr) g h := by
  refine wpC_block' (id := 1) (x := n13_c1) (by kernel_rfl) (n14_ok x0b x0n x0c x3 x4 x5 Kn Kn Ke0 Kr g hg h hS) ?_
  intro e g' h' hq
  cases e <;> exact hq
abbrev n11 (x0b : Option Addr) (x0n : Nat) (x0c : Nat) (x3 : Option Addr) (x4 : List UInt8) (x5 : Int) (Kn : T5) (Ke0 : T4) (Kr : T0) (h : H) : Prop := n13 x0b x0n x0c x3 x4 x5 (fun z0b z0n z0c z3 z4 z5 h => n12 z0b z0n z0c z3 z4 z5 Kn Ke0 Kr h) Ke0 Kr h
theorem n11_ok (x0b : Option Addr) (x0n : Nat) (x0c : Nat) (x3 : Option Addr) (x4 : List UInt8) (x5 : Int) (Kn : T5) (Ke0 : T4) (Kr : T0) (g : Env) (hg : E5 g x0b x0n x0c x3 x4 x5) (h : H) (hS : n11 x0b x0n x0c x3 x4 x5 Kn Ke0 Kr h) : wpC none Try.prog 67 n10_c2 (Q3 Kn Ke0 Kr) g h := by
  refine wpC_seq' (x := n11_c1) (y := n11_c2) (by kernel_rfl) (n13_ok x0b x0n x0c x3 x4 x5 (fun z0b z0n z0c z3 z4 z5 h => n12 z0b z0n z0c z3 z4 z5 Kn Ke0 Kr h) Ke0 Kr g hg h hS) ?_
  intro e g' h' hq
  cases e with
  | normal =>
    have hq : D5 (fun z0b z0n z0c z3 z4 z5 h => n12 z0b z0n z0c z3 z4 z5 Kn Ke0 Kr h) g' h' := hq
    obtain ⟨y0b, y0n, y0c, y3, y4, y5, hg', hq⟩ := D5_ok hq
    exact n12_ok y0b y0n y0c y3 y4 y5 Kn Ke0 Kr g' hg' h' hq
  | _ => exact hq
abbrev n10 (x0b : Option Addr) (x0n : Nat) (x0c : Nat) (x3 : Option Addr) (x4 : List UInt8) (x5 : Int) (Kn : T5) (Ke0 : T4) (Kr : T0) (h : H) : Prop :=
  Spl (x5 < (x0n : Int)) (n11 x0b x0n x0c x3 x4 x5 Kn Ke0 Kr h) (Ke0 x3 x4 h)
theorem n10_ok (x0b : Option Addr) (x0n : Nat) (x0c : Nat) (x3 : Option Addr) (x4 : List UInt8) (x5 : Int) (Kn : T5) (Ke0 : T4) (Kr : T0) (g : Env) (hg : E5 g x0b x0n x0c x3 x4 x5) (h : H) (hS : n10 x0b x0n x0c x3 x4 x5 Kn Ke0 Kr h) : wpC none Try.prog 67 n9_c1 (Q3 Kn Ke0 Kr) g h := by
  obtain ⟨hg0, hg3, hg4, hg5, hds⟩ := hg
  refine wpC_seq' (x := n10_c1) (y := n10_c2) (Q' := (Q3 (fun z0b z0n z0c z3 z4 z5 h => n11 z0b z0n z0c z3 z4 z5 Kn Ke0 Kr h) Ke0 Kr)) (by kernel_rfl) ?_ ?_
  · refine wpC_of_wpx (by kernel_rfl) (by kernel_rfl) (g' := ((((⟨g.v, []⟩ : Env).upd (some 0) (.slice x0b x0n x0c)).upd (some 3) (.pointer x3)).upd (some 4) (S x4)).upd (some 5) (.int .i64 x5)) (by rw [env_ds hds, upd_self hg0, upd_self hg3, upd_self hg4, upd_self hg5]) ?_
    have e : (n10 x0b x0n x0c x3 x4 x5 Kn Ke0 Kr h) = wpx none Try.prog 67 n10_c1 (Q3 (fun z0b z0n z0c z3 z4 z5 h => n11 z0b z0n z0c z3 z4 z5 Kn Ke0 Kr h) Ke0 Kr) (((((⟨g.v, []⟩ : Env).upd (some 0) (.slice x0b x0n x0c)).upd (some 3) (.pointer x3)).upd (some 4) (S x4)).upd (some 5) (.int .i64 x5)) h := by kernel_rfl
    exact e ▸ hS
  · intro e g' h' hq
    cases e with
    | normal =>
      have hq : D5 (fun z0b z0n z0c z3 z4 z5 h => n11 z0b z0n z0c z3 z4 z5 Kn Ke0 Kr h) g' h' := hq
      obtain ⟨y0b, y0n, y0c, y3, y4, y5, hg', hq⟩ := D5_ok hq
      exact n11_ok y0b y0n y0c y3 y4 y5 Kn Ke0 Kr g' hg' h' hq
    | _ => exact hq
def n9_L (Kn : T4) (Ke0 : T4) (Kr : T0) : Nat → (Option Addr) → Nat → Nat → (Option Addr) → (List UInt8) → Int → H → Prop
  | 0 => fun _ _ _ _ _ _ _ => False
  | N + 1 => fun x0b x0n x0c x3 x4 x5 h => n10 x0b x0n x0c x3 x4 x5 (fun z0b z0n z0c z3 z4 z5 h => n9_L Kn Ke0 Kr N z0b z0n z0c z3 z4 z5 h) Ke0 Kr h
abbrev n9 (x0b : Option Addr) (x0n : Nat) (x0c : Nat) (x3 : Option Addr) (x4 : List UInt8) (x5 : Int) (Kn : T4) (Ke0 : T4) (Kr : T0) (h : H) : Prop := ∃ N, n9_L Kn Ke0 Kr N x0b x0n x0c x3 x4 x5 h
theorem n9_ok (x0b : Option Addr) (x0n : Nat) (x0c : Nat) (x3 : Option Addr) (x4 : List UInt8) (x5 : Int) (Kn : T4) (Ke0 : T4) (Kr : T0) (g : Env) (hg : E5 g x0b x0n x0c x3 x4 x5) (h : H) (hS : n9 x0b x0n x0c x3 x4 x5 Kn Ke0 Kr h) : wpC none Try.prog 67 n8_c1 (Q2 Kn Ke0 Kr) g h := by
  obtain ⟨N0, hS⟩ := hS
  refine wpC_loop' (x := n9_c1) (by kernel_rfl) (fun k g h => ∃ (x0b : Option Addr) (x0n : Nat) (x0c : Nat) (x3 : Option Addr) (x4 : List UInt8) (x5 : Int), E5 g x0b x0n x0c x3 x4 x5 ∧ n9_L Kn Ke0 Kr k x0b x0n x0c x3 x4 x5 h) (fun g h hr => ?_) (fun N g h hr => ?_) N0 ⟨x0b, x0n, x0c, x3, x4, x5, hg, hS⟩
  · obtain ⟨x0b, x0n, x0c, x3, x4, x5, hg, hS⟩ := hr
    exact hS.elim
  · obtain ⟨x0b, x0n, x0c, x3, x4, x5, hg, hS⟩ := hr
    refine (n10_ok x0b x0n x0c x3 x4 x5 (fun z0b z0n z0c z3 z4 z5 h => n9_L Kn Ke0 Kr N z0b z0n z0c z3 z4 z5 h) Ke0 Kr g hg h hS).mono ?_
    intro e g' h' hq
    cases e with
    | normal => exact D5_ok (K := (fun z0b z0n z0c z3 z4 z5 h => n9_L Kn Ke0 Kr N z0b z0n z0c z3 z4 z5 h)) hq
    | _ => exact hq
abbrev n8 (x0b : Option Addr) (x0n : Nat) (x0c : Nat) (x3 : Option Addr) (x4 : List UInt8) (x5 : Int) (Kn : T4) (Kr : T0) (h : H) : Prop := n9 x0b x0n x0c x3 x4 x5 Kn Kn Kr h
theorem n8_ok (x0b : Option Addr) (x0n : Nat) (x0c : Nat) (x3 : Option Addr) (x4 : List UInt8) (x5 : Int) (Kn : T4) (Kr : T0) (g : Env) (hg : E5 g x0b x0n x0c x3 x4 x5) (h : H) (hS : n8 x0b x0n x0c x3 x4 x5 Kn Kr h) : wpC none Try.prog 67 n7_c2 (Q1 Kn Kr) g h := by
  refine wpC_block' (id := 0) (x := n8_c1) (by kernel_rfl) (n9_ok x0b x0n x0c x3 x4 x5 Kn Kn Kr g hg h hS) ?_
  intro e g' h' hq
  cases e <;> exact hq
def Q5 (Kn : T5) (Kr : T0) : XPost
  | .normal, g, h => D5 Kn g h
  | .ret, g, h => D0 Kr g h
  | _, _, _ => False
abbrev n7 (x0b : Option Addr) (x0n : Nat) (x0c : Nat) (x3 : Option Addr) (x4 : List UInt8) (Kn : T4) (Kr : T0) (h : H) : Prop :=
  n8 x0b x0n x0c x3 x4 (0 : Int) Kn Kr h
theorem n7_ok (x0b : Option Addr) (x0n : Nat) (x0c : Nat) (x3 : Option Addr) (x4 : List UInt8) (Kn : T4) (Kr : T0) (g : Env) (hg : E3 g x0b x0n x0c x3 x4) (h : H) (hS : n7 x0b x0n x0c x3 x4 Kn Kr h) : wpC none Try.prog 67 n5_c1 (Q1 Kn Kr) g h := by
  obtain ⟨hg0, hg3, hg4, hds⟩ := hg
  refine wpC_seq' (x := n7_c1) (y := n7_c2) (Q' := (Q5 (fun z0b z0n z0c z3 z4 z5 h => n8 z0b z0n z0c z3 z4 z5 Kn Kr h) Kr)) (by kernel_rfl) ?_ ?_
  · refine wpC_of_wpx (by kernel_rfl) (by kernel_rfl) (g' := (((⟨g.v, []⟩ : Env).upd (some 0) (.slice x0b x0n x0c)).upd (some 3) (.pointer x3)).upd (some 4) (S x4)) (by rw [env_ds hds, upd_self hg0, upd_self hg3, upd_self hg4]) ?_
    have e : (n7 x0b x0n x0c x3 x4 Kn Kr h) = wpx none Try.prog 67 n7_c1 (Q5 (fun z0b z0n z0c z3 z4 z5 h => n8 z0b z0n z0c z3 z4 z5 Kn Kr h) Kr) ((((⟨g.v, []⟩ : Env).upd (some 0) (.slice x0b x0n x0c)).upd (some 3) (.pointer x3)).upd (some 4) (S x4)) h := by kernel_rfl
    exact e ▸ hS
  · intro e g' h' hq
    cases e with
    | normal =>
      have hq : D5 (fun z0b z0n z0c z3 z4 z5 h => n8 z0b z0n z0c z3 z4 z5 Kn Kr h) g' h' := hq
      obtain ⟨y0b, y0n, y0c, y3, y4, y5, hg', hq⟩ := D5_ok hq
      exact n8_ok y0b y0n y0c y3 y4 y5 Kn Kr g' hg' h' hq
    | _ => exact hq
abbrev n5 (x0b : Option Addr) (x0n : Nat) (x0c : Nat) (x3 : Option Addr) (x4 : List UInt8) (Kn : T0) (Kr : T0) (h : H) : Prop := n7 x0b x0n x0c x3 x4 (fun z3 z4 h => n6 z3 z4 Kn Kr h) Kr h
theorem n5_ok (x0b : Option Addr) (x0n : Nat) (x0c : Nat) (x3 : Option Addr) (x4 : List UInt8) (Kn : T0) (Kr : T0) (g : Env) (hg : E3 g x0b x0n x0c x3 x4) (h : H) (hS : n5 x0b x0n x0c x3 x4 Kn Kr h) : wpC none Try.prog 67 n4_c2 (Q0 Kn Kr) g h := by
  refine wpC_seq' (x := n5_c1) (y := n5_c2) (by kernel_rfl) (n7_ok x0b x0n x0c x3 x4 (fun z3 z4 h => n6 z3 z4 Kn Kr h) Kr g hg h hS) ?_
  intro e g' h' hq
  cases e with
  | normal =>
    have hq : D4 (fun z3 z4 h => n6 z3 z4 Kn Kr h) g' h' := hq
    obtain ⟨y3, y4, hg', hq⟩ := D4_ok hq
    exact n6_ok y3 y4 Kn Kr g' hg' h' hq
  | _ => exact hq
def Q6 (Kn : T3) (Kr : T0) : XPost
  | .normal, g, h => D3 Kn g h
  | .ret, g, h => D0 Kr g h
  | _, _, _ => False
abbrev n4 (x0b : Option Addr) (x0n : Nat) (x0c : Nat) (x3 : Option Addr) (Kn : T0) (Kr : T0) (h : H) : Prop :=
  n5 x0b x0n x0c x3 ([] : List UInt8) Kn Kr h
theorem n4_ok (x0b : Option Addr) (x0n : Nat) (x0c : Nat) (x3 : Option Addr) (Kn : T0) (Kr : T0) (g : Env) (hg : E2 g x0b x0n x0c x3) (h : H) (hS : n4 x0b x0n x0c x3 Kn Kr h) : wpC none Try.prog 67 n3_c2 (Q0 Kn Kr) g h := by
  obtain ⟨hg0, hg3, hds⟩ := hg
  refine wpC_seq' (x := n4_c1) (y := n4_c2) (Q' := (Q6 (fun z0b z0n z0c z3 z4 h => n5 z0b z0n z0c z3 z4 Kn Kr h) Kr)) (by kernel_rfl) ?_ ?_
  · refine wpC_of_wpx (by kernel_rfl) (by kernel_rfl) (g' := ((⟨g.v, []⟩ : Env).upd (some 0) (.slice x0b x0n x0c)).upd (some 3) (.pointer x3)) (by rw [env_ds hds, upd_self hg0, upd_self hg3]) ?_
    have e : (n4 x0b x0n x0c x3 Kn Kr h) = wpx none Try.prog 67 n4_c1 (Q6 (fun z0b z0n z0c z3 z4 h => n5 z0b z0n z0c z3 z4 Kn Kr h) Kr) (((⟨g.v, []⟩ : Env).upd (some 0) (.slice x0b x0n x0c)).upd (some 3) (.pointer x3)) h := by kernel_rfl
    exact e ▸ hS
  · intro e g' h' hq
    cases e with
    | normal =>
      have hq : D3 (fun z0b z0n z0c z3 z4 h => n5 z0b z0n z0c z3 z4 Kn Kr h) g' h' := hq
      obtain ⟨y0b, y0n, y0c, y3, y4, hg', hq⟩ := D3_ok hq
      exact n5_ok y0b y0n y0c y3 y4 Kn Kr g' hg' h' hq
    | _ => exact hq
def Q7 (Kn : T2) (Kr : T0) : XPost
  | .normal, g, h => D2 Kn g h
  | .ret, g, h => D0 Kr g h
  | _, _, _ => False
abbrev n3 (x0b : Option Addr) (x0n : Nat) (x0c : Nat) (Kn : T0) (Kr : T0) (h : H) : Prop :=
  HCalls Try.prog 7 ⟨[]⟩ h fun v78 h79 => vPtr v78 fun p80 => n4 x0b x0n x0c p80 Kn Kr h79
theorem n3_ok (x0b : Option Addr) (x0n : Nat) (x0c : Nat) (Kn : T0) (Kr : T0) (g : Env) (hg : E1 g x0b x0n x0c) (h : H) (hS : n3 x0b x0n x0c Kn Kr h) : wpC none Try.prog 67 n2_c2 (Q0 Kn Kr) g h := by
  obtain ⟨hg0, hds⟩ := hg
  refine wpC_seq' (x := n3_c1) (y := n3_c2) (Q' := (Q7 (fun z0b z0n z0c z3 h => n4 z0b z0n z0c z3 Kn Kr h) Kr)) (by kernel_rfl) ?_ ?_
  · refine wpC_of_wpx (by kernel_rfl) (by kernel_rfl) (g' := (⟨g.v, []⟩ : Env).upd (some 0) (.slice x0b x0n x0c)) (by rw [env_ds hds, upd_self hg0]) ?_
    have e : (n3 x0b x0n x0c Kn Kr h) = wpx none Try.prog 67 n3_c1 (Q7 (fun z0b z0n z0c z3 h => n4 z0b z0n z0c z3 Kn Kr h) Kr) ((⟨g.v, []⟩ : Env).upd (some 0) (.slice x0b x0n x0c)) h := by kernel_rfl
    exact e ▸ hS
  · intro e g' h' hq
    cases e with
    | normal =>
      have hq : D2 (fun z0b z0n z0c z3 h => n4 z0b z0n z0c z3 Kn Kr h) g' h' := hq
      obtain ⟨y0b, y0n, y0c, y3, hg', hq⟩ := D2_ok hq
      exact n4_ok y0b y0n y0c y3 Kn Kr g' hg' h' hq
    | _ => exact hq
def Q8 (Kn : T1) (Kr : T0) : XPost
  | .normal, g, h => D1 Kn g h
  | .ret, g, h => D0 Kr g h
  | _, _, _ => False
abbrev n2 (x0b : Option Addr) (x0n : Nat) (x0c : Nat) (Kn : T0) (Kr : T0) (h : H) : Prop :=
  HCalls Try.prog 5 ⟨[(.slice x0b x0n x0c)]⟩ h fun v81 h82 => vBool v81 fun b83 => cond b83 (HCalls Try.prog 6 ⟨[]⟩ h82 fun v84 h85 => vBool v84 fun b86 => cond b86 (Kr true h85) (Kr false h85)) (HCalls Try.prog 6 ⟨[]⟩ h82 fun v87 h88 => vBool v87 fun b89 => cond b89 (n3 x0b x0n x0c Kn Kr h88) (HCalls Try.prog 6 ⟨[]⟩ h88 fun v90 h91 => vBool v90 fun b92 => cond b92 (Kr true h91) (Kr false h91)))
theorem n2_ok (x0b : Option Addr) (x0n : Nat) (x0c : Nat) (Kn : T0) (Kr : T0) (g : Env) (hg : E1 g x0b x0n x0c) (h : H) (hS : n2 x0b x0n x0c Kn Kr h) : wpC none Try.prog 67 n1_c2 (Q0 Kn Kr) g h := by
  obtain ⟨hg0, hds⟩ := hg
  refine wpC_seq' (x := n2_c1) (y := n2_c2) (Q' := (Q8 (fun z0b z0n z0c h => n3 z0b z0n z0c Kn Kr h) Kr)) (by kernel_rfl) ?_ ?_
  · refine wpC_of_wpx (by kernel_rfl) (by kernel_rfl) (g' := (⟨g.v, []⟩ : Env).upd (some 0) (.slice x0b x0n x0c)) (by rw [env_ds hds, upd_self hg0]) ?_
    have e : (n2 x0b x0n x0c Kn Kr h) = wpx none Try.prog 67 n2_c1 (Q8 (fun z0b z0n z0c h => n3 z0b z0n z0c Kn Kr h) Kr) ((⟨g.v, []⟩ : Env).upd (some 0) (.slice x0b x0n x0c)) h := by kernel_rfl
    exact e ▸ hS
  · intro e g' h' hq
    cases e with
    | normal =>
      have hq : D1 (fun z0b z0n z0c h => n3 z0b z0n z0c Kn Kr h) g' h' := hq
      obtain ⟨y0b, y0n, y0c, hg', hq⟩ := D1_ok hq
      exact n3_ok y0b y0n y0c Kn Kr g' hg' h' hq
    | _ => exact hq
abbrev n1 (x0b : Option Addr) (x0n : Nat) (x0c : Nat) (Kn : T0) (Kr : T0) (h : H) : Prop :=
  n2 x0b x0n x0c Kn Kr h
theorem n1_ok (x0b : Option Addr) (x0n : Nat) (x0c : Nat) (Kn : T0) (Kr : T0) (g : Env) (hg : E1 g x0b x0n x0c) (h : H) (hS : n1 x0b x0n x0c Kn Kr h) : wpC none Try.prog 67 code (Q0 Kn Kr) g h := by
  obtain ⟨hg0, hds⟩ := hg
  refine wpC_seq' (x := n1_c1) (y := n1_c2) (Q' := (Q8 (fun z0b z0n z0c h => n2 z0b z0n z0c Kn Kr h) Kr)) (by kernel_rfl) ?_ ?_
  · refine wpC_of_wpx (by kernel_rfl) (by kernel_rfl) (g' := (⟨g.v, []⟩ : Env).upd (some 0) (.slice x0b x0n x0c)) (by rw [env_ds hds, upd_self hg0]) ?_
    have e : (n1 x0b x0n x0c Kn Kr h) = wpx none Try.prog 67 n1_c1 (Q8 (fun z0b z0n z0c h => n2 z0b z0n z0c Kn Kr h) Kr) ((⟨g.v, []⟩ : Env).upd (some 0) (.slice x0b x0n x0c)) h := by kernel_rfl
    exact e ▸ hS
  · intro e g' h' hq
    cases e with
    | normal =>
      have hq : D1 (fun z0b z0n z0c h => n2 z0b z0n z0c Kn Kr h) g' h' := hq
      obtain ⟨y0b, y0n, y0c, hg', hq⟩ := D1_ok hq
      exact n2_ok y0b y0n y0c Kn Kr g' hg' h' hq
    | _ => exact hq
/-- WHAT tympan/tympanlaw13.PlaceText ASKS -/
abbrev asks (x0b : Option Addr) (x0n : Nat) (x0c : Nat) (K : Value → H → Prop) (h : H) : Prop := n1 x0b x0n x0c (fun y2 h => K (.bool y2) h) (fun y2 h => K (.bool y2) h) h
theorem ok (x0b : Option Addr) (x0n : Nat) (x0c : Nat) (K : Value → H → Prop) (h : H) (hS : asks x0b x0n x0c K h) : HCalls Try.prog 3 ⟨[(.slice x0b x0n x0c)]⟩ h K := by
  refine calls_of_wpC (c := code) Try.func3 (by kernel_rfl) (Nat.le_of_ble_eq_true (by kernel_rfl)) ?_
  refine (n1_ok x0b x0n x0c (fun y2 h => K (.bool y2) h) (fun y2 h => K (.bool y2) h) (env0 [(.slice x0b x0n x0c)]) ⟨rfl, rfl⟩ h hS).mono ?_
  intro e g' h' hq
  cases e with
  | normal =>
    have hq : D0 (fun y2 h => K (.bool y2) h) g' h' := hq
    obtain ⟨y2, ⟨hg2, hd⟩, hq⟩ := D0_ok hq
    show leaveX g'.ds h' _
    rw [hd]
    show K (g'.v 2) h'
    rw [hg2]
    exact hq
  | ret =>
    have hq : D0 (fun y2 h => K (.bool y2) h) g' h' := hq
    obtain ⟨y2, ⟨hg2, hd⟩, hq⟩ := D0_ok hq
    show leaveX g'.ds h' _
    rw [hd]
    show K (g'.v 2) h'
    rw [hg2]
    exact hq
  | _ => exact hq
end Sx.l13_PlaceText

/-! ### tympan/tympanlaw13.PlaceHolds -/
namespace Sx.l13_PlaceHolds
noncomputable def code : Code := bodyOf Try.f4
abbrev T0 := Bool → H → Prop
def E0 (g : Env) (x2 : Bool) : Prop := g.v 2 = (.bool x2) ∧ g.ds = []
def D0 (K : T0) (g : Env) (h : H) : Prop := nilDs g.ds (vBool (g.v 2) fun b1 => K b1 h)
theorem D0_ok {K : T0} {g : Env} {h : H} (hq : D0 K g h) : ∃ (x2 : Bool), E0 g x2 ∧ K x2 h := by
  obtain ⟨hd, hq⟩ := nilDs_ok hq
  obtain ⟨y3, e2, q4⟩ := vBool_ok hq
  exact ⟨y3, ⟨e2, hd⟩, q4⟩
def Q0 (Kn : T0) (Kr : T0) : XPost
  | .normal, g, h => D0 Kn g h
  | .ret, g, h => D0 Kr g h
  | _, _, _ => False
abbrev T1 := (Option Addr) → Nat → Nat → H → Prop
def E1 (g : Env) (x0b : Option Addr) (x0n : Nat) (x0c : Nat) : Prop := g.v 0 = (.slice x0b x0n x0c) ∧ g.ds = []
def D1 (K : T1) (g : Env) (h : H) : Prop := nilDs g.ds (vSlice (g.v 0) fun s5b s5n s5c => K s5b s5n s5c h)
theorem D1_ok {K : T1} {g : Env} {h : H} (hq : D1 K g h) : ∃ (x0b : Option Addr) (x0n : Nat) (x0c : Nat), E1 g x0b x0n x0c ∧ K x0b x0n x0c h := by
  obtain ⟨hd, hq⟩ := nilDs_ok hq
  obtain ⟨y7b, y7n, y7c, e6, q8⟩ := vSlice_ok hq
  exact ⟨y7b, y7n, y7c, ⟨e6, hd⟩, q8⟩
noncomputable def n1_c1 : Code := cFst code
noncomputable def n1_c2 : Code := cSnd code
noncomputable def n2_c1 : Code := cFst n1_c2
noncomputable def n2_c2 : Code := cSnd n1_c2
noncomputable def n3_c1 : Code := cFst n2_c2
noncomputable def n3_c2 : Code := cSnd n2_c2
abbrev T2 := (Option Addr) → Nat → Nat → (Option Addr) → H → Prop
def E2 (g : Env) (x0b : Option Addr) (x0n : Nat) (x0c : Nat) (x3 : Option Addr) : Prop := g.v 0 = (.slice x0b x0n x0c) ∧ g.v 3 = (.pointer x3) ∧ g.ds = []
def D2 (K : T2) (g : Env) (h : H) : Prop := nilDs g.ds (vSlice (g.v 0) fun s9b s9n s9c => vPtr (g.v 3) fun p10 => K s9b s9n s9c p10 h)
theorem D2_ok {K : T2} {g : Env} {h : H} (hq : D2 K g h) : ∃ (x0b : Option Addr) (x0n : Nat) (x0c : Nat) (x3 : Option Addr), E2 g x0b x0n x0c x3 ∧ K x0b x0n x0c x3 h := by
  obtain ⟨hd, hq⟩ := nilDs_ok hq
  obtain ⟨y12b, y12n, y12c, e11, q13⟩ := vSlice_ok hq
  obtain ⟨y15, e14, q16⟩ := vPtr_ok q13
  exact ⟨y12b, y12n, y12c, y15, ⟨e11, e14, hd⟩, q16⟩
noncomputable def n4_c1 : Code := cFst n3_c2
noncomputable def n4_c2 : Code := cSnd n3_c2
abbrev T3 := H → Prop
def E3 (g : Env)  : Prop := g.ds = []
def D3 (K : T3) (g : Env) (h : H) : Prop := nilDs g.ds (K h)
theorem D3_ok {K : T3} {g : Env} {h : H} (hq : D3 K g h) : E3 g  ∧ K  h := by
  obtain ⟨hd, hq⟩ := nilDs_ok hq
  skip
  exact ⟨hd, hq⟩
abbrev n5  (Kn : T0) (Kr : T0) (h : H) : Prop :=
  Kr true h
theorem n5_ok  (Kn : T0) (Kr : T0) (g : Env) (hg : E3 g ) (h : H) (hS : n5  Kn Kr h) : wpC none Try.prog 150 n4_c2 (Q0 Kn Kr) g h := by
  have hds : g.ds = [] := hg
  refine wpC_of_wpx (by kernel_rfl) (by kernel_rfl) (g' := ⟨g.v, []⟩) (by rw [env_ds hds]) ?_
  have e : (n5  Kn Kr h) = wpx none Try.prog 150 n4_c2 (Q0 Kn Kr) (⟨g.v, []⟩) h := by kernel_rfl
  exact e ▸ hS
def Q1 (Kn : T3) (Kr : T0) : XPost
  | .normal, g, h => D3 Kn g h
  | .ret, g, h => D0 Kr g h
  | _, _, _ => False
noncomputable def n6_c1 : Code := cFst n4_c1
noncomputable def n6_c2 : Code := cSnd n4_c1
abbrev T4 := (Option Addr) → Nat → Nat → (Option Addr) → Int → H → Prop
def E4 (g : Env) (x0b : Option Addr) (x0n : Nat) (x0c : Nat) (x3 : Option Addr) (x4 : Int) : Prop := g.v 0 = (.slice x0b x0n x0c) ∧ g.v 3 = (.pointer x3) ∧ g.v 4 = (.int .i64 x4) ∧ g.ds = []
def D4 (K : T4) (g : Env) (h : H) : Prop := nilDs g.ds (vSlice (g.v 0) fun s17b s17n s17c => vPtr (g.v 3) fun p18 => vInt .i64 (g.v 4) fun i19 => K s17b s17n s17c p18 i19 h)
theorem D4_ok {K : T4} {g : Env} {h : H} (hq : D4 K g h) : ∃ (x0b : Option Addr) (x0n : Nat) (x0c : Nat) (x3 : Option Addr) (x4 : Int), E4 g x0b x0n x0c x3 x4 ∧ K x0b x0n x0c x3 x4 h := by
  obtain ⟨hd, hq⟩ := nilDs_ok hq
  obtain ⟨y21b, y21n, y21c, e20, q22⟩ := vSlice_ok hq
  obtain ⟨y24, e23, q25⟩ := vPtr_ok q22
  obtain ⟨y27, e26, q28⟩ := vInt_ok q25
  exact ⟨y21b, y21n, y21c, y24, y27, ⟨e20, e23, e26, hd⟩, q28⟩
noncomputable def n7_c1 : Code := cFst n6_c2
def Q2 (Kn : T3) (Ke0 : T3) (Kr : T0) : XPost
  | .normal, g, h => D3 Kn g h
  | .ret, g, h => D0 Kr g h
  | .exit id, g, h => cond (Nat.beq id 0) (D3 Ke0 g h) (False)
  | _, _, _ => False
noncomputable def n8_c1 : Code := cFst n7_c1
def Q3 (Kn : T4) (Ke0 : T3) (Kr : T0) : XPost
  | .normal, g, h => D4 Kn g h
  | .ret, g, h => D0 Kr g h
  | .exit id, g, h => cond (Nat.beq id 0) (D3 Ke0 g h) (False)
  | _, _, _ => False
noncomputable def n9_c1 : Code := cFst n8_c1
noncomputable def n9_c2 : Code := cSnd n8_c1
noncomputable def n10_c1 : Code := cFst n9_c2
noncomputable def n10_c2 : Code := cSnd n9_c2
abbrev n11 (x0b : Option Addr) (x0n : Nat) (x0c : Nat) (x3 : Option Addr) (x4 : Int) (Kn : T4) (Ke0 : T3) (Kr : T0) (h : H) : Prop :=
  Rng .i64 (x4 + (1 : Int)) ∧ (Kn x0b x0n x0c x3 (x4 + (1 : Int)) h)
theorem n11_ok (x0b : Option Addr) (x0n : Nat) (x0c : Nat) (x3 : Option Addr) (x4 : Int) (Kn : T4) (Ke0 : T3) (Kr : T0) (g : Env) (hg : E4 g x0b x0n x0c x3 x4) (h : H) (hS : n11 x0b x0n x0c x3 x4 Kn Ke0 Kr h) : wpC none Try.prog 150 n10_c2 (Q3 Kn Ke0 Kr) g h := by
  obtain ⟨hg0, hg3, hg4, hds⟩ := hg
  refine wpC_of_wpx (by kernel_rfl) (by kernel_rfl) (g' := (((⟨g.v, []⟩ : Env).upd (some 0) (.slice x0b x0n x0c)).upd (some 3) (.pointer x3)).upd (some 4) (.int .i64 x4)) (by rw [env_ds hds, upd_self hg0, upd_self hg3, upd_self hg4]) ?_
  have e : (n11 x0b x0n x0c x3 x4 Kn Ke0 Kr h) = wpx none Try.prog 150 n10_c2 (Q3 Kn Ke0 Kr) ((((⟨g.v, []⟩ : Env).upd (some 0) (.slice x0b x0n x0c)).upd (some 3) (.pointer x3)).upd (some 4) (.int .i64 x4)) h := by kernel_rfl
  exact e ▸ hS
noncomputable def n12_c1 : Code := cFst n10_c1
def Q4 (Kn : T4) (Ke1 : T4) (Ke0 : T3) (Kr : T0) : XPost
  | .normal, g, h => D4 Kn g h
  | .ret, g, h => D0 Kr g h
  | .exit id, g, h => cond (Nat.beq id 1) (D4 Ke1 g h) (cond (Nat.beq id 0) (D3 Ke0 g h) (False))
  | _, _, _ => False
noncomputable def n13_c1 : Code := cFst n12_c1
noncomputable def n13_c2 : Code := cSnd n12_c1
abbrev T5 := (Option Addr) → Nat → Nat → (Option Addr) → Int → Int → H → Prop
def E5 (g : Env) (x0b : Option Addr) (x0n : Nat) (x0c : Nat) (x3 : Option Addr) (x4 : Int) (x5 : Int) : Prop := g.v 0 = (.slice x0b x0n x0c) ∧ g.v 3 = (.pointer x3) ∧ g.v 4 = (.int .i64 x4) ∧ g.v 5 = (.int .i64 x5) ∧ g.ds = []
def D5 (K : T5) (g : Env) (h : H) : Prop := nilDs g.ds (vSlice (g.v 0) fun s29b s29n s29c => vPtr (g.v 3) fun p30 => vInt .i64 (g.v 4) fun i31 => vInt .i64 (g.v 5) fun i32 => K s29b s29n s29c p30 i31 i32 h)
theorem D5_ok {K : T5} {g : Env} {h : H} (hq : D5 K g h) : ∃ (x0b : Option Addr) (x0n : Nat) (x0c : Nat) (x3 : Option Addr) (x4 : Int) (x5 : Int), E5 g x0b x0n x0c x3 x4 x5 ∧ K x0b x0n x0c x3 x4 x5 h := by
  obtain ⟨hd, hq⟩ := nilDs_ok hq
  obtain ⟨y34b, y34n, y34c, e33, q35⟩ := vSlice_ok hq
  obtain ⟨y37, e36, q38⟩ := vPtr_ok q35
  obtain ⟨y40, e39, q41⟩ := vInt_ok q38
  obtain ⟨y43, e42, q44⟩ := vInt_ok q41
  exact ⟨y34b, y34n, y34c, y37, y40, y43, ⟨e33, e36, e39, e42, hd⟩, q44⟩
noncomputable def n14_c1 : Code := cFst n13_c2
noncomputable def n14_c2 : Code := cSnd n13_c2
abbrev n15 (x0b : Option Addr) (x0n : Nat) (x0c : Nat) (x3 : Option Addr) (x4 : Int) (x5 : Int) (Kn : T4) (Ke1 : T4) (Ke0 : T3) (Kr : T0) (h : H) : Prop :=
  vSome x3 fun a45 => ∃ s46b s46n s46c, cell h (a45.add 1) = some (.slice s46b s46n s46c) ∧ (Spl ((s46n : Int) = (0 : Int)) (Kr false h) (vSome x3 fun a47 => ∃ s48b s48n s48c, cell h (a47.add 1) = some (.slice s48b s48n s48c) ∧ ((0 ≤ (0 : Int) ∧ (0 : Int) < (s48n : Int)) ∧ (vSome s48b fun a49 => ∃ i50, cell h (((a49.add (Int.toNat (0 : Int) * 4))).add 0) = some (.int .i64 i50) ∧ (∃ i51, cell h (((a49.add (Int.toNat (0 : Int) * 4))).add 1) = some (.int .u8 i51) ∧ (∃ s52, cell h (((a49.add (Int.toNat (0 : Int) * 4))).add 2) = some (S s52) ∧ (∃ i53, cell h (((a49.add (Int.toNat (0 : Int) * 4))).add 3) = some (.int .u8 i53) ∧ (SemR Try.prog (binS .neq 44 (.tmp 103) (.tmp 104) (.agg ⟨[(.int .i64 i50), (.int .u8 i51), (S s52), (.int .u8 i53)]⟩) (.agg ⟨[(.int .i64 (0 : Int)), (.int .u8 (0 : Int)), (S ([104, 116, 109, 108] : List UInt8)), (.int .u8 (0 : Int))]⟩)) h fun v54 => vBool v54 fun b55 => cond b55 (Kr false h) (vSome x3 fun a56 => ∃ i57, cell h (a56.add 4) = some (.int .i64 i57) ∧ (Spl (i57 < x5) (Kr false h) (vSome x3 fun a58 => ∃ i59, cell h (a58.add 4) = some (.int .i64 i59) ∧ (vSome x3 fun a60 => ∃ s61b s61n s61c, cell h (a60.add 1) = some (.slice s61b s61n s61c) ∧ (Spl (i59 < (s61n : Int)) (Kr false h) (HCalls Try.prog 13 ⟨[(.pointer x3)]⟩ h fun v62 h63 => vAgg v62 fun l64 => uncons l64 fun e65 l66 => vInt .i64 e65 fun i67 => uncons l66 fun e68 l69 => vInt .u8 e68 fun i70 => uncons l69 fun e71 l72 => vStr e71 fun s73 => uncons l72 fun e74 l75 => vInt .u8 e74 fun i76 => unnil l75 (HCalls Try.prog 14 ⟨[(.pointer x3), (.agg ⟨[(.int .i64 i67), (.int .u8 i70), (S s73), (.int .u8 i76)]⟩)]⟩ h63 fun v77 h78 => vTup v77 fun l79 => uncons l79 fun e80 l81 => vInt .i64 e80 fun i82 => uncons l81 fun e83 l84 => vInt .i64 e83 fun i85 => unnil l84 (Spl (i82 < (0 : Int)) (Kr false h78) (Spl (i85 ≥ (0 : Int)) (vSome x3 fun a86 => ∃ p87, cell h78 (a86.add 0) = some (.pointer p87) ∧ (HCalls Try.prog 15 ⟨[(.pointer p87), (.int .i64 i85)]⟩ h78 fun v88 h89 => vInt .i64 v88 fun i90 => Spl (i90 = i82) (Kn x0b x0n x0c x3 x4 h89) (Kr false h89))) (Kn x0b x0n x0c x3 x4 h78))))))))))))))))))
theorem n15_ok (x0b : Option Addr) (x0n : Nat) (x0c : Nat) (x3 : Option Addr) (x4 : Int) (x5 : Int) (Kn : T4) (Ke1 : T4) (Ke0 : T3) (Kr : T0) (g : Env) (hg : E5 g x0b x0n x0c x3 x4 x5) (h : H) (hS : n15 x0b x0n x0c x3 x4 x5 Kn Ke1 Ke0 Kr h) : wpC none Try.prog 150 n14_c2 (Q4 Kn Ke1 Ke0 Kr) g h := by
  obtain ⟨hg0, hg3, hg4, hg5, hds⟩ := hg
  refine wpC_of_wpx (by kernel_rfl) (by kernel_rfl) (g' := ((((⟨g.v, []⟩ : Env).upd (some 0) (.slice x0b x0n x0c)).upd (some 3) (.pointer x3)).upd (some 4) (.int .i64 x4)).upd (some 5) (.int .i64 x5)) (by rw [env_ds hds, upd_self hg0, upd_self hg3, upd_self hg4, upd_self hg5]) ?_
  have e : (n15 x0b x0n x0c x3 x4 x5 Kn Ke1 Ke0 Kr h) = wpx none Try.prog 150 n14_c2 (Q4 Kn Ke1 Ke0 Kr) (((((⟨g.v, []⟩ : Env).upd (some 0) (.slice x0b x0n x0c)).upd (some 3) (.pointer x3)).upd (some 4) (.int .i64 x4)).upd (some 5) (.int .i64 x5)) h := by kernel_rfl
  exact e ▸ hS
def Q5 (Kn : T5) (Ke1 : T4) (Ke0 : T3) (Kr : T0) : XPost
  | .normal, g, h => D5 Kn g h
  | .ret, g, h => D0 Kr g h
  | .exit id, g, h => cond (Nat.beq id 1) (D4 Ke1 g h) (cond (Nat.beq id 0) (D3 Ke0 g h) (False))
  | _, _, _ => False
noncomputable def n16_c1 : Code := cFst n14_c1
noncomputable def n16_c2 : Code := cSnd n14_c1
abbrev T6 := (Option Addr) → Nat → Nat → (Option Addr) → Int → Int → Int → H → Prop
def E6 (g : Env) (x0b : Option Addr) (x0n : Nat) (x0c : Nat) (x3 : Option Addr) (x4 : Int) (x5 : Int) (x32 : Int) : Prop := g.v 0 = (.slice x0b x0n x0c) ∧ g.v 3 = (.pointer x3) ∧ g.v 4 = (.int .i64 x4) ∧ g.v 5 = (.int .i64 x5) ∧ g.v 32 = (.int .u8 x32) ∧ g.ds = []
def D6 (K : T6) (g : Env) (h : H) : Prop := nilDs g.ds (vSlice (g.v 0) fun s91b s91n s91c => vPtr (g.v 3) fun p92 => vInt .i64 (g.v 4) fun i93 => vInt .i64 (g.v 5) fun i94 => vInt .u8 (g.v 32) fun i95 => K s91b s91n s91c p92 i93 i94 i95 h)
theorem D6_ok {K : T6} {g : Env} {h : H} (hq : D6 K g h) : ∃ (x0b : Option Addr) (x0n : Nat) (x0c : Nat) (x3 : Option Addr) (x4 : Int) (x5 : Int) (x32 : Int), E6 g x0b x0n x0c x3 x4 x5 x32 ∧ K x0b x0n x0c x3 x4 x5 x32 h := by
  obtain ⟨hd, hq⟩ := nilDs_ok hq
  obtain ⟨y97b, y97n, y97c, e96, q98⟩ := vSlice_ok hq
  obtain ⟨y100, e99, q101⟩ := vPtr_ok q98
  obtain ⟨y103, e102, q104⟩ := vInt_ok q101
  obtain ⟨y106, e105, q107⟩ := vInt_ok q104
  obtain ⟨y109, e108, q110⟩ := vInt_ok q107
  exact ⟨y97b, y97n, y97c, y100, y103, y106, y109, ⟨e96, e99, e102, e105, e108, hd⟩, q110⟩
noncomputable def n17_c1 : Code := cFst n16_c2
def Q6 (Kn : T5) (Ke2 : T5) (Ke1 : T4) (Ke0 : T3) (Kr : T0) : XPost
  | .normal, g, h => D5 Kn g h
  | .ret, g, h => D0 Kr g h
  | .exit id, g, h => cond (Nat.beq id 2) (D5 Ke2 g h) (cond (Nat.beq id 1) (D4 Ke1 g h) (cond (Nat.beq id 0) (D3 Ke0 g h) (False)))
  | _, _, _ => False
noncomputable def n18_c1 : Code := cFst n17_c1
noncomputable def n18_c2 : Code := cSnd n17_c1
abbrev T7 := (Option Addr) → Nat → Nat → (Option Addr) → Int → Int → Int → Bool → H → Prop
def E7 (g : Env) (x0b : Option Addr) (x0n : Nat) (x0c : Nat) (x3 : Option Addr) (x4 : Int) (x5 : Int) (x32 : Int) (x48 : Bool) : Prop := g.v 0 = (.slice x0b x0n x0c) ∧ g.v 3 = (.pointer x3) ∧ g.v 4 = (.int .i64 x4) ∧ g.v 5 = (.int .i64 x5) ∧ g.v 32 = (.int .u8 x32) ∧ g.v 48 = (.bool x48) ∧ g.ds = []
def D7 (K : T7) (g : Env) (h : H) : Prop := nilDs g.ds (vSlice (g.v 0) fun s111b s111n s111c => vPtr (g.v 3) fun p112 => vInt .i64 (g.v 4) fun i113 => vInt .i64 (g.v 5) fun i114 => vInt .u8 (g.v 32) fun i115 => vBool (g.v 48) fun b116 => K s111b s111n s111c p112 i113 i114 i115 b116 h)
theorem D7_ok {K : T7} {g : Env} {h : H} (hq : D7 K g h) : ∃ (x0b : Option Addr) (x0n : Nat) (x0c : Nat) (x3 : Option Addr) (x4 : Int) (x5 : Int) (x32 : Int) (x48 : Bool), E7 g x0b x0n x0c x3 x4 x5 x32 x48 ∧ K x0b x0n x0c x3 x4 x5 x32 x48 h := by
  obtain ⟨hd, hq⟩ := nilDs_ok hq
  obtain ⟨y118b, y118n, y118c, e117, q119⟩ := vSlice_ok hq
  obtain ⟨y121, e120, q122⟩ := vPtr_ok q119
  obtain ⟨y124, e123, q125⟩ := vInt_ok q122
  obtain ⟨y127, e126, q128⟩ := vInt_ok q125
  obtain ⟨y130, e129, q131⟩ := vInt_ok q128
  obtain ⟨y133, e132, q134⟩ := vBool_ok q131
  exact ⟨y118b, y118n, y118c, y121, y124, y127, y130, y133, ⟨e117, e120, e123, e126, e129, e132, hd⟩, q134⟩
noncomputable def n19_c1 : Code := cFst n18_c2
noncomputable def n19_c2 : Code := cSnd n18_c2
abbrev n20 (x0b : Option Addr) (x0n : Nat) (x0c : Nat) (x3 : Option Addr) (x4 : Int) (x5 : Int) (Kn : T5) (Ke2 : T5) (Ke1 : T4) (Ke0 : T3) (Kr : T0) (h : H) : Prop :=
  (0 ≤ x4 ∧ x4 < (x0n : Int)) ∧ (vSome x0b fun a135 => ∃ i136, cell h ((a135.add (Int.toNat x4 * 9)).add 1) = some (.int .u8 i136) ∧ ((3 : Int) ≠ 0 ∧ ((0 ≤ x4 ∧ x4 < (x0n : Int)) ∧ (vSome x0b fun a137 => ∃ i138, cell h ((((a137.add (Int.toNat x4 * 9)).add 2)).add 0) = some (.int .u8 i138) ∧ (∃ s139, cell h ((((a137.add (Int.toNat x4 * 9)).add 2)).add 1) = some (S s139) ∧ (∃ s140b s140n s140c, cell h ((((a137.add (Int.toNat x4 * 9)).add 2)).add 2) = some (.slice s140b s140n s140c) ∧ (∃ b141, cell h ((((a137.add (Int.toNat x4 * 9)).add 2)).add 3) = some (.bool b141) ∧ (∃ s142, cell h ((((a137.add (Int.toNat x4 * 9)).add 2)).add 4) = some (S s142) ∧ (HCalls Try.prog 8 ⟨[(.pointer x3), (.int .u8 (Int.tmod i136 (3 : Int))), (.agg ⟨[(.int .u8 i138), (S s139), (.slice s140b s140n s140c), (.bool b141), (S s142)]⟩)]⟩ h fun v143 h144 => vInt .i64 v143 fun i145 => HCalls Try.prog 13 ⟨[(.pointer x3)]⟩ h144 fun v146 h147 => vAgg v146 fun l148 => uncons l148 fun e149 l150 => vInt .i64 e149 fun i151 => uncons l150 fun e152 l153 => vInt .u8 e152 fun i154 => uncons l153 fun e155 l156 => vStr e155 fun s157 => uncons l156 fun e158 l159 => vInt .u8 e158 fun i160 => unnil l159 (Spl (i151 = i145) ((0 ≤ x4 ∧ x4 < (x0n : Int)) ∧ (vSome x0b fun a161 => ∃ s162, cell h147 (((a161.add (Int.toNat x4 * 9)).add 2).add 1) = some (S s162) ∧ (HCalls Try.prog 13 ⟨[(.pointer x3)]⟩ h147 fun v163 h164 => vAgg v163 fun l165 => uncons l165 fun e166 l167 => vInt .i64 e166 fun i168 => uncons l167 fun e169 l170 => vInt .u8 e169 fun i171 => uncons l170 fun e172 l173 => vStr e172 fun s174 => uncons l173 fun e175 l176 => vInt .u8 e175 fun i177 => unnil l176 (ExtH h147 h164 ∧ (Spl (s174 = s162) (Kn x0b x0n x0c x3 x4 x5 h164) (Kr false h164)))))) (Kr false h147)))))))))))
theorem n20_ok (x0b : Option Addr) (x0n : Nat) (x0c : Nat) (x3 : Option Addr) (x4 : Int) (x5 : Int) (Kn : T5) (Ke2 : T5) (Ke1 : T4) (Ke0 : T3) (Kr : T0) (g : Env) (hg : E5 g x0b x0n x0c x3 x4 x5) (h : H) (hS : n20 x0b x0n x0c x3 x4 x5 Kn Ke2 Ke1 Ke0 Kr h) : wpC none Try.prog 150 n19_c1 (Q6 Kn Ke2 Ke1 Ke0 Kr) g h := by
  obtain ⟨hg0, hg3, hg4, hg5, hds⟩ := hg
  refine wpC_of_wpx (by kernel_rfl) (by kernel_rfl) (g' := ((((⟨g.v, []⟩ : Env).upd (some 0) (.slice x0b x0n x0c)).upd (some 3) (.pointer x3)).upd (some 4) (.int .i64 x4)).upd (some 5) (.int .i64 x5)) (by rw [env_ds hds, upd_self hg0, upd_self hg3, upd_self hg4, upd_self hg5]) ?_
  have e : (n20 x0b x0n x0c x3 x4 x5 Kn Ke2 Ke1 Ke0 Kr h) = wpx none Try.prog 150 n19_c1 (Q6 Kn Ke2 Ke1 Ke0 Kr) (((((⟨g.v, []⟩ : Env).upd (some 0) (.slice x0b x0n x0c)).upd (some 3) (.pointer x3)).upd (some 4) (.int .i64 x4)).upd (some 5) (.int .i64 x5)) h := by kernel_rfl
  exact e ▸ hS
noncomputable def n21_c1 : Code := cFst n19_c2
noncomputable def n21_c2 : Code := cSnd n19_c2
abbrev T8 := (Option Addr) → Nat → Nat → (Option Addr) → Int → Int → Bool → H → Prop
def E8 (g : Env) (x0b : Option Addr) (x0n : Nat) (x0c : Nat) (x3 : Option Addr) (x4 : Int) (x5 : Int) (x81 : Bool) : Prop := g.v 0 = (.slice x0b x0n x0c) ∧ g.v 3 = (.pointer x3) ∧ g.v 4 = (.int .i64 x4) ∧ g.v 5 = (.int .i64 x5) ∧ g.v 81 = (.bool x81) ∧ g.ds = []
def D8 (K : T8) (g : Env) (h : H) : Prop := nilDs g.ds (vSlice (g.v 0) fun s178b s178n s178c => vPtr (g.v 3) fun p179 => vInt .i64 (g.v 4) fun i180 => vInt .i64 (g.v 5) fun i181 => vBool (g.v 81) fun b182 => K s178b s178n s178c p179 i180 i181 b182 h)
theorem D8_ok {K : T8} {g : Env} {h : H} (hq : D8 K g h) : ∃ (x0b : Option Addr) (x0n : Nat) (x0c : Nat) (x3 : Option Addr) (x4 : Int) (x5 : Int) (x81 : Bool), E8 g x0b x0n x0c x3 x4 x5 x81 ∧ K x0b x0n x0c x3 x4 x5 x81 h := by
  obtain ⟨hd, hq⟩ := nilDs_ok hq
  obtain ⟨y184b, y184n, y184c, e183, q185⟩ := vSlice_ok hq
  obtain ⟨y187, e186, q188⟩ := vPtr_ok q185
  obtain ⟨y190, e189, q191⟩ := vInt_ok q188
  obtain ⟨y193, e192, q194⟩ := vInt_ok q191
  obtain ⟨y196, e195, q197⟩ := vBool_ok q194
  exact ⟨y184b, y184n, y184c, y187, y190, y193, y196, ⟨e183, e186, e189, e192, e195, hd⟩, q197⟩
abbrev n22 (x0b : Option Addr) (x0n : Nat) (x0c : Nat) (x3 : Option Addr) (x4 : Int) (x5 : Int) (x81 : Bool) (Kn : T5) (Ke2 : T5) (Ke1 : T4) (Ke0 : T3) (Kr : T0) (h : H) : Prop :=
  cond x81 ((0 ≤ x4 ∧ x4 < (x0n : Int)) ∧ (vSome x0b fun a198 => ∃ s199, cell h (((a198.add (Int.toNat x4 * 9)).add 2).add 4) = some (S s199) ∧ (HCalls Try.prog 9 ⟨[(.pointer x3), (S s199)]⟩ h fun v200 h201 => Kn x0b x0n x0c x3 x4 x5 h201))) ((0 ≤ x4 ∧ x4 < (x0n : Int)) ∧ (vSome x0b fun a202 => ∃ i203, cell h ((a202.add (Int.toNat x4 * 9)).add 7) = some (.int .i64 i203) ∧ (HCalls Try.prog 10 ⟨[(.pointer x3), (.int .i64 i203)]⟩ h fun v204 h205 => (0 ≤ x4 ∧ x4 < (x0n : Int)) ∧ (vSome x0b fun a206 => ∃ b207, cell h205 ((a206.add (Int.toNat x4 * 9)).add 8) = some (.bool b207) ∧ (cond b207 (vSome x3 fun a208 => stL (a208.add 3) [(.bool true)] 0 h205 fun h209 => Kn x0b x0n x0c x3 x4 x5 h209) (vSome x3 fun a210 => stL (a210.add 3) [(.bool false)] 0 h205 fun h211 => Kn x0b x0n x0c x3 x4 x5 h211))))))
theorem n22_ok (x0b : Option Addr) (x0n : Nat) (x0c : Nat) (x3 : Option Addr) (x4 : Int) (x5 : Int) (x81 : Bool) (Kn : T5) (Ke2 : T5) (Ke1 : T4) (Ke0 : T3) (Kr : T0) (g : Env) (hg : E8 g x0b x0n x0c x3 x4 x5 x81) (h : H) (hS : n22 x0b x0n x0c x3 x4 x5 x81 Kn Ke2 Ke1 Ke0 Kr h) : wpC none Try.prog 150 n21_c2 (Q6 Kn Ke2 Ke1 Ke0 Kr) g h := by
  obtain ⟨hg0, hg3, hg4, hg5, hg81, hds⟩ := hg
  refine wpC_of_wpx (by kernel_rfl) (by kernel_rfl) (g' := (((((⟨g.v, []⟩ : Env).upd (some 0) (.slice x0b x0n x0c)).upd (some 3) (.pointer x3)).upd (some 4) (.int .i64 x4)).upd (some 5) (.int .i64 x5)).upd (some 81) (.bool x81)) (by rw [env_ds hds, upd_self hg0, upd_self hg3, upd_self hg4, upd_self hg5, upd_self hg81]) ?_
  have e : (n22 x0b x0n x0c x3 x4 x5 x81 Kn Ke2 Ke1 Ke0 Kr h) = wpx none Try.prog 150 n21_c2 (Q6 Kn Ke2 Ke1 Ke0 Kr) ((((((⟨g.v, []⟩ : Env).upd (some 0) (.slice x0b x0n x0c)).upd (some 3) (.pointer x3)).upd (some 4) (.int .i64 x4)).upd (some 5) (.int .i64 x5)).upd (some 81) (.bool x81)) h := by kernel_rfl
  exact e ▸ hS
def Q7 (Kn : T8) (Ke2 : T5) (Ke1 : T4) (Ke0 : T3) (Kr : T0) : XPost
  | .normal, g, h => D8 Kn g h
  | .ret, g, h => D0 Kr g h
  | .exit id, g, h => cond (Nat.beq id 2) (D5 Ke2 g h) (cond (Nat.beq id 1) (D4 Ke1 g h) (cond (Nat.beq id 0) (D3 Ke0 g h) (False)))
  | _, _, _ => False
abbrev n21 (x0b : Option Addr) (x0n : Nat) (x0c : Nat) (x3 : Option Addr) (x4 : Int) (x5 : Int) (x32 : Int) (Kn : T5) (Ke2 : T5) (Ke1 : T4) (Ke0 : T3) (Kr : T0) (h : H) : Prop :=
  Spl (x32 = (2 : Int)) (n22 x0b x0n x0c x3 x4 x5 true Kn Ke2 Ke1 Ke0 Kr h) (n22 x0b x0n x0c x3 x4 x5 false Kn Ke2 Ke1 Ke0 Kr h)
theorem n21_ok (x0b : Option Addr) (x0n : Nat) (x0c : Nat) (x3 : Option Addr) (x4 : Int) (x5 : Int) (x32 : Int) (Kn : T5) (Ke2 : T5) (Ke1 : T4) (Ke0 : T3) (Kr : T0) (g : Env) (hg : E6 g x0b x0n x0c x3 x4 x5 x32) (h : H) (hS : n21 x0b x0n x0c x3 x4 x5 x32 Kn Ke2 Ke1 Ke0 Kr h) : wpC none Try.prog 150 n19_c2 (Q6 Kn Ke2 Ke1 Ke0 Kr) g h := by
  obtain ⟨hg0, hg3, hg4, hg5, hg32, hds⟩ := hg
  refine wpC_seq' (x := n21_c1) (y := n21_c2) (Q' := (Q7 (fun z0b z0n z0c z3 z4 z5 z81 h => n22 z0b z0n z0c z3 z4 z5 z81 Kn Ke2 Ke1 Ke0 Kr h) Ke2 Ke1 Ke0 Kr)) (by kernel_rfl) ?_ ?_
  · refine wpC_of_wpx (by kernel_rfl) (by kernel_rfl) (g' := (((((⟨g.v, []⟩ : Env).upd (some 0) (.slice x0b x0n x0c)).upd (some 3) (.pointer x3)).upd (some 4) (.int .i64 x4)).upd (some 5) (.int .i64 x5)).upd (some 32) (.int .u8 x32)) (by rw [env_ds hds, upd_self hg0, upd_self hg3, upd_self hg4, upd_self hg5, upd_self hg32]) ?_
    have e : (n21 x0b x0n x0c x3 x4 x5 x32 Kn Ke2 Ke1 Ke0 Kr h) = wpx none Try.prog 150 n21_c1 (Q7 (fun z0b z0n z0c z3 z4 z5 z81 h => n22 z0b z0n z0c z3 z4 z5 z81 Kn Ke2 Ke1 Ke0 Kr h) Ke2 Ke1 Ke0 Kr) ((((((⟨g.v, []⟩ : Env).upd (some 0) (.slice x0b x0n x0c)).upd (some 3) (.pointer x3)).upd (some 4) (.int .i64 x4)).upd (some 5) (.int .i64 x5)).upd (some 32) (.int .u8 x32)) h := by kernel_rfl
    exact e ▸ hS
  · intro e g' h' hq
    cases e with
    | normal =>
      have hq : D8 (fun z0b z0n z0c z3 z4 z5 z81 h => n22 z0b z0n z0c z3 z4 z5 z81 Kn Ke2 Ke1 Ke0 Kr h) g' h' := hq
      obtain ⟨y0b, y0n, y0c, y3, y4, y5, y81, hg', hq⟩ := D8_ok hq
      exact n22_ok y0b y0n y0c y3 y4 y5 y81 Kn Ke2 Ke1 Ke0 Kr g' hg' h' hq
    | _ => exact hq
abbrev n19 (x0b : Option Addr) (x0n : Nat) (x0c : Nat) (x3 : Option Addr) (x4 : Int) (x5 : Int) (x32 : Int) (x48 : Bool) (Kn : T5) (Ke2 : T5) (Ke1 : T4) (Ke0 : T3) (Kr : T0) (h : H) : Prop := cond x48 (n20 x0b x0n x0c x3 x4 x5 Kn Ke2 Ke1 Ke0 Kr h) (n21 x0b x0n x0c x3 x4 x5 x32 Kn Ke2 Ke1 Ke0 Kr h)
theorem n19_ok (x0b : Option Addr) (x0n : Nat) (x0c : Nat) (x3 : Option Addr) (x4 : Int) (x5 : Int) (x32 : Int) (x48 : Bool) (Kn : T5) (Ke2 : T5) (Ke1 : T4) (Ke0 : T3) (Kr : T0) (g : Env) (hg : E7 g x0b x0n x0c x3 x4 x5 x32 x48) (h : H) (hS : n19 x0b x0n x0c x3 x4 x5 x32 x48 Kn Ke2 Ke1 Ke0 Kr h) : wpC none Try.prog 150 n18_c2 (Q6 Kn Ke2 Ke1 Ke0 Kr) g h := by
  obtain ⟨hg0, hg3, hg4, hg5, hg32, hg48, hds⟩ := hg
  have hx : evalE 150 g (.tmp 48) = .bool x48 := by
    show cond (Nat.blt 48 150) (g.v 48) undef = _
    rw [hg48]; rfl
  unfold n19 at hS
  refine wpC_cond' (o := .tmp 48) (x := n19_c1) (y := n19_c2) (by kernel_rfl) hx (fun hb => ?_) (fun hb => ?_)
  · subst hb
    exact n20_ok x0b x0n x0c x3 x4 x5 Kn Ke2 Ke1 Ke0 Kr g ⟨hg0, hg3, hg4, hg5, hds⟩ h hS
  · subst hb
    exact n21_ok x0b x0n x0c x3 x4 x5 x32 Kn Ke2 Ke1 Ke0 Kr g ⟨hg0, hg3, hg4, hg5, hg32, hds⟩ h hS
def Q8 (Kn : T7) (Ke2 : T5) (Ke1 : T4) (Ke0 : T3) (Kr : T0) : XPost
  | .normal, g, h => D7 Kn g h
  | .ret, g, h => D0 Kr g h
  | .exit id, g, h => cond (Nat.beq id 2) (D5 Ke2 g h) (cond (Nat.beq id 1) (D4 Ke1 g h) (cond (Nat.beq id 0) (D3 Ke0 g h) (False)))
  | _, _, _ => False
abbrev n18 (x0b : Option Addr) (x0n : Nat) (x0c : Nat) (x3 : Option Addr) (x4 : Int) (x5 : Int) (x32 : Int) (Kn : T5) (Ke2 : T5) (Ke1 : T4) (Ke0 : T3) (Kr : T0) (h : H) : Prop :=
  Spl (x32 = (0 : Int)) (n19 x0b x0n x0c x3 x4 x5 x32 true Kn Ke2 Ke1 Ke0 Kr h) (Spl (x32 = (1 : Int)) (n19 x0b x0n x0c x3 x4 x5 x32 true Kn Ke2 Ke1 Ke0 Kr h) (n19 x0b x0n x0c x3 x4 x5 x32 false Kn Ke2 Ke1 Ke0 Kr h))
theorem n18_ok (x0b : Option Addr) (x0n : Nat) (x0c : Nat) (x3 : Option Addr) (x4 : Int) (x5 : Int) (x32 : Int) (Kn : T5) (Ke2 : T5) (Ke1 : T4) (Ke0 : T3) (Kr : T0) (g : Env) (hg : E6 g x0b x0n x0c x3 x4 x5 x32) (h : H) (hS : n18 x0b x0n x0c x3 x4 x5 x32 Kn Ke2 Ke1 Ke0 Kr h) : wpC none Try.prog 150 n17_c1 (Q6 Kn Ke2 Ke1 Ke0 Kr) g h := by
  obtain ⟨hg0, hg3, hg4, hg5, hg32, hds⟩ := hg
  refine wpC_seq' (x := n18_c1) (y := n18_c2) (Q' := (Q8 (fun z0b z0n z0c z3 z4 z5 z32 z48 h => n19 z0b z0n z0c z3 z4 z5 z32 z48 Kn Ke2 Ke1 Ke0 Kr h) Ke2 Ke1 Ke0 Kr)) (by kernel_rfl) ?_ ?_
  · refine wpC_of_wpx (by kernel_rfl) (by kernel_rfl) (g' := (((((⟨g.v, []⟩ : Env).upd (some 0) (.slice x0b x0n x0c)).upd (some 3) (.pointer x3)).upd (some 4) (.int .i64 x4)).upd (some 5) (.int .i64 x5)).upd (some 32) (.int .u8 x32)) (by rw [env_ds hds, upd_self hg0, upd_self hg3, upd_self hg4, upd_self hg5, upd_self hg32]) ?_
    have e : (n18 x0b x0n x0c x3 x4 x5 x32 Kn Ke2 Ke1 Ke0 Kr h) = wpx none Try.prog 150 n18_c1 (Q8 (fun z0b z0n z0c z3 z4 z5 z32 z48 h => n19 z0b z0n z0c z3 z4 z5 z32 z48 Kn Ke2 Ke1 Ke0 Kr h) Ke2 Ke1 Ke0 Kr) ((((((⟨g.v, []⟩ : Env).upd (some 0) (.slice x0b x0n x0c)).upd (some 3) (.pointer x3)).upd (some 4) (.int .i64 x4)).upd (some 5) (.int .i64 x5)).upd (some 32) (.int .u8 x32)) h := by kernel_rfl
    exact e ▸ hS
  · intro e g' h' hq
    cases e with
    | normal =>
      have hq : D7 (fun z0b z0n z0c z3 z4 z5 z32 z48 h => n19 z0b z0n z0c z3 z4 z5 z32 z48 Kn Ke2 Ke1 Ke0 Kr h) g' h' := hq
      obtain ⟨y0b, y0n, y0c, y3, y4, y5, y32, y48, hg', hq⟩ := D7_ok hq
      exact n19_ok y0b y0n y0c y3 y4 y5 y32 y48 Kn Ke2 Ke1 Ke0 Kr g' hg' h' hq
    | _ => exact hq
abbrev n17 (x0b : Option Addr) (x0n : Nat) (x0c : Nat) (x3 : Option Addr) (x4 : Int) (x5 : Int) (x32 : Int) (Kn : T5) (Ke1 : T4) (Ke0 : T3) (Kr : T0) (h : H) : Prop := n18 x0b x0n x0c x3 x4 x5 x32 Kn Kn Ke1 Ke0 Kr h
theorem n17_ok (x0b : Option Addr) (x0n : Nat) (x0c : Nat) (x3 : Option Addr) (x4 : Int) (x5 : Int) (x32 : Int) (Kn : T5) (Ke1 : T4) (Ke0 : T3) (Kr : T0) (g : Env) (hg : E6 g x0b x0n x0c x3 x4 x5 x32) (h : H) (hS : n17 x0b x0n x0c x3 x4 x5 x32 Kn Ke1 Ke0 Kr h) : wpC none Try.prog 150 n16_c2 (Q5 Kn Ke1 Ke0 Kr) g h := by
  refine wpC_block' (id := 2) (x := n17_c1) (by kernel_rfl) (n18_ok x0b x0n x0c x3 x4 x5 x32 Kn Kn Ke1 Ke0 Kr g hg h hS) ?_
  intro e g' h' hq
  cases e <;> exact hq
def Q9 (Kn : T6) (Ke1 : T4) (Ke0 : T3) (Kr : T0) : XPost
  | .normal, g, h => D6 Kn g h
  | .ret, g, h => D0 Kr g h
  | .exit id, g, h => cond (Nat.beq id 1) (D4 Ke1 g h) (cond (Nat.beq id 0) (D3 Ke0 g h) (False))
  | _, _, _ => False
abbrev n16 (x0b : Option Addr) (x0n : Nat) (x0c : Nat) (x3 : Option Addr) (x4 : Int) (x5 : Int) (Kn : T5) (Ke1 : T4) (Ke0 : T3) (Kr : T0) (h : H) : Prop :=
  (0 ≤ x4 ∧ x4 < (x0n : Int)) ∧ (vSome x0b fun a212 => ∃ i213, cell h ((a212.add (Int.toNat x4 * 9)).add 0) = some (.int .u8 i213) ∧ ((4 : Int) ≠ 0 ∧ (n17 x0b x0n x0c x3 x4 x5 (Int.tmod i213 (4 : Int)) Kn Ke1 Ke0 Kr h)))
theorem n16_ok (x0b : Option Addr) (x0n : Nat) (x0c : Nat) (x3 : Option Addr) (x4 : Int) (x5 : Int) (Kn : T5) (Ke1 : T4) (Ke0 : T3) (Kr : T0) (g : Env) (hg : E5 g x0b x0n x0c x3 x4 x5) (h : H) (hS : n16 x0b x0n x0c x3 x4 x5 Kn Ke1 Ke0 Kr h) : wpC none Try.prog 150 n14_c1 (Q5 Kn Ke1 Ke0 Kr) g h := by
  obtain ⟨hg0, hg3, hg4, hg5, hds⟩ := hg
  refine wpC_seq' (x := n16_c1) (y := n16_c2) (Q' := (Q9 (fun z0b z0n z0c z3 z4 z5 z32 h => n17 z0b z0n z0c z3 z4 z5 z32 Kn Ke1 Ke0 Kr h) Ke1 Ke0 Kr)) (by kernel_rfl) ?_ ?_
  · refine wpC_of_wpx (by kernel_rfl) (by kernel_rfl) (g' := ((((⟨g.v, []⟩ : Env).upd (some 0) (.slice x0b x0n x0c)).upd (some 3) (.pointer x3)).upd (some 4) (.int .i64 x4)).upd (some 5) (.int .i64 x5)) (by rw [env_ds hds, upd_self hg0, upd_self hg3, upd_self hg4, upd_self hg5]) ?_
    have e : (n16 x0b x0n x0c x3 x4 x5 Kn Ke1 Ke0 Kr h) = wpx none Try.prog 150 n16_c1 (Q9 (fun z0b z0n z0c z3 z4 z5 z32 h => n17 z0b z0n z0c z3 z4 z5 z32 Kn Ke1 Ke0 Kr h) Ke1 Ke0 Kr) (((((⟨g.v, []⟩ : Env).upd (some 0) (.slice x0b x0n x0c)).upd (some 3) (.pointer x3)).upd (some 4) (.int .i64 x4)).upd (some 5) (.int .i64 x5)) h := by kernel_rfl
    exact e ▸ hS
  · intro e g' h' hq
    cases e with
    | normal =>
      have hq : D6 (fun z0b z0n z0c z3 z4 z5 z32 h => n17 z0b z0n z0c z3 z4 z5 z32 Kn Ke1 Ke0 Kr h) g' h' := hq
      obtain ⟨y0b, y0n, y0c, y3, y4, y5, y32, hg', hq⟩ := D6_ok hq
      exact n17_ok y0b y0n y0c y3 y4 y5 y32 Kn Ke1 Ke0 Kr g' hg' h' hq
    | _ => exact hq
abbrev n14 (x0b : Option Addr) (x0n : Nat) (x0c : Nat) (x3 : Option Addr) (x4 : Int) (x5 : Int) (Kn : T4) (Ke1 : T4) (Ke0 : T3) (Kr : T0) (h : H) : Prop := n16 x0b x0n x0c x3 x4 x5 (fun z0b z0n z0c z3 z4 z5 h => n15 z0b z0n z0c z3 z4 z5 Kn Ke1 Ke0 Kr h) Ke1 Ke0 Kr h
theorem n14_ok (x0b : Option Addr) (x0n : Nat) (x0c : Nat) (x3 : Option Addr) (x4 : Int) (x5 : Int) (Kn : T4) (Ke1 : T4) (Ke0 : T3) (Kr : T0) (g : Env) (hg : E5 g x0b x0n x0c x3 x4 x5) (h : H) (hS : n14 x0b x0n x0c x3 x4 x5 Kn Ke1 Ke0 Kr h) : wpC none Try.prog 150 n13_c2 (Q4 Kn Ke1 Ke0 Kr) g h := by
  refine wpC_seq' (x := n14_c1) (y := n14_c2) (by kernel_rfl) (n16_ok x0b x0n x0c x3 x4 x5 (fun z0b z0n z0c z3 z4 z5 h => n15 z0b z0n z0c z3 z4 z5 Kn Ke1 Ke0 Kr h) Ke1 Ke0 Kr g hg h hS) ?_
  intro e g' h' hq
  cases e with
  | normal =>
    have hq : D5 (fun z0b z0n z0c z3 z4 z5 h => n15 z0b z0n z0c z3 z4 z5 Kn Ke1 Ke0 Kr h) g' h' := hq
    obtain ⟨y0b, y0n, y0c, y3, y4, y5, hg', hq⟩ := D5_ok hq
    exact n15_ok y0b y0n y0c y3 y4 y5 Kn Ke1 Ke0 Kr g' hg' h' hq
  | _ => exact hq
abbrev n13 (x0b : Option Addr) (x0n : Nat) (x0c : Nat) (x3 : Option Addr) (x4 : Int) (Kn : T4) (Ke1 : T4) (Ke0 : T3) (Kr : T0) (h : H) : Prop :=
  vSome x3 fun a214 => ∃ i215, cell h (a214.add 4) = some (.int .i64 i215) ∧ (n14 x0b x0n x0c x3 x4 i215 Kn Ke1 Ke0 Kr h)
theorem n13_ok (x0b : Option Addr) (x0n : Nat) (x0c : Nat) (x3 : Option Addr) (x4 : Int) (Kn : T4) (Ke1 : T4) (Ke0 : T3) (Kr : T0) (g : Env) (hg : E4 g x0b x0n x0c x3 x4) (h : H) (hS : n13 x0b x0n x0c x3 x4 Kn Ke1 Ke0 Kr h) : wpC none Try.prog 150 n12_c1 (Q4 Kn Ke1 Ke0 Kr) g h := by
  obtain ⟨hg0, hg3, hg4, hds⟩ := hg
  refine wpC_seq' (x := n13_c1) (y := n13_c2) (Q' := (Q5 (fun z0b z0n z0c z3 z4 z5 h => n14 z0b z0n z0c z3 z4 z5 Kn Ke1 Ke0 Kr h) Ke1 Ke0 Kr)) (by kernel_rfl) ?_ ?_
  · refine wpC_of_wpx (by kernel_rfl) (by kernel_rfl) (g' := (((⟨g.v, []⟩ : Env).upd (some 0) (.slice x0b x0n x0c)).upd (some 3) (.pointer x3)).upd (some 4) (.int .i64 x4)) (by rw [env_ds hds, upd_self hg0, upd_self hg3, upd_self hg4]) ?_
    have e : (n13 x0b x0n x0c x3 x4 Kn Ke1 Ke0 Kr h) = wpx none Try.prog 150 n13_c1 (Q5 (fun z0b z0n z0c z3 z4 z5 h => n14 z0b z0n z0c z3 z4 z5 Kn Ke1 Ke0 Kr h) Ke1 Ke0 Kr) ((((⟨g.v, []⟩ : Env).upd (some 0) (.slice x0b x0n x0c)).upd (some 3) (.pointer x3)).upd (some 4) (.int .i64 x4)) h := by kernel_rfl
    exact e ▸ hS
  · intro e g' h' hq
    cases e with
    | normal =>
      have hq : D5 (fun z0b z0n z0c z3 z4 z5 h => n14 z0b z0n z0c z3 z4 z5 Kn Ke1 Ke0 Kr h) g' h' := hq
      obtain ⟨y0b, y0n, y0c, y3, y4, y5, hg', hq⟩ := D5_ok hq
      exact n14_ok y0b y0n y0c y3 y4 y5 Kn Ke1 Ke0 Kr g' hg' h' hq
    | _ => exact hq
abbrev n12 (x0b : Option Addr) (x0n : Nat) (x0c : Nat) (x3 : Option Addr) (x4 : Int) (Kn : T4) (Ke0 : T3) (Kr : T0) (h : H) : Prop := n13 x0b x0n x0c x3 x4 Kn Kn Ke0 Kr h
theorem n12_ok (x0b : Option Addr) (x0n : Nat) (x0c : Nat) (x3 : Option Addr) (x4 : Int) (Kn : T4) (Ke0 : T3) (Kr : T0) (g : Env) (hg : E4 g x0b x0n x0c x3 x4) (h : H) (hS : n12 x0b x0n x0c x3 x4 Kn Ke0 Kr h) : wpC none Try.prog 150 n10_c1 (Q3 Kn Ke0 Kr) g h := by
  refine wpC_block' (id := 1) (x := n12_c1) (by kernel_rfl) (n13_ok x0b x0n x0c x3 x4 Kn Kn Ke0 Kr g hg h hS) ?_
  intro e g' h' hq
  cases e <;> exact hq
abbrev n10 (x0b : Option Addr) (x0n : Nat) (x0c : Nat) (x3 : Option Addr) (x4 : Int) (Kn : T4) (Ke0 : T3) (Kr : T0) (h : H) : Prop := n12 x0b x0n x0c x3 x4 (fun z0b z0n z0c z3 z4 h => n11 z0b z0n z0c z3 z4 Kn Ke0 Kr h) Ke0 Kr h
theorem n10_ok (x0b : Option Addr) (x0n : Nat) (x0c : Nat) (x3 : Option Addr) (x4 : Int) (Kn : T4) (Ke0 : T3) (Kr : T0) (g : Env) (hg : E4 g x0b x0n x0c x3 x4) (h : H) (hS : n10 x0b x0n x0c x3 x4 Kn Ke0 Kr h) : wpC none Try.prog 150 n9_c2 (Q3 Kn Ke0 Kr) g h := by
  refine wpC_seq' (x := n10_c1) (y := n10_c2) (by kernel_rfl) (n12_ok x0b x0n x0c x3 x4 (fun z0b z0n z0c z3 z4 h => n11 z0b z0n z0c z3 z4 Kn Ke0 Kr h) Ke0 Kr g hg h hS) ?_
  intro e g' h' hq
  cases e with
  | normal =>
    have hq : D4 (fun z0b z0n z0c z3 z4 h => n11 z0b z0n z0c z3 z4 Kn Ke0 Kr h) g' h' := hq
    obtain ⟨y0b, y0n, y0c, y3, y4, hg', hq⟩ := D4_ok hq
    exact n11_ok y0b y0n y0c y3 y4 Kn Ke0 Kr g' hg' h' hq
  | _ => exact hq
abbrev n9 (x0b : Option Addr) (x0n : Nat) (x0c : Nat) (x3 : Option Addr) (x4 : Int) (Kn : T4) (Ke0 : T3) (Kr : T0) (h : H) : Prop :=
  Spl (x4 < (x0n : Int)) (n10 x0b x0n x0c x3 x4 Kn Ke0 Kr h) (Ke0 h)
theorem n9_ok (x0b : Option Addr) (x0n : Nat) (x0c : Nat) (x3 : Option Addr) (x4 : Int) (Kn : T4) (Ke0 : T3) (Kr : T0) (g : Env) (hg : E4 g x0b x0n x0c x3 x4) (h : H) (hS : n9 x0b x0n x0c x3 x4 Kn Ke0 Kr h) : wpC none Try.prog 150 n8_c1 (Q3 Kn Ke0 Kr) g h := by
  obtain ⟨hg0, hg3, hg4, hds⟩ := hg
  refine wpC_seq' (x := n9_c1) (y := n9_c2) (Q' := (Q3 (fun z0b z0n z0c z3 z4 h => n10 z0b z0n z0c z3 z4 Kn Ke0 Kr h) Ke0 Kr)) (by kernel_rfl) ?_ ?_
  · refine wpC_of_wpx (by kernel_rfl) (by kernel_rfl) (g' := (((⟨g.v, []⟩ : Env).upd (some 0) (.slice x0b x0n x0c)).upd (some 3) (.pointer x3)).upd (some 4) (.int .i64 x4)) (by rw [env_ds hds, upd_self hg0, upd_self hg3, upd_self hg4]) ?_
    have e : (n9 x0b x0n x0c x3 x4 Kn Ke0 Kr h) = wpx none Try.prog 150 n9_c1 (Q3 (fun z0b z0n z0c z3 z4 h => n10 z0b z0n z0c z3 z4 Kn Ke0 Kr h) Ke0 Kr) ((((⟨g.v, []⟩ : Env).upd (some 0) (.slice x0b x0n x0c)).upd (some 3) (.pointer x3)).upd (some 4) (.int .i64 x4)) h := by kernel_rfl
    exact e ▸ hS
  · intro e g' h' hq
    cases e with
    | normal =>
      have hq : D4 (fun z0b z0n z0c z3 z4 h => n10 z0b z0n z0c z3 z4 Kn Ke0 Kr h) g' h' := hq
      obtain ⟨y0b, y0n, y0c, y3, y4, hg', hq⟩ := D4_ok hq
      exact n10_ok y0b y0n y0c y3 y4 Kn Ke0 Kr g' hg' h' hq
    | _ => exact hq
def n8_L (Kn : T3) (Ke0 : T3) (Kr : T0) : Nat → (Option Addr) → Nat → Nat → (Option Addr) → Int → H → Prop
  | 0 => fun _ _ _ _ _ _ => False
  | N + 1 => fun x0b x0n x0c x3 x4 h => n9 x0b x0n x0c x3 x4 (fun z0b z0n z0c z3 z4 h => n8_L Kn Ke0 Kr N z0b z0n z0c z3 z4 h) Ke0 Kr h
abbrev n8 (x0b : Option Addr) (x0n : Nat) (x0c : Nat) (x3 : Option Addr) (x4 : Int) (Kn : T3) (Ke0 : T3) (Kr : T0) (h : H) : Prop := ∃ N, n8_L Kn Ke0 Kr N x0b x0n x0c x3 x4 h
theorem n8_ok (x0b : Option Addr) (x0n : Nat) (x0c : Nat) (x3 : Option Addr) (x4 : Int) (Kn : T3) (Ke0 : T3) (Kr : T0) (g : Env) (hg : E4 g x0b x0n x0c x3 x4) (h : H) (hS : n8 x0b x0n x0c x3 x4 Kn Ke0 Kr h) : wpC none Try.prog 150 n7_c1 (Q2 Kn Ke0 Kr) g h := by
  obtain ⟨N0, hS⟩ := hS
  refine wpC_loop' (x := n8_c1) (by kernel_rfl) (fun k g h => ∃ (x0b : Option Addr) (x0n : Nat) (x0c : Nat) (x3 : Option Addr) (x4 : Int), E4 g x0b x0n x0c x3 x4 ∧ n8_L Kn Ke0 Kr k x0b x0n x0c x3 x4 h) (fun g h hr => ?_) (fun N g h hr => ?_) N0 ⟨x0b, x0n, x0c, x3, x4, hg, hS⟩
  · obtain ⟨x0b, x0n, x0c, x3, x4, hg, hS⟩ := hr
    exact hS.elim
  · obtain ⟨x0b, x0n, x0c, x3, x4, hg, hS⟩ := hr
    refine (n9_ok x0b x0n x0c x3 x4 (fun z0b z0n z0c z3 z4 h => n8_L Kn Ke0 Kr N z0b z0n z0c z3 z4 h) Ke0 Kr g hg h hS).mono ?_
    intro e g' h' hq
    cases e with
    | normal => exact D4_ok (K := (fun z0b z0n z0c z3 z4 h => n8_L Kn Ke0 Kr N z0b z0n z0c z3 z4 h)) hq
    | _ => exact hq
abbrev n7 (x0b : Option Addr) (x0n : Nat) (x0c : Nat) (x3 : Option Addr) (x4 : Int) (Kn : T3) (Kr : T0) (h : H) : Prop := n8 x0b x0n x0c x3 x4 Kn Kn Kr h
theorem n7_ok (x0b : Option Addr) (x0n : Nat) (x0c : Nat) (x3 : Option Addr) (x4 : Int) (Kn : T3) (Kr : T0) (g : Env) (hg : E4 g x0b x0n x0c x3 x4) (h : H) (hS : n7 x0b x0n x0c x3 x4 Kn Kr h) : wpC none Try.prog 150 n6_c2 (Q1 Kn Kr) g h := by
  refine wpC_block' (id := 0) (x := n7_c1) (by kernel_rfl) (n8_ok x0b x0n x0c x3 x4 Kn Kn Kr g hg h hS) ?_
  intro e g' h' hq
  cases e <;> exact hq
def Q10 (Kn : T4) (Kr : T0) : XPost
  | .normal, g, h => D4 Kn g h
  | .ret, g, h => D0 Kr g h
  | _, _, _ => False
abbrev n6 (x0b : Option Addr) (x0n : Nat) (x0c : Nat) (x3 : Option Addr) (Kn : T3) (Kr : T0) (h : H) : Prop :=
  n7 x0b x0n x0c x3 (0 : Int) Kn Kr h
theorem n6_ok (x0b : Option Addr) (x0n : Nat) (x0c : Nat) (x3 : Option Addr) (Kn : T3) (Kr : T0) (g : Env) (hg : E2 g x0b x0n x0c x3) (h : H) (hS : n6 x0b x0n x0c x3 Kn Kr h) : wpC none Try.prog 150 n4_c1 (Q1 Kn Kr) g h := by
  obtain ⟨hg0, hg3, hds⟩ := hg
  refine wpC_seq' (x := n6_c1) (y := n6_c2) (Q' := (Q10 (fun z0b z0n z0c z3 z4 h => n7 z0b z0n z0c z3 z4 Kn Kr h) Kr)) (by kernel_rfl) ?_ ?_
  · refine wpC_of_wpx (by kernel_rfl) (by kernel_rfl) (g' := ((⟨g.v, []⟩ : Env).upd (some 0) (.slice x0b x0n x0c)).upd (some 3) (.pointer x3)) (by rw [env_ds hds, upd_self hg0, upd_self hg3]) ?_
    have e : (n6 x0b x0n x0c x3 Kn Kr h) = wpx none Try.prog 150 n6_c1 (Q10 (fun z0b z0n z0c z3 z4 h => n7 z0b z0n z0c z3 z4 Kn Kr h) Kr) (((⟨g.v, []⟩ : Env).upd (some 0) (.slice x0b x0n x0c)).upd (some 3) (.pointer x3)) h := by kernel_rfl
    exact e ▸ hS
  · intro e g' h' hq
    cases e with
    | normal =>
      have hq : D4 (fun z0b z0n z0c z3 z4 h => n7 z0b z0n z0c z3 z4 Kn Kr h) g' h' := hq
      obtain ⟨y0b, y0n, y0c, y3, y4, hg', hq⟩ := D4_ok hq
      exact n7_ok y0b y0n y0c y3 y4 Kn Kr g' hg' h' hq
    | _ => exact hq
abbrev n4 (x0b : Option Addr) (x0n : Nat) (x0c : Nat) (x3 : Option Addr) (Kn : T0) (Kr : T0) (h : H) : Prop := n6 x0b x0n x0c x3 (fun  h => n5 Kn Kr h) Kr h
theorem n4_ok (x0b : Option Addr) (x0n : Nat) (x0c : Nat) (x3 : Option Addr) (Kn : T0) (Kr : T0) (g : Env) (hg : E2 g x0b x0n x0c x3) (h : H) (hS : n4 x0b x0n x0c x3 Kn Kr h) : wpC none Try.prog 150 n3_c2 (Q0 Kn Kr) g h := by
  refine wpC_seq' (x := n4_c1) (y := n4_c2) (by kernel_rfl) (n6_ok x0b x0n x0c x3 (fun  h => n5 Kn Kr h) Kr g hg h hS) ?_
  intro e g' h' hq
  cases e with
  | normal =>
    have hq : D3 (fun  h => n5 Kn Kr h) g' h' := hq
    obtain ⟨hg', hq⟩ := D3_ok hq
    exact n5_ok  Kn Kr g' hg' h' hq
  | _ => exact hq
def Q11 (Kn : T2) (Kr : T0) : XPost
  | .normal, g, h => D2 Kn g h
  | .ret, g, h => D0 Kr g h
  | _, _, _ => False
abbrev n3 (x0b : Option Addr) (x0n : Nat) (x0c : Nat) (Kn : T0) (Kr : T0) (h : H) : Prop :=
  HCalls Try.prog 7 ⟨[]⟩ h fun v216 h217 => vPtr v216 fun p218 => n4 x0b x0n x0c p218 Kn Kr h217
theorem n3_ok (x0b : Option Addr) (x0n : Nat) (x0c : Nat) (Kn : T0) (Kr : T0) (g : Env) (hg : E1 g x0b x0n x0c) (h : H) (hS : n3 x0b x0n x0c Kn Kr h) : wpC none Try.prog 150 n2_c2 (Q0 Kn Kr) g h := by
  obtain ⟨hg0, hds⟩ := hg
  refine wpC_seq' (x := n3_c1) (y := n3_c2) (Q' := (Q11 (fun z0b z0n z0c z3 h => n4 z0b z0n z0c z3 Kn Kr h) Kr)) (by kernel_rfl) ?_ ?_
  · refine wpC_of_wpx (by kernel_rfl) (by kernel_rfl) (g' := (⟨g.v, []⟩ : Env).upd (some 0) (.slice x0b x0n x0c)) (by rw [env_ds hds, upd_self hg0]) ?_
    have e : (n3 x0b x0n x0c Kn Kr h) = wpx none Try.prog 150 n3_c1 (Q11 (fun z0b z0n z0c z3 h => n4 z0b z0n z0c z3 Kn Kr h) Kr) ((⟨g.v, []⟩ : Env).upd (some 0) (.slice x0b x0n x0c)) h := by kernel_rfl
    exact e ▸ hS
  · intro e g' h' hq
    cases e with
    | normal =>
      have hq : D2 (fun z0b z0n z0c z3 h => n4 z0b z0n z0c z3 Kn Kr h) g' h' := hq
      obtain ⟨y0b, y0n, y0c, y3, hg', hq⟩ := D2_ok hq
      exact n4_ok y0b y0n y0c y3 Kn Kr g' hg' h' hq
    | _ => exact hq
def Q12 (Kn : T1) (Kr : T0) : XPost
  | .normal, g, h => D1 Kn g h
  | .ret, g, h => D0 Kr g h
  | _, _, _ => False
abbrev n2 (x0b : Option Addr) (x0n : Nat) (x0c : Nat) (Kn : T0) (Kr : T0) (h : H) : Prop :=
  HCalls Try.prog 5 ⟨[(.slice x0b x0n x0c)]⟩ h fun v219 h220 => vBool v219 fun b221 => cond b221 (HCalls Try.prog 6 ⟨[]⟩ h220 fun v222 h223 => vBool v222 fun b224 => cond b224 (Kr true h223) (Kr false h223)) (HCalls Try.prog 6 ⟨[]⟩ h220 fun v225 h226 => vBool v225 fun b227 => cond b227 (n3 x0b x0n x0c Kn Kr h226) (HCalls Try.prog 6 ⟨[]⟩ h226 fun v228 h229 => vBool v228 fun b230 => cond b230 (Kr true h229) (Kr false h229)))
theorem n2_ok (x0b : Option Addr) (x0n : Nat) (x0c : Nat) (Kn : T0) (Kr : T0) (g : Env) (hg : E1 g x0b x0n x0c) (h : H) (hS : n2 x0b x0n x0c Kn Kr h) : wpC none Try.prog 150 n1_c2 (Q0 Kn Kr) g h := by
  obtain ⟨hg0, hds⟩ := hg
  refine wpC_seq' (x := n2_c1) (y := n2_c2) (Q' := (Q12 (fun z0b z0n z0c h => n3 z0b z0n z0c Kn Kr h) Kr)) (by kernel_rfl) ?_ ?_
  · refine wpC_of_wpx (by kernel_rfl) (by kernel_rfl) (g' := (⟨g.v, []⟩ : Env).upd (some 0) (.slice x0b x0n x0c)) (by rw [env_ds hds, upd_self hg0]) ?_
    have e : (n2 x0b x0n x0c Kn Kr h) = wpx none Try.prog 150 n2_c1 (Q12 (fun z0b z0n z0c h => n3 z0b z0n z0c Kn Kr h) Kr) ((⟨g.v, []⟩ : Env).upd (some 0) (.slice x0b x0n x0c)) h := by kernel_rfl
    exact e ▸ hS
  · intro e g' h' hq
    cases e with
    | normal =>
      have hq : D1 (fun z0b z0n z0c h => n3 z0b z0n z0c Kn Kr h) g' h' := hq
      obtain ⟨y0b, y0n, y0c, hg', hq⟩ := D1_ok hq
      exact n3_ok y0b y0n y0c Kn Kr g' hg' h' hq
    | _ => exact hq
abbrev n1 (x0b : Option Addr) (x0n : Nat) (x0c : Nat) (Kn : T0) (Kr : T0) (h : H) : Prop :=
  n2 x0b x0n x0c Kn Kr h
theorem n1_ok (x0b : Option Addr) (x0n : Nat) (x0c : Nat) (Kn : T0) (Kr : T0) (g : Env) (hg : E1 g x0b x0n x0c) (h : H) (hS : n1 x0b x0n x0c Kn Kr h) : wpC none Try.prog 150 code (Q0 Kn Kr) g h := by
  obtain ⟨hg0, hds⟩ := hg
  refine wpC_seq' (x := n1_c1) (y := n1_c2) (Q' := (Q12 (fun z0b z0n z0c h => n2 z0b z0n z0c Kn Kr h) Kr)) (by kernel_rfl) ?_ ?_
  · refine wpC_of_wpx (by kernel_rfl) (by kernel_rfl) (g' := (⟨g.v, []⟩ : Env).upd (some 0) (.slice x0b x0n x0c)) (by rw [env_ds hds, upd_self hg0]) ?_
    have e : (n1 x0b x0n x0c Kn Kr h) = wpx none Try.prog 150 n1_c1 (Q12 (fun z0b z0n z0c h => n2 z0b z0n z0c Kn Kr h) Kr) ((⟨g.v, []⟩ : Env).upd (some 0) (.slice x0b x0n x0c)) h := by kernel_rfl
    exact e ▸ hS
  · intro e g' h' hq
    cases e with
    | normal =>
      have hq : D1 (fun z0b z0n z0c h => n2 z0b z0n z0c Kn Kr h) g' h' := hq
      obtain ⟨y0b, y0n, y0c, hg', hq⟩ := D1_ok hq
      exact n2_ok y0b y0n y0c Kn Kr g' hg' h' hq
    | _ => exact hq
/-- WHAT tympan/tympanlaw13.PlaceHolds ASKS -/
abbrev asks (x0b : Option Addr) (x0n : Nat) (x0c : Nat) (K : Value → H → Prop) (h : H) : Prop := n1 x0b x0n x0c (fun y2 h => K (.bool y2) h) (fun y2 h => K (.bool y2) h) h
theorem ok (x0b : Option Addr) (x0n : Nat) (x0c : Nat) (K : Value → H → Prop) (h : H) (hS : asks x0b x0n x0c K h) : HCalls Try.prog 4 ⟨[(.slice x0b x0n x0c)]⟩ h K := by
  refine calls_of_wpC (c := code) Try.func4 (by kernel_rfl) (Nat.le_of_ble_eq_true (by kernel_rfl)) ?_
  refine (n1_ok x0b x0n x0c (fun y2 h => K (.bool y2) h) (fun y2 h => K (.bool y2) h) (env0 [(.slice x0b x0n x0c)]) ⟨rfl, rfl⟩ h hS).mono ?_
  intro e g' h' hq
  cases e with
  | normal =>
    have hq : D0 (fun y2 h => K (.bool y2) h) g' h' := hq
    obtain ⟨y2, ⟨hg2, hd⟩, hq⟩ := D0_ok hq
    show leaveX g'.ds h' _
    rw [hd]
    show K (g'.v 2) h'
    rw [hg2]
    exact hq
  | ret =>
    have hq : D0 (fun y2 h => K (.bool y2) h) g' h' := hq
    obtain ⟨y2, ⟨hg2, hd⟩, hq⟩ := D0_ok hq
    show leaveX g'.ds h' _
    rw [hd]
    show K (g'.v 2) h'
    rw [hg2]
    exact hq
  | _ => exact hq
end Sx.l13_PlaceHolds

/-! ### tympan/tympanlaw13.heavy -/
namespace Sx.l13_heavy
noncomputable def code : Code := bodyOf Try.f5
abbrev T0 := Bool → H → Prop
def E0 (g : Env) (x2 : Bool) : Prop := g.v 2 = (.bool x2) ∧ g.ds = []
def D0 (K : T0) (g : Env) (h : H) : Prop := nilDs g.ds (vBool (g.v 2) fun b1 => K b1 h)
theorem D0_ok {K : T0} {g : Env} {h : H} (hq : D0 K g h) : ∃ (x2 : Bool), E0 g x2 ∧ K x2 h := by
  obtain ⟨hd, hq⟩ := nilDs_ok hq
  obtain ⟨y3, e2, q4⟩ := vBool_ok hq
  exact ⟨y3, ⟨e2, hd⟩, q4⟩
def Q0 (Kn : T0) (Kr : T0) : XPost
  | .normal, g, h => D0 Kn g h
  | .ret, g, h => D0 Kr g h
  | _, _, _ => False
abbrev T1 := (Option Addr) → Nat → Nat → H → Prop
def E1 (g : Env) (x0b : Option Addr) (x0n : Nat) (x0c : Nat) : Prop := g.v 0 = (.slice x0b x0n x0c) ∧ g.ds = []
def D1 (K : T1) (g : Env) (h : H) : Prop := nilDs g.ds (vSlice (g.v 0) fun s5b s5n s5c => K s5b s5n s5c h)
theorem D1_ok {K : T1} {g : Env} {h : H} (hq : D1 K g h) : ∃ (x0b : Option Addr) (x0n : Nat) (x0c : Nat), E1 g x0b x0n x0c ∧ K x0b x0n x0c h := by
  obtain ⟨hd, hq⟩ := nilDs_ok hq
  obtain ⟨y7b, y7n, y7c, e6, q8⟩ := vSlice_ok hq
  exact ⟨y7b, y7n, y7c, ⟨e6, hd⟩, q8⟩
noncomputable def n1_c1 : Code := cFst code
noncomputable def n1_c2 : Code := cSnd code
noncomputable def n2_c1 : Code := cFst n1_c2
noncomputable def n2_c2 : Code := cSnd n1_c2
abbrev T2 := (Option Addr) → Nat → Nat → Int → H → Prop
def E2 (g : Env) (x0b : Option Addr) (x0n : Nat) (x0c : Nat) (x3 : Int) : Prop := g.v 0 = (.slice x0b x0n x0c) ∧ g.v 3 = (.int .i64 x3) ∧ g.ds = []
def D2 (K : T2) (g : Env) (h : H) : Prop := nilDs g.ds (vSlice (g.v 0) fun s9b s9n s9c => vInt .i64 (g.v 3) fun i10 => K s9b s9n s9c i10 h)
theorem D2_ok {K : T2} {g : Env} {h : H} (hq : D2 K g h) : ∃ (x0b : Option Addr) (x0n : Nat) (x0c : Nat) (x3 : Int), E2 g x0b x0n x0c x3 ∧ K x0b x0n x0c x3 h := by
  obtain ⟨hd, hq⟩ := nilDs_ok hq
  obtain ⟨y12b, y12n, y12c, e11, q13⟩ := vSlice_ok hq
  obtain ⟨y15, e14, q16⟩ := vInt_ok q13
  exact ⟨y12b, y12n, y12c, y15, ⟨e11, e14, hd⟩, q16⟩
noncomputable def n3_c1 : Code := cFst n2_c2
noncomputable def n3_c2 : Code := cSnd n2_c2
abbrev n4 (x0b : Option Addr) (x0n : Nat) (x0c : Nat) (x3 : Int) (Kn : T0) (Kr : T0) (h : H) : Prop :=
  Spl (x3 > (400 : Int)) (Kr true h) (Spl ((x0n : Int) > (100 : Int)) (Kr true h) (Kr false h))
theorem n4_ok (x0b : Option Addr) (x0n : Nat) (x0c : Nat) (x3 : Int) (Kn : T0) (Kr : T0) (g : Env) (hg : E2 g x0b x0n x0c x3) (h : H) (hS : n4 x0b x0n x0c x3 Kn Kr h) : wpC none Try.prog 34 n3_c2 (Q0 Kn Kr) g h := by
  obtain ⟨hg0, hg3, hds⟩ := hg
  refine wpC_of_wpx (by kernel_rfl) (by kernel_rfl) (g' := ((⟨g.v, []⟩ : Env).upd (some 0) (.slice x0b x0n x0c)).upd (some 3) (.int .i64 x3)) (by rw [env_ds hds, upd_self hg0, upd_self hg3]) ?_
  have e : (n4 x0b x0n x0c x3 Kn Kr h) = wpx none Try.prog 34 n3_c2 (Q0 Kn Kr) (((⟨g.v, []⟩ : Env).upd (some 0) (.slice x0b x0n x0c)).upd (some 3) (.int .i64 x3)) h := by kernel_rfl
  exact e ▸ hS
def Q1 (Kn : T2) (Kr : T0) : XPost
  | .normal, g, h => D2 Kn g h
  | .ret, g, h => D0 Kr g h
  | _, _, _ => False
noncomputable def n5_c1 : Code := cFst n3_c1
noncomputable def n5_c2 : Code := cSnd n3_c1
abbrev T3 := (Option Addr) → Nat → Nat → Int → Int → H → Prop
def E3 (g : Env) (x0b : Option Addr) (x0n : Nat) (x0c : Nat) (x3 : Int) (x4 : Int) : Prop := g.v 0 = (.slice x0b x0n x0c) ∧ g.v 3 = (.int .i64 x3) ∧ g.v 4 = (.int .i64 x4) ∧ g.ds = []
def D3 (K : T3) (g : Env) (h : H) : Prop := nilDs g.ds (vSlice (g.v 0) fun s17b s17n s17c => vInt .i64 (g.v 3) fun i18 => vInt .i64 (g.v 4) fun i19 => K s17b s17n s17c i18 i19 h)
theorem D3_ok {K : T3} {g : Env} {h : H} (hq : D3 K g h) : ∃ (x0b : Option Addr) (x0n : Nat) (x0c : Nat) (x3 : Int) (x4 : Int), E3 g x0b x0n x0c x3 x4 ∧ K x0b x0n x0c x3 x4 h := by
  obtain ⟨hd, hq⟩ := nilDs_ok hq
  obtain ⟨y21b, y21n, y21c, e20, q22⟩ := vSlice_ok hq
  obtain ⟨y24, e23, q25⟩ := vInt_ok q22
  obtain ⟨y27, e26, q28⟩ := vInt_ok q25
  exact ⟨y21b, y21n, y21c, y24, y27, ⟨e20, e23, e26, hd⟩, q28⟩
noncomputable def n6_c1 : Code := cFst n5_c2
def Q2 (Kn : T2) (Ke0 : T2) (Kr : T0) : XPost
  | .normal, g, h => D2 Kn g h
  | .ret, g, h => D0 Kr g h
  | .exit id, g, h => cond (Nat.beq id 0) (D2 Ke0 g h) (False)
  | _, _, _ => False
noncomputable def n7_c1 : Code := cFst n6_c1
def Q3 (Kn : T3) (Ke0 : T2) (Kr : T0) : XPost
  | .normal, g, h => D3 Kn g h
  | .ret, g, h => D0 Kr g h
  | .exit id, g, h => cond (Nat.beq id 0) (D2 Ke0 g h) (False)
  | _, _, _ => False
def n7_L (Kn : T2) (Ke0 : T2) (Kr : T0) : Nat → (Option Addr) → Nat → Nat → Int → Int → H → Prop
  | 0 => fun _ _ _ _ _ _ => False
  | N + 1 => fun x0b x0n x0c x3 x4 h => Spl (x4 < (x0n : Int)) (Spl (x3 ≤ (400 : Int)) ((0 ≤ x4 ∧ x4 < (x0n : Int)) ∧ (vSome x0b fun a29 => ∃ i30, cell h ((((a29.add (Int.toNat x4 * 9)).add 2)).add 0) = some (.int .u8 i30) ∧ (∃ s31, cell h ((((a29.add (Int.toNat x4 * 9)).add 2)).add 1) = some (S s31) ∧ (∃ s32b s32n s32c, cell h ((((a29.add (Int.toNat x4 * 9)).add 2)).add 2) = some (.slice s32b s32n s32c) ∧ (∃ b33, cell h ((((a29.add (Int.toNat x4 * 9)).add 2)).add 3) = some (.bool b33) ∧ (∃ s34, cell h ((((a29.add (Int.toNat x4 * 9)).add 2)).add 4) = some (S s34) ∧ (newx h #[(.int .u8 i30), (S s31), (.slice s32b s32n s32c), (.bool b33), (S s34)] 29 fun a35 h36 => HCalls Try.prog 16 ⟨[(.slice (some a35) 1 1), (.int .i64 (400 : Int))]⟩ h36 fun v37 h38 => vInt .i64 v37 fun i39 => Rng .i64 (i39 - (1 : Int)) ∧ (Rng .i64 (x3 + (i39 - (1 : Int))) ∧ (Rng .i64 (x4 + (1 : Int)) ∧ (n7_L Kn Ke0 Kr N x0b x0n x0c (x3 + (i39 - (1 : Int))) (x4 + (1 : Int)) h38)))))))))) (Ke0 x0b x0n x0c x3 h)) (Ke0 x0b x0n x0c x3 h)
abbrev n7 (x0b : Option Addr) (x0n : Nat) (x0c : Nat) (x3 : Int) (x4 : Int) (Kn : T2) (Ke0 : T2) (Kr : T0) (h : H) : Prop := ∃ N, n7_L Kn Ke0 Kr N x0b x0n x0c x3 x4 h
theorem n7_ok (x0b : Option Addr) (x0n : Nat) (x0c : Nat) (x3 : Int) (x4 : Int) (Kn : T2) (Ke0 : T2) (Kr : T0) (g : Env) (hg : E3 g x0b x0n x0c x3 x4) (h : H) (hS : n7 x0b x0n x0c x3 x4 Kn Ke0 Kr h) : wpC none Try.prog 34 n6_c1 (Q2 Kn Ke0 Kr) g h := by
  obtain ⟨N0, hS⟩ := hS
  refine wpC_loop' (x := n7_c1) (by kernel_rfl) (fun k g h => ∃ (x0b : Option Addr) (x0n : Nat) (x0c : Nat) (x3 : Int) (x4 : Int), E3 g x0b x0n x0c x3 x4 ∧ n7_L Kn Ke0 Kr k x0b x0n x0c x3 x4 h) (fun g h hr => ?_) (fun N g h hr => ?_) N0 ⟨x0b, x0n, x0c, x3, x4, hg, hS⟩
  · obtain ⟨x0b, x0n, x0c, x3, x4, hg, hS⟩ := hr
    exact hS.elim
  · obtain ⟨x0b, x0n, x0c, x3, x4, hg, hS⟩ := hr
    have hw : wpC none Try.prog 34 n7_c1 (Q3 (fun z0b z0n z0c z3 z4 h => n7_L Kn Ke0 Kr N z0b z0n z0c z3 z4 h) Ke0 Kr) g h := by
      obtain ⟨hg0, hg3, hg4, hds⟩ := hg
      refine wpC_of_wpx (by kernel_rfl) (by kernel_rfl) (g' := (((⟨g.v, []⟩ : Env).upd (some 0) (.slice x0b x0n x0c)).upd (some 3) (.int .i64 x3)).upd (some 4) (.int .i64 x4)) (by rw [env_ds hds, upd_self hg0, upd_self hg3, upd_self hg4]) ?_
      have e : (n7_L Kn Ke0 Kr (N + 1) x0b x0n x0c x3 x4 h) = wpx none Try.prog 34 n7_c1 (Q3 (fun z0b z0n z0c z3 z4 h => n7_L Kn Ke0 Kr N z0b z0n z0c z3 z4 h) Ke0 Kr) ((((⟨g.v, []⟩ : Env).upd (some 0) (.slice x0b x0n x0c)).upd (some 3) (.int .i64 x3)).upd (some 4) (.int .i64 x4)) h := by kernel_rfl
      exact e ▸ hS
    refine hw.mono ?_
    intro e g' h' hq
    cases e with
    | normal => exact D3_ok (K := (fun z0b z0n z0c z3 z4 h => n7_L Kn Ke0 Kr N z0b z0n z0c z3 z4 h)) hq
    | _ => exact hq
abbrev n6 (x0b : Option Addr) (x0n : Nat) (x0c : Nat) (x3 : Int) (x4 : Int) (Kn : T2) (Kr : T0) (h : H) : Prop := n7 x0b x0n x0c x3 x4 Kn Kn Kr h
theorem n6_ok (x0b : Option Addr) (x0n : Nat) (x0c : Nat) (x3 : Int) (x4 : Int) (Kn : T2) (Kr : T0) (g : Env) (hg : E3 g x0b x0n x0c x3 x4) (h : H) (hS : n6 x0b x0n x0c x3 x4 Kn Kr h) : wpC none Try.prog 34 n5_c2 (Q1 Kn Kr) g h := by
  refine wpC_block' (id := 0) (x := n6_c1) (by kernel_rfl) (n7_ok x0b x0n x0c x3 x4 Kn Kn Kr g hg h hS) ?_
  intro e g' h' hq
  cases e <;> exact hq
def Q4 (Kn : T3) (Kr : T0) : XPost
  | .normal, g, h => D3 Kn g h
  | .ret, g, h => D0 Kr g h
  | _, _, _ => False
abbrev n5 (x0b : Option Addr) (x0n : Nat) (x0c : Nat) (x3 : Int) (Kn : T2) (Kr : T0) (h : H) : Prop :=
  n6 x0b x0n x0c x3 (0 : Int) Kn Kr h
theorem n5_ok (x0b : Option Addr) (x0n : Nat) (x0c : Nat) (x3 : Int) (Kn : T2) (Kr : T0) (g : Env) (hg : E2 g x0b x0n x0c x3) (h : H) (hS : n5 x0b x0n x0c x3 Kn Kr h) : wpC none Try.prog 34 n3_c1 (Q1 Kn Kr) g h := by
  obtain ⟨hg0, hg3, hds⟩ := hg
  refine wpC_seq' (x := n5_c1) (y := n5_c2) (Q' := (Q4 (fun z0b z0n z0c z3 z4 h => n6 z0b z0n z0c z3 z4 Kn Kr h) Kr)) (by kernel_rfl) ?_ ?_
  · refine wpC_of_wpx (by kernel_rfl) (by kernel_rfl) (g' := ((⟨g.v, []⟩ : Env).upd (some 0) (.slice x0b x0n x0c)).upd (some 3) (.int .i64 x3)) (by rw [env_ds hds, upd_self hg0, upd_self hg3]) ?_
    have e : (n5 x0b x0n x0c x3 Kn Kr h) = wpx none Try.prog 34 n5_c1 (Q4 (fun z0b z0n z0c z3 z4 h => n6 z0b z0n z0c z3 z4 Kn Kr h) Kr) (((⟨g.v, []⟩ : Env).upd (some 0) (.slice x0b x0n x0c)).upd (some 3) (.int .i64 x3)) h := by kernel_rfl
    exact e ▸ hS
  · intro e g' h' hq
    cases e with
    | normal =>
      have hq : D3 (fun z0b z0n z0c z3 z4 h => n6 z0b z0n z0c z3 z4 Kn Kr h) g' h' := hq
      obtain ⟨y0b, y0n, y0c, y3, y4, hg', hq⟩ := D3_ok hq
      exact n6_ok y0b y0n y0c y3 y4 Kn Kr g' hg' h' hq
    | _ => exact hq
abbrev n3 (x0b : Option Addr) (x0n : Nat) (x0c : Nat) (x3 : Int) (Kn : T0) (Kr : T0) (h : H) : Prop := n5 x0b x0n x0c x3 (fun z0b z0n z0c z3 h => n4 z0b z0n z0c z3 Kn Kr h) Kr h
theorem n3_ok (x0b : Option Addr) (x0n : Nat) (x0c : Nat) (x3 : Int) (Kn : T0) (Kr : T0) (g : Env) (hg : E2 g x0b x0n x0c x3) (h : H) (hS : n3 x0b x0n x0c x3 Kn Kr h) : wpC none Try.prog 34 n2_c2 (Q0 Kn Kr) g h := by
  refine wpC_seq' (x := n3_c1) (y := n3_c2) (by kernel_rfl) (n5_ok x0b x0n x0c x3 (fun z0b z0n z0c z3 h => n4 z0b z0n z0c z3 Kn Kr h) Kr g hg h hS) ?_
  intro e g' h' hq
  cases e with
  | normal =>
    have hq : D2 (fun z0b z0n z0c z3 h => n4 z0b z0n z0c z3 Kn Kr h) g' h' := hq
    obtain ⟨y0b, y0n, y0c, y3, hg', hq⟩ := D2_ok hq
    exact n4_ok y0b y0n y0c y3 Kn Kr g' hg' h' hq
  | _ => exact hq
abbrev n2 (x0b : Option Addr) (x0n : Nat) (x0c : Nat) (Kn : T0) (Kr : T0) (h : H) : Prop :=
  n3 x0b x0n x0c (x0n : Int) Kn Kr h
theorem n2_ok (x0b : Option Addr) (x0n : Nat) (x0c : Nat) (Kn : T0) (Kr : T0) (g : Env) (hg : E1 g x0b x0n x0c) (h : H) (hS : n2 x0b x0n x0c Kn Kr h) : wpC none Try.prog 34 n1_c2 (Q0 Kn Kr) g h := by
  obtain ⟨hg0, hds⟩ := hg
  refine wpC_seq' (x := n2_c1) (y := n2_c2) (Q' := (Q1 (fun z0b z0n z0c z3 h => n3 z0b z0n z0c z3 Kn Kr h) Kr)) (by kernel_rfl) ?_ ?_
  · refine wpC_of_wpx (by kernel_rfl) (by kernel_rfl) (g' := (⟨g.v, []⟩ : Env).upd (some 0) (.slice x0b x0n x0c)) (by rw [env_ds hds, upd_self hg0]) ?_
    have e : (n2 x0b x0n x0c Kn Kr h) = wpx none Try.prog 34 n2_c1 (Q1 (fun z0b z0n z0c z3 h => n3 z0b z0n z0c z3 Kn Kr h) Kr) ((⟨g.v, []⟩ : Env).upd (some 0) (.slice x0b x0n x0c)) h := by kernel_rfl
    exact e ▸ hS
  · intro e g' h' hq
    cases e with
    | normal =>
      have hq : D2 (fun z0b z0n z0c z3 h => n3 z0b z0n z0c z3 Kn Kr h) g' h' := hq
      obtain ⟨y0b, y0n, y0c, y3, hg', hq⟩ := D2_ok hq
      exact n3_ok y0b y0n y0c y3 Kn Kr g' hg' h' hq
    | _ => exact hq
def Q5 (Kn : T1) (Kr : T0) : XPost
  | .normal, g, h => D1 Kn g h
  | .ret, g, h => D0 Kr g h
  | _, _, _ => False
abbrev n1 (x0b : Option Addr) (x0n : Nat) (x0c : Nat) (Kn : T0) (Kr : T0) (h : H) : Prop :=
  n2 x0b x0n x0c Kn Kr h
theorem n1_ok (x0b : Option Addr) (x0n : Nat) (x0c : Nat) (Kn : T0) (Kr : T0) (g : Env) (hg : E1 g x0b x0n x0c) (h : H) (hS : n1 x0b x0n x0c Kn Kr h) : wpC none Try.prog 34 code (Q0 Kn Kr) g h := by
  obtain ⟨hg0, hds⟩ := hg
  refine wpC_seq' (x := n1_c1) (y := n1_c2) (Q' := (Q5 (fun z0b z0n z0c h => n2 z0b z0n z0c Kn Kr h) Kr)) (by kernel_rfl) ?_ ?_
  · refine wpC_of_wpx (by kernel_rfl) (by kernel_rfl) (g' := (⟨g.v, []⟩ : Env).upd (some 0) (.slice x0b x0n x0c)) (by rw [env_ds hds, upd_self hg0]) ?_
    have e : (n1 x0b x0n x0c Kn Kr h) = wpx none Try.prog 34 n1_c1 (Q5 (fun z0b z0n z0c h => n2 z0b z0n z0c Kn Kr h) Kr) ((⟨g.v, []⟩ : Env).upd (some 0) (.slice x0b x0n x0c)) h := by kernel_rfl
    exact e ▸ hS
  · intro e g' h' hq
    cases e with
    | normal =>
      have hq : D1 (fun z0b z0n z0c h => n2 z0b z0n z0c Kn Kr h) g' h' := hq
      obtain ⟨y0b, y0n, y0c, hg', hq⟩ := D1_ok hq
      exact n2_ok y0b y0n y0c Kn Kr g' hg' h' hq
    | _ => exact hq
/-- WHAT tympan/tympanlaw13.heavy ASKS -/
abbrev asks (x0b : Option Addr) (x0n : Nat) (x0c : Nat) (K : Value → H → Prop) (h : H) : Prop := n1 x0b x0n x0c (fun y2 h => K (.bool y2) h) (fun y2 h => K (.bool y2) h) h
theorem ok (x0b : Option Addr) (x0n : Nat) (x0c : Nat) (K : Value → H → Prop) (h : H) (hS : asks x0b x0n x0c K h) : HCalls Try.prog 5 ⟨[(.slice x0b x0n x0c)]⟩ h K := by
  refine calls_of_wpC (c := code) Try.func5 (by kernel_rfl) (Nat.le_of_ble_eq_true (by kernel_rfl)) ?_
  refine (n1_ok x0b x0n x0c (fun y2 h => K (.bool y2) h) (fun y2 h => K (.bool y2) h) (env0 [(.slice x0b x0n x0c)]) ⟨rfl, rfl⟩ h hS).mono ?_
  intro e g' h' hq
  cases e with
  | normal =>
    have hq : D0 (fun y2 h => K (.bool y2) h) g' h' := hq
    obtain ⟨y2, ⟨hg2, hd⟩, hq⟩ := D0_ok hq
    show leaveX g'.ds h' _
    rw [hd]
    show K (g'.v 2) h'
    rw [hg2]
    exact hq
  | ret =>
    have hq : D0 (fun y2 h => K (.bool y2) h) g' h' := hq
    obtain ⟨y2, ⟨hg2, hd⟩, hq⟩ := D0_ok hq
    show leaveX g'.ds h' _
    rw [hd]
    show K (g'.v 2) h'
    rw [hg2]
    exact hq
  | _ => exact hq
end Sx.l13_heavy

/-! ### tympan/tympanlaw13.known -/
namespace Sx.l13_known
noncomputable def code : Code := bodyOf Try.f6
abbrev T0 := Bool → H → Prop
def E0 (g : Env) (x0 : Bool) : Prop := g.v 0 = (.bool x0) ∧ g.ds = []
def D0 (K : T0) (g : Env) (h : H) : Prop := nilDs g.ds (vBool (g.v 0) fun b1 => K b1 h)
theorem D0_ok {K : T0} {g : Env} {h : H} (hq : D0 K g h) : ∃ (x0 : Bool), E0 g x0 ∧ K x0 h := by
  obtain ⟨hd, hq⟩ := nilDs_ok hq
  obtain ⟨y3, e2, q4⟩ := vBool_ok hq
  exact ⟨y3, ⟨e2, hd⟩, q4⟩
def Q0 (Kn : T0) (Kr : T0) : XPost
  | .normal, g, h => D0 Kn g h
  | .ret, g, h => D0 Kr g h
  | _, _, _ => False
abbrev T1 := H → Prop
def E1 (g : Env)  : Prop := g.ds = []
def D1 (K : T1) (g : Env) (h : H) : Prop := nilDs g.ds (K h)
theorem D1_ok {K : T1} {g : Env} {h : H} (hq : D1 K g h) : E1 g  ∧ K  h := by
  obtain ⟨hd, hq⟩ := nilDs_ok hq
  skip
  exact ⟨hd, hq⟩
abbrev n1  (Kn : T0) (Kr : T0) (h : H) : Prop :=
  HCalls Try.prog 7 ⟨[]⟩ h fun v5 h6 => vPtr v5 fun p7 => SemH Try.prog (binS .eql 25 (.tmp 4) (.const (.pointer none)) (.pointer p7) (.pointer none)) h6 fun v8 h9 => vBool v8 fun b10 => cond b10 (Kr false h9) (vSome p7 fun a11 => ∃ p12, cell h9 (a11.add 0) = some (.pointer p12) ∧ (SemH Try.prog (binS .eql 35 (.tmp 10) (.const (.pointer none)) (.pointer p12) (.pointer none)) h9 fun v13 h14 => vBool v13 fun b15 => cond b15 (Kr false h14) (HCalls Try.prog 8 ⟨[(.pointer p7), (.int .u8 (0 : Int)), (.agg ⟨[(.int .u8 (0 : Int)), (S ([116, 97, 98, 108, 101] : List UInt8)), (.slice none 0 0), (.bool false), (S ([] : List UInt8))]⟩)]⟩ h14 fun v16 h17 => vInt .i64 v16 fun i18 => HCalls Try.prog 8 ⟨[(.pointer p7), (.int .u8 (0 : Int)), (.agg ⟨[(.int .u8 (0 : Int)), (S ([116, 114] : List UInt8)), (.slice none 0 0), (.bool false), (S ([] : List UInt8))]⟩)]⟩ h17 fun v19 h20 => vInt .i64 v19 fun i21 => vSome p7 fun a22 => stL (a22.add 3) [(.bool true)] 0 h20 fun h23 => HCalls Try.prog 9 ⟨[(.pointer p7), (S ([120] : List UInt8))]⟩ h23 fun v24 h25 => vSome p7 fun a26 => stL (a26.add 3) [(.bool false)] 0 h25 fun h27 => HCalls Try.prog 8 ⟨[(.pointer p7), (.int .u8 (0 : Int)), (.agg ⟨[(.int .u8 (0 : Int)), (S ([98] : List UInt8)), (.slice none 0 0), (.bool false), (S ([] : List UInt8))]⟩)]⟩ h27 fun v28 h29 => vInt .i64 v28 fun i30 => HCalls Try.prog 9 ⟨[(.pointer p7), (S ([121] : List UInt8))]⟩ h29 fun v31 h32 => vSome p7 fun a33 => ∃ p34, cell h32 (a33.add 0) = some (.pointer p34) ∧ (HCalls Try.prog 12 ⟨[(.pointer p34), (.int .i64 (0 : Int))]⟩ h32 fun v35 h36 => vSlice v35 fun s37b s37n s37c => Spl ((s37n : Int) = (2 : Int)) ((0 ≤ (0 : Int) ∧ (0 : Int) < (s37n : Int)) ∧ (vSome s37b fun a38 => ∃ s39, cell h36 ((a38.add (Int.toNat (0 : Int) * 6)).add 4) = some (S s39) ∧ (Spl (s39 = ([120] : List UInt8)) ((0 ≤ (1 : Int) ∧ (1 : Int) < (s37n : Int)) ∧ (vSome s37b fun a40 => ∃ s41b s41n s41c, cell h36 ((a40.add (Int.toNat (1 : Int) * 6)).add 5) = some (.slice s41b s41n s41c) ∧ (Spl ((s41n : Int) = (1 : Int)) ((0 ≤ (1 : Int) ∧ (1 : Int) < (s37n : Int)) ∧ (vSome s37b fun a42 => ∃ s43b s43n s43c, cell h36 ((a42.add (Int.toNat (1 : Int) * 6)).add 5) = some (.slice s43b s43n s43c) ∧ ((0 ≤ (0 : Int) ∧ (0 : Int) < (s43n : Int)) ∧ (vSome s43b fun a44 => ∃ s45b s45n s45c, cell h36 ((a44.add (Int.toNat (0 : Int) * 6)).add 5) = some (.slice s45b s45n s45c) ∧ (Spl ((s45n : Int) = (1 : Int)) (vSome p7 fun a46 => ∃ i47, cell h36 (a46.add 4) = some (.int .i64 i47) ∧ (Spl (i47 = (4 : Int)) (HCalls Try.prog 13 ⟨[(.pointer p7)]⟩ h36 fun v48 h49 => vAgg v48 fun l50 => uncons l50 fun e51 l52 => vInt .i64 e51 fun i53 => uncons l52 fun e54 l55 => vInt .u8 e54 fun i56 => uncons l55 fun e57 l58 => vStr e57 fun s59 => uncons l58 fun e60 l61 => vInt .u8 e60 fun i62 => unnil l61 (Spl (s59 = ([98] : List UInt8)) (Kr true h49) (Kr false h49))) (Kr false h36))) (Kr false h36)))))) (Kr false h36)))) (Kr false h36)))) (Kr false h36)))))
theorem n1_ok  (Kn : T0) (Kr : T0) (g : Env) (hg : E1 g ) (h : H) (hS : n1  Kn Kr h) : wpC none Try.prog 79 code (Q0 Kn Kr) g h := by
  have hds : g.ds = [] := hg
  refine wpC_of_wpx (by kernel_rfl) (by kernel_rfl) (g' := ⟨g.v, []⟩) (by rw [env_ds hds]) ?_
  have e : (n1  Kn Kr h) = wpx none Try.prog 79 code (Q0 Kn Kr) (⟨g.v, []⟩) h := by kernel_rfl
  exact e ▸ hS
/-- WHAT tympan/tympanlaw13.known ASKS -/
abbrev asks  (K : Value → H → Prop) (h : H) : Prop := n1  (fun y0 h => K (.bool y0) h) (fun y0 h => K (.bool y0) h) h
theorem ok  (K : Value → H → Prop) (h : H) (hS : asks  K h) : HCalls Try.prog 6 ⟨[]⟩ h K := by
  refine calls_of_wpC (c := code) Try.func6 (by kernel_rfl) (Nat.le_of_ble_eq_true (by kernel_rfl)) ?_
  refine (n1_ok  (fun y0 h => K (.bool y0) h) (fun y0 h => K (.bool y0) h) (env0 []) rfl h hS).mono ?_
  intro e g' h' hq
  cases e with
  | normal =>
    have hq : D0 (fun y0 h => K (.bool y0) h) g' h' := hq
    obtain ⟨y0, ⟨hg0, hd⟩, hq⟩ := D0_ok hq
    show leaveX g'.ds h' _
    rw [hd]
    show K (g'.v 0) h'
    rw [hg0]
    exact hq
  | ret =>
    have hq : D0 (fun y0 h => K (.bool y0) h) g' h' := hq
    obtain ⟨y0, ⟨hg0, hd⟩, hq⟩ := D0_ok hq
    show leaveX g'.ds h' _
    rw [hd]
    show K (g'.v 0) h'
    rw [hg0]
    exact hq
  | _ => exact hq
end Sx.l13_known

/-! ### tympan/tympanlaw13.text -/
namespace Sx.l13_text
noncomputable def code : Code := bodyOf Try.f11
abbrev T0 := (List UInt8) → H → Prop
def E0 (g : Env) (x2 : List UInt8) : Prop := g.v 2 = (S x2) ∧ g.ds = []
def D0 (K : T0) (g : Env) (h : H) : Prop := nilDs g.ds (vStr (g.v 2) fun s1 => K s1 h)
theorem D0_ok {K : T0} {g : Env} {h : H} (hq : D0 K g h) : ∃ (x2 : List UInt8), E0 g x2 ∧ K x2 h := by
  obtain ⟨hd, hq⟩ := nilDs_ok hq
  obtain ⟨y3, e2, q4⟩ := vStr_ok hq
  exact ⟨y3, ⟨e2, hd⟩, q4⟩
def Q0 (Kn : T0) (Kr : T0) : XPost
  | .normal, g, h => D0 Kn g h
  | .ret, g, h => D0 Kr g h
  | _, _, _ => False
abbrev T1 := (Option Addr) → Nat → Nat → H → Prop
def E1 (g : Env) (x0b : Option Addr) (x0n : Nat) (x0c : Nat) : Prop := g.v 0 = (.slice x0b x0n x0c) ∧ g.ds = []
def D1 (K : T1) (g : Env) (h : H) : Prop := nilDs g.ds (vSlice (g.v 0) fun s5b s5n s5c => K s5b s5n s5c h)
theorem D1_ok {K : T1} {g : Env} {h : H} (hq : D1 K g h) : ∃ (x0b : Option Addr) (x0n : Nat) (x0c : Nat), E1 g x0b x0n x0c ∧ K x0b x0n x0c h := by
  obtain ⟨hd, hq⟩ := nilDs_ok hq
  obtain ⟨y7b, y7n, y7c, e6, q8⟩ := vSlice_ok hq
  exact ⟨y7b, y7n, y7c, ⟨e6, hd⟩, q8⟩
noncomputable def n1_c1 : Code := cFst code
noncomputable def n1_c2 : Code := cSnd code
noncomputable def n2_c1 : Code := cFst n1_c2
noncomputable def n2_c2 : Code := cSnd n1_c2
abbrev T2 := (Option Addr) → Nat → Nat → (List UInt8) → H → Prop
def E2 (g : Env) (x0b : Option Addr) (x0n : Nat) (x0c : Nat) (x3 : List UInt8) : Prop := g.v 0 = (.slice x0b x0n x0c) ∧ g.v 3 = (S x3) ∧ g.ds = []
def D2 (K : T2) (g : Env) (h : H) : Prop := nilDs g.ds (vSlice (g.v 0) fun s9b s9n s9c => vStr (g.v 3) fun s10 => K s9b s9n s9c s10 h)
theorem D2_ok {K : T2} {g : Env} {h : H} (hq : D2 K g h) : ∃ (x0b : Option Addr) (x0n : Nat) (x0c : Nat) (x3 : List UInt8), E2 g x0b x0n x0c x3 ∧ K x0b x0n x0c x3 h := by
  obtain ⟨hd, hq⟩ := nilDs_ok hq
  obtain ⟨y12b, y12n, y12c, e11, q13⟩ := vSlice_ok hq
  obtain ⟨y15, e14, q16⟩ := vStr_ok q13
  exact ⟨y12b, y12n, y12c, y15, ⟨e11, e14, hd⟩, q16⟩
noncomputable def n3_c1 : Code := cFst n2_c2
noncomputable def n3_c2 : Code := cSnd n2_c2
abbrev T3 := (List UInt8) → H → Prop
def E3 (g : Env) (x3 : List UInt8) : Prop := g.v 3 = (S x3) ∧ g.ds = []
def D3 (K : T3) (g : Env) (h : H) : Prop := nilDs g.ds (vStr (g.v 3) fun s17 => K s17 h)
theorem D3_ok {K : T3} {g : Env} {h : H} (hq : D3 K g h) : ∃ (x3 : List UInt8), E3 g x3 ∧ K x3 h := by
  obtain ⟨hd, hq⟩ := nilDs_ok hq
  obtain ⟨y19, e18, q20⟩ := vStr_ok hq
  exact ⟨y19, ⟨e18, hd⟩, q20⟩
abbrev n4 (x3 : List UInt8) (Kn : T0) (Kr : T0) (h : H) : Prop :=
  Kr x3 h
theorem n4_ok (x3 : List UInt8) (Kn : T0) (Kr : T0) (g : Env) (hg : E3 g x3) (h : H) (hS : n4 x3 Kn Kr h) : wpC none Try.prog 33 n3_c2 (Q0 Kn Kr) g h := by
  obtain ⟨hg3, hds⟩ := hg
  refine wpC_of_wpx (by kernel_rfl) (by kernel_rfl) (g' := (⟨g.v, []⟩ : Env).upd (some 3) (S x3)) (by rw [env_ds hds, upd_self hg3]) ?_
  have e : (n4 x3 Kn Kr h) = wpx none Try.prog 33 n3_c2 (Q0 Kn Kr) ((⟨g.v, []⟩ : Env).upd (some 3) (S x3)) h := by kernel_rfl
  exact e ▸ hS
def Q1 (Kn : T3) (Kr : T0) : XPost
  | .normal, g, h => D3 Kn g h
  | .ret, g, h => D0 Kr g h
  | _, _, _ => False
noncomputable def n5_c1 : Code := cFst n3_c1
noncomputable def n5_c2 : Code := cSnd n3_c1
abbrev T4 := (Option Addr) → Nat → Nat → (List UInt8) → Int → H → Prop
def E4 (g : Env) (x0b : Option Addr) (x0n : Nat) (x0c : Nat) (x3 : List UInt8) (x4 : Int) : Prop := g.v 0 = (.slice x0b x0n x0c) ∧ g.v 3 = (S x3) ∧ g.v 4 = (.int .i64 x4) ∧ g.ds = []
def D4 (K : T4) (g : Env) (h : H) : Prop := nilDs g.ds (vSlice (g.v 0) fun s21b s21n s21c => vStr (g.v 3) fun s22 => vInt .i64 (g.v 4) fun i23 => K s21b s21n s21c s22 i23 h)
theorem D4_ok {K : T4} {g : Env} {h : H} (hq : D4 K g h) : ∃ (x0b : Option Addr) (x0n : Nat) (x0c : Nat) (x3 : List UInt8) (x4 : Int), E4 g x0b x0n x0c x3 x4 ∧ K x0b x0n x0c x3 x4 h := by
  obtain ⟨hd, hq⟩ := nilDs_ok hq
  obtain ⟨y25b, y25n, y25c, e24, q26⟩ := vSlice_ok hq
  obtain ⟨y28, e27, q29⟩ := vStr_ok q26
  obtain ⟨y31, e30, q32⟩ := vInt_ok q29
  exact ⟨y25b, y25n, y25c, y28, y31, ⟨e24, e27, e30, hd⟩, q32⟩
noncomputable def n6_c1 : Code := cFst n5_c2
def Q2 (Kn : T3) (Ke0 : T3) (Kr : T0) : XPost
  | .normal, g, h => D3 Kn g h
  | .ret, g, h => D0 Kr g h
  | .exit id, g, h => cond (Nat.beq id 0) (D3 Ke0 g h) (False)
  | _, _, _ => False
noncomputable def n7_c1 : Code := cFst n6_c1
def Q3 (Kn : T4) (Ke0 : T3) (Kr : T0) : XPost
  | .normal, g, h => D4 Kn g h
  | .ret, g, h => D0 Kr g h
  | .exit id, g, h => cond (Nat.beq id 0) (D3 Ke0 g h) (False)
  | _, _, _ => False
noncomputable def n8_c1 : Code := cFst n7_c1
noncomputable def n8_c2 : Code := cSnd n7_c1
noncomputable def n9_c1 : Code := cFst n8_c2
noncomputable def n9_c2 : Code := cSnd n8_c2
abbrev n10 (x0b : Option Addr) (x0n : Nat) (x0c : Nat) (x3 : List UInt8) (x4 : Int) (Kn : T4) (Ke0 : T3) (Kr : T0) (h : H) : Prop :=
  Rng .i64 (x4 + (1 : Int)) ∧ (Kn x0b x0n x0c x3 (x4 + (1 : Int)) h)
theorem n10_ok (x0b : Option Addr) (x0n : Nat) (x0c : Nat) (x3 : List UInt8) (x4 : Int) (Kn : T4) (Ke0 : T3) (Kr : T0) (g : Env) (hg : E4 g x0b x0n x0c x3 x4) (h : H) (hS : n10 x0b x0n x0c x3 x4 Kn Ke0 Kr h) : wpC none Try.prog 33 n9_c2 (Q3 Kn Ke0 Kr) g h := by
  obtain ⟨hg0, hg3, hg4, hds⟩ := hg
  refine wpC_of_wpx (by kernel_rfl) (by kernel_rfl) (g' := (((⟨g.v, []⟩ : Env).upd (some 0) (.slice x0b x0n x0c)).upd (some 3) (S x3)).upd (some 4) (.int .i64 x4)) (by rw [env_ds hds, upd_self hg0, upd_self hg3, upd_self hg4]) ?_
  have e : (n10 x0b x0n x0c x3 x4 Kn Ke0 Kr h) = wpx none Try.prog 33 n9_c2 (Q3 Kn Ke0 Kr) ((((⟨g.v, []⟩ : Env).upd (some 0) (.slice x0b x0n x0c)).upd (some 3) (S x3)).upd (some 4) (.int .i64 x4)) h := by kernel_rfl
  exact e ▸ hS
noncomputable def n11_c1 : Code := cFst n9_c1
def Q4 (Kn : T4) (Ke1 : T4) (Ke0 : T3) (Kr : T0) : XPost
  | .normal, g, h => D4 Kn g h
  | .ret, g, h => D0 Kr g h
  | .exit id, g, h => cond (Nat.beq id 1) (D4 Ke1 g h) (cond (Nat.beq id 0) (D3 Ke0 g h) (False))
  | _, _, _ => False
noncomputable def n12_c1 : Code := cFst n11_c1
noncomputable def n12_c2 : Code := cSnd n11_c1
abbrev n13 (x0b : Option Addr) (x0n : Nat) (x0c : Nat) (x3 : List UInt8) (x4 : Int) (Kn : T4) (Ke1 : T4) (Ke0 : T3) (Kr : T0) (h : H) : Prop :=
  (0 ≤ x4 ∧ x4 < (x0n : Int)) ∧ (vSome x0b fun a33 => ∃ s34b s34n s34c, cell h ((a33.add (Int.toNat x4 * 6)).add 5) = some (.slice s34b s34n s34c) ∧ (HCalls Try.prog 11 ⟨[(.slice s34b s34n s34c)]⟩ h fun v35 h36 => vStr v35 fun s37 => ((x3.length + s37.length : Nat) : Int) ≤ 9223372036854775807 ∧ (Kn x0b x0n x0c (x3 ++ s37) x4 h36)))
theorem n13_ok (x0b : Option Addr) (x0n : Nat) (x0c : Nat) (x3 : List UInt8) (x4 : Int) (Kn : T4) (Ke1 : T4) (Ke0 : T3) (Kr : T0) (g : Env) (hg : E4 g x0b x0n x0c x3 x4) (h : H) (hS : n13 x0b x0n x0c x3 x4 Kn Ke1 Ke0 Kr h) : wpC none Try.prog 33 n12_c2 (Q4 Kn Ke1 Ke0 Kr) g h := by
  obtain ⟨hg0, hg3, hg4, hds⟩ := hg
  refine wpC_of_wpx (by kernel_rfl) (by kernel_rfl) (g' := (((⟨g.v, []⟩ : Env).upd (some 0) (.slice x0b x0n x0c)).upd (some 3) (S x3)).upd (some 4) (.int .i64 x4)) (by rw [env_ds hds, upd_self hg0, upd_self hg3, upd_self hg4]) ?_
  have e : (n13 x0b x0n x0c x3 x4 Kn Ke1 Ke0 Kr h) = wpx none Try.prog 33 n12_c2 (Q4 Kn Ke1 Ke0 Kr) ((((⟨g.v, []⟩ : Env).upd (some 0) (.slice x0b x0n x0c)).upd (some 3) (S x3)).upd (some 4) (.int .i64 x4)) h := by kernel_rfl
  exact e ▸ hS
abbrev n12 (x0b : Option Addr) (x0n : Nat) (x0c : Nat) (x3 : List UInt8) (x4 : Int) (Kn : T4) (Ke1 : T4) (Ke0 : T3) (Kr : T0) (h : H) : Prop :=
  (0 ≤ x4 ∧ x4 < (x0n : Int)) ∧ (vSome x0b fun a38 => ∃ i39, cell h ((a38.add (Int.toNat x4 * 6)).add 0) = some (.int .u8 i39) ∧ (Spl (i39 = (2 : Int)) ((0 ≤ x4 ∧ x4 < (x0n : Int)) ∧ (vSome x0b fun a40 => ∃ s41, cell h ((a40.add (Int.toNat x4 * 6)).add 4) = some (S s41) ∧ (((x3.length + s41.length : Nat) : Int) ≤ 9223372036854775807 ∧ (n13 x0b x0n x0c (x3 ++ s41) x4 Kn Ke1 Ke0 Kr h)))) (n13 x0b x0n x0c x3 x4 Kn Ke1 Ke0 Kr h)))
theorem n12_ok (x0b : Option Addr) (x0n : Nat) (x0c : Nat) (x3 : List UInt8) (x4 : Int) (Kn : T4) (Ke1 : T4) (Ke0 : T3) (Kr : T0) (g : Env) (hg : E4 g x0b x0n x0c x3 x4) (h : H) (hS : n12 x0b x0n x0c x3 x4 Kn Ke1 Ke0 Kr h) : wpC none Try.prog 33 n11_c1 (Q4 Kn Ke1 Ke0 Kr) g h := by
  obtain ⟨hg0, hg3, hg4, hds⟩ := hg
  refine wpC_seq' (x := n12_c1) (y := n12_c2) (Q' := (Q4 (fun z0b z0n z0c z3 z4 h => n13 z0b z0n z0c z3 z4 Kn Ke1 Ke0 Kr h) Ke1 Ke0 Kr)) (by kernel_rfl) ?_ ?_
  · refine wpC_of_wpx (by kernel_rfl) (by kernel_rfl) (g' := (((⟨g.v, []⟩ : Env).upd (some 0) (.slice x0b x0n x0c)).upd (some 3) (S x3)).upd (some 4) (.int .i64 x4)) (by rw [env_ds hds, upd_self hg0, upd_self hg3, upd_self hg4]) ?_
    have e : (n12 x0b x0n x0c x3 x4 Kn Ke1 Ke0 Kr h) = wpx none Try.prog 33 n12_c1 (Q4 (fun z0b z0n z0c z3 z4 h => n13 z0b z0n z0c z3 z4 Kn Ke1 Ke0 Kr h) Ke1 Ke0 Kr) ((((⟨g.v, []⟩ : Env).upd (some 0) (.slice x0b x0n x0c)).upd (some 3) (S x3)).upd (some 4) (.int .i64 x4)) h := by kernel_rfl
    exact e ▸ hS
  · intro e g' h' hq
    cases e with
    | normal =>
      have hq : D4 (fun z0b z0n z0c z3 z4 h => n13 z0b z0n z0c z3 z4 Kn Ke1 Ke0 Kr h) g' h' := hq
      obtain ⟨y0b, y0n, y0c, y3, y4, hg', hq⟩ := D4_ok hq
      exact n13_ok y0b y0n y0c y3 y4 Kn Ke1 Ke0 Kr g' hg' h' hq
    | _ => exact hq
abbrev n11 (x0b : Option Addr) (x0n : Nat) (x0c : Nat) (x3 : List UInt8) (x4 : Int) (Kn : T4) (Ke0 : T3) (Kr : T0) (h : H) : Prop := n12 x0b x0n x0c x3 x4 Kn Kn Ke0 Kr h
theorem n11_ok (x0b : Option Addr) (x0n : Nat) (x0c : Nat) (x3 : List UInt8) (x4 : Int) (Kn : T4) (Ke0 : T3) (Kr : T0) (g : Env) (hg : E4 g x0b x0n x0c x3 x4) (h : H) (hS : n11 x0b x0n x0c x3 x4 Kn Ke0 Kr h) : wpC none Try.prog 33 n9_c1 (Q3 Kn Ke0 Kr) g h := by
  refine wpC_block' (id := 1) (x := n11_c1) (by kernel_rfl) (n12_ok x0b x0n x0c x3 x4 Kn Kn Ke0 Kr g hg h hS) ?_
  intro e g' h' hq
  cases e <;> exact hq
abbrev n9 (x0b : Option Addr) (x0n : Nat) (x0c : Nat) (x3 : List UInt8) (x4 : Int) (Kn : T4) (Ke0 : T3) (Kr : T0) (h : H) : Prop := n11 x0b x0n x0c x3 x4 (fun z0b z0n z0c z3 z4 h => n10 z0b z0n z0c z3 z4 Kn Ke0 Kr h) Ke0 Kr h
theorem n9_ok (x0b : Option Addr) (x0n : Nat) (x0c : Nat) (x3 : List UInt8) (x4 : Int) (Kn : T4) (Ke0 : T3) (Kr : T0) (g : Env) (hg : E4 g x0b x0n x0c x3 x4) (h : H) (hS : n9 x0b x0n x0c x3 x4 Kn Ke0 Kr h) : wpC none Try.prog 33 n8_c2 (Q3 Kn Ke0 Kr) g h := by
  refine wpC_seq' (x := n9_c1) (y := n9_c2) (by kernel_rfl) (n11_ok x0b x0n x0c x3 x4 (fun z0b z0n z0c z3 z4 h => n10 z0b z0n z0c z3 z4 Kn Ke0 Kr h) Ke0 Kr g hg h hS) ?_
  intro e g' h' hq
  cases e with
  | normal =>
    have hq : D4 (fun z0b z0n z0c z3 z4 h => n10 z0b z0n z0c z3 z4 Kn Ke0 Kr h) g' h' := hq
    obtain ⟨y0b, y0n, y0c, y3, y4, hg', hq⟩ := D4_ok hq
    exact n10_ok y0b y0n y0c y3 y4 Kn Ke0 Kr g' hg' h' hq
  | _ => exact hq
abbrev n8 (x0b : Option Addr) (x0n : Nat) (x0c : Nat) (x3 : List UInt8) (x4 : Int) (Kn : T4) (Ke0 : T3) (Kr : T0) (h : H) : Prop :=
  Spl (x4 < (x0n : Int)) (n9 x0b x0n x0c x3 x4 Kn Ke0 Kr h) (Ke0 x3 h)
theorem n8_ok (x0b : Option Addr) (x0n : Nat) (x0c : Nat) (x3 : List UInt8) (x4 : Int) (Kn : T4) (Ke0 : T3) (Kr : T0) (g : Env) (hg : E4 g x0b x0n x0c x3 x4) (h : H) (hS : n8 x0b x0n x0c x3 x4 Kn Ke0 Kr h) : wpC none Try.prog 33 n7_c1 (Q3 Kn Ke0 Kr) g h := by
  obtain ⟨hg0, hg3, hg4, hds⟩ := hg
  refine wpC_seq' (x := n8_c1) (y := n8_c2) (Q' := (Q3 (fun z0b z0n z0c z3 z4 h => n9 z0b z0n z0c z3 z4 Kn Ke0 Kr h) Ke0 Kr)) (by kernel_rfl) ?_ ?_
  · refine wpC_of_wpx (by kernel_rfl) (by kernel_rfl) (g' := (((⟨g.v, []⟩ : Env).upd (some 0) (.slice x0b x0n x0c)).upd (some 3) (S x3)).upd (some 4) (.int .i64 x4)) (by rw [env_ds hds, upd_self hg0, upd_self hg3, upd_self hg4]) ?_
    have e : (n8 x0b x0n x0c x3 x4 Kn Ke0 Kr h) = wpx none Try.prog 33 n8_c1 (Q3 (fun z0b z0n z0c z3 z4 h => n9 z0b z0n z0c z3 z4 Kn Ke0 Kr h) Ke0 Kr) ((((⟨g.v, []⟩ : Env).upd (some 0) (.slice x0b x0n x0c)).upd (some 3) (S x3)).upd (some 4) (.int .i64 x4)) h := by kernel_rfl
    exact e ▸ hS
  · intro e g' h' hq
    cases e with
    | normal =>
      have hq : D4 (fun z0b z0n z0c z3 z4 h => n9 z0b z0n z0c z3 z4 Kn Ke0 Kr h) g' h' := hq
      obtain ⟨y0b, y0n, y0c, y3, y4, hg', hq⟩ := D4_ok hq
      exact n9_ok y0b y0n y0c y3 y4 Kn Ke0 Kr g' hg' h' hq
    | _ => exact hq
def n7_L (Kn : T3) (Ke0 : T3) (Kr : T0) : Nat → (Option Addr) → Nat → Nat → (List UInt8) → Int → H → Prop
  | 0 => fun _ _ _ _ _ _ => False
  | N + 1 => fun x0b x0n x0c x3 x4 h => n8 x0b x0n x0c x3 x4 (fun z0b z0n z0c z3 z4 h => n7_L Kn Ke0 Kr N z0b z0n z0c z3 z4 h) Ke0 Kr h
abbrev n7 (x0b : Option Addr) (x0n : Nat) (x0c : Nat) (x3 : List UInt8) (x4 : Int) (Kn : T3) (Ke0 : T3) (Kr : T0) (h : H) : Prop := ∃ N, n7_L Kn Ke0 Kr N x0b x0n x0c x3 x4 h
theorem n7_ok (x0b : Option Addr) (x0n : Nat) (x0c : Nat) (x3 : List UInt8) (x4 : Int) (Kn : T3) (Ke0 : T3) (Kr : T0) (g : Env) (hg : E4 g x0b x0n x0c x3 x4) (h : H) (hS : n7 x0b x0n x0c x3 x4 Kn Ke0 Kr h) : wpC none Try.prog 33 n6_c1 (Q2 Kn Ke0 Kr) g h := by
  obtain ⟨N0, hS⟩ := hS
  refine wpC_loop' (x := n7_c1) (by kernel_rfl) (fun k g h => ∃ (x0b : Option Addr) (x0n : Nat) (x0c : Nat) (x3 : List UInt8) (x4 : Int), E4 g x0b x0n x0c x3 x4 ∧ n7_L Kn Ke0 Kr k x0b x0n x0c x3 x4 h) (fun g h hr => ?_) (fun N g h hr => ?_) N0 ⟨x0b, x0n, x0c, x3, x4, hg, hS⟩
  · obtain ⟨x0b, x0n, x0c, x3, x4, hg, hS⟩ := hr
    exact hS.elim
  · obtain ⟨x0b, x0n, x0c, x3, x4, hg, hS⟩ := hr
    refine (n8_ok x0b x0n x0c x3 x4 (fun z0b z0n z0c z3 z4 h => n7_L Kn Ke0 Kr N z0b z0n z0c z3 z4 h) Ke0 Kr g hg h hS).mono ?_
    intro e g' h' hq
    cases e with
    | normal => exact D4_ok (K := (fun z0b z0n z0c z3 z4 h => n7_L Kn Ke0 Kr N z0b z0n z0c z3 z4 h)) hq
    | _ => exact hq
abbrev n6 (x0b : Option Addr) (x0n : Nat) (x0c : Nat) (x3 : List UInt8) (x4 : Int) (Kn : T3) (Kr : T0) (h : H) : Prop := n7 x0b x0n x0c x3 x4 Kn Kn Kr h
theorem n6_ok (x0b : Option Addr) (x0n : Nat) (x0c : Nat) (x3 : List UInt8) (x4 : Int) (Kn : T3) (Kr : T0) (g : Env) (hg : E4 g x0b x0n x0c x3 x4) (h : H) (hS : n6 x0b x0n x0c x3 x4 Kn Kr h) : wpC none Try.prog 33 n5_c2 (Q1 Kn Kr) g h := by
  refine wpC_block' (id := 0) (x := n6_c1) (by kernel_rfl) (n7_ok x0b x0n x0c x3 x4 Kn Kn Kr g hg h hS) ?_
  intro e g' h' hq
  cases e <;> exact hq
def Q5 (Kn : T4) (Kr : T0) : XPost
  | .normal, g, h => D4 Kn g h
  | .ret, g, h => D0 Kr g h
  | _, _, _ => False
abbrev n5 (x0b : Option Addr) (x0n : Nat) (x0c : Nat) (x3 : List UInt8) (Kn : T3) (Kr : T0) (h : H) : Prop :=
  n6 x0b x0n x0c x3 (0 : Int) Kn Kr h
theorem n5_ok (x0b : Option Addr) (x0n : Nat) (x0c : Nat) (x3 : List UInt8) (Kn : T3) (Kr : T0) (g : Env) (hg : E2 g x0b x0n x0c x3) (h : H) (hS : n5 x0b x0n x0c x3 Kn Kr h) : wpC none Try.prog 33 n3_c1 (Q1 Kn Kr) g h := by
  obtain ⟨hg0, hg3, hds⟩ := hg
  refine wpC_seq' (x := n5_c1) (y := n5_c2) (Q' := (Q5 (fun z0b z0n z0c z3 z4 h => n6 z0b z0n z0c z3 z4 Kn Kr h) Kr)) (by kernel_rfl) ?_ ?_
  · refine wpC_of_wpx (by kernel_rfl) (by kernel_rfl) (g' := ((⟨g.v, []⟩ : Env).upd (some 0) (.slice x0b x0n x0c)).upd (some 3) (S x3)) (by rw [env_ds hds, upd_self hg0, upd_self hg3]) ?_
    have e : (n5 x0b x0n x0c x3 Kn Kr h) = wpx none Try.prog 33 n5_c1 (Q5 (fun z0b z0n z0c z3 z4 h => n6 z0b z0n z0c z3 z4 Kn Kr h) Kr) (((⟨g.v, []⟩ : Env).upd (some 0) (.slice x0b x0n x0c)).upd (some 3) (S x3)) h := by kernel_rfl
    exact e ▸ hS
  · intro e g' h' hq
    cases e with
    | normal =>
      have hq : D4 (fun z0b z0n z0c z3 z4 h => n6 z0b z0n z0c z3 z4 Kn Kr h) g' h' := hq
      obtain ⟨y0b, y0n, y0c, y3, y4, hg', hq⟩ := D4_ok hq
      exact n6_ok y0b y0n y0c y3 y4 Kn Kr g' hg' h' hq
    | _ => exact hq
abbrev n3 (x0b : Option Addr) (x0n : Nat) (x0c : Nat) (x3 : List UInt8) (Kn : T0) (Kr : T0) (h : H) : Prop := n5 x0b x0n x0c x3 (fun z3 h => n4 z3 Kn Kr h) Kr h
theorem n3_ok (x0b : Option Addr) (x0n : Nat) (x0c : Nat) (x3 : List UInt8) (Kn : T0) (Kr : T0) (g : Env) (hg : E2 g x0b x0n x0c x3) (h : H) (hS : n3 x0b x0n x0c x3 Kn Kr h) : wpC none Try.prog 33 n2_c2 (Q0 Kn Kr) g h := by
  refine wpC_seq' (x := n3_c1) (y := n3_c2) (by kernel_rfl) (n5_ok x0b x0n x0c x3 (fun z3 h => n4 z3 Kn Kr h) Kr g hg h hS) ?_
  intro e g' h' hq
  cases e with
  | normal =>
    have hq : D3 (fun z3 h => n4 z3 Kn Kr h) g' h' := hq
    obtain ⟨y3, hg', hq⟩ := D3_ok hq
    exact n4_ok y3 Kn Kr g' hg' h' hq
  | _ => exact hq
def Q6 (Kn : T2) (Kr : T0) : XPost
  | .normal, g, h => D2 Kn g h
  | .ret, g, h => D0 Kr g h
  | _, _, _ => False
abbrev n2 (x0b : Option Addr) (x0n : Nat) (x0c : Nat) (Kn : T0) (Kr : T0) (h : H) : Prop :=
  n3 x0b x0n x0c ([] : List UInt8) Kn Kr h
theorem n2_ok (x0b : Option Addr) (x0n : Nat) (x0c : Nat) (Kn : T0) (Kr : T0) (g : Env) (hg : E1 g x0b x0n x0c) (h : H) (hS : n2 x0b x0n x0c Kn Kr h) : wpC none Try.prog 33 n1_c2 (Q0 Kn Kr) g h := by
  obtain ⟨hg0, hds⟩ := hg
  refine wpC_seq' (x := n2_c1) (y := n2_c2) (Q' := (Q6 (fun z0b z0n z0c z3 h => n3 z0b z0n z0c z3 Kn Kr h) Kr)) (by kernel_rfl) ?_ ?_
  · refine wpC_of_wpx (by kernel_rfl) (by kernel_rfl) (g' := (⟨g.v, []⟩ : Env).upd (some 0) (.slice x0b x0n x0c)) (by rw [env_ds hds, upd_self hg0]) ?_
    have e : (n2 x0b x0n x0c Kn Kr h) = wpx none Try.prog 33 n2_c1 (Q6 (fun z0b z0n z0c z3 h => n3 z0b z0n z0c z3 Kn Kr h) Kr) ((⟨g.v, []⟩ : Env).upd (some 0) (.slice x0b x0n x0c)) h := by kernel_rfl
    exact e ▸ hS
  · intro e g' h' hq
    cases e with
    | normal =>
      have hq : D2 (fun z0b z0n z0c z3 h => n3 z0b z0n z0c z3 Kn Kr h) g' h' := hq
      obtain ⟨y0b, y0n, y0c, y3, hg', hq⟩ := D2_ok hq
      exact n3_ok y0b y0n y0c y3 Kn Kr g' hg' h' hq
    | _ => exact hq
def Q7 (Kn : T1) (Kr : T0) : XPost
  | .normal, g, h => D1 Kn g h
  | .ret, g, h => D0 Kr g h
  | _, _, _ => False
abbrev n1 (x0b : Option Addr) (x0n : Nat) (x0c : Nat) (Kn : T0) (Kr : T0) (h : H) : Prop :=
  n2 x0b x0n x0c Kn Kr h
theorem n1_ok (x0b : Option Addr) (x0n : Nat) (x0c : Nat) (Kn : T0) (Kr : T0) (g : Env) (hg : E1 g x0b x0n x0c) (h : H) (hS : n1 x0b x0n x0c Kn Kr h) : wpC none Try.prog 33 code (Q0 Kn Kr) g h := by
  obtain ⟨hg0, hds⟩ := hg
  refine wpC_seq' (x := n1_c1) (y := n1_c2) (Q' := (Q7 (fun z0b z0n z0c h => n2 z0b z0n z0c Kn Kr h) Kr)) (by kernel_rfl) ?_ ?_
  · refine wpC_of_wpx (by kernel_rfl) (by kernel_rfl) (g' := (⟨g.v, []⟩ : Env).upd (some 0) (.slice x0b x0n x0c)) (by rw [env_ds hds, upd_self hg0]) ?_
    have e : (n1 x0b x0n x0c Kn Kr h) = wpx none Try.prog 33 n1_c1 (Q7 (fun z0b z0n z0c h => n2 z0b z0n z0c Kn Kr h) Kr) ((⟨g.v, []⟩ : Env).upd (some 0) (.slice x0b x0n x0c)) h := by kernel_rfl
    exact e ▸ hS
  · intro e g' h' hq
    cases e with
    | normal =>
      have hq : D1 (fun z0b z0n z0c h => n2 z0b z0n z0c Kn Kr h) g' h' := hq
      obtain ⟨y0b, y0n, y0c, hg', hq⟩ := D1_ok hq
      exact n2_ok y0b y0n y0c Kn Kr g' hg' h' hq
    | _ => exact hq
/-- WHAT tympan/tympanlaw13.text ASKS -/
abbrev asks (x0b : Option Addr) (x0n : Nat) (x0c : Nat) (K : Value → H → Prop) (h : H) : Prop := n1 x0b x0n x0c (fun y2 h => K (S y2) h) (fun y2 h => K (S y2) h) h
theorem ok (x0b : Option Addr) (x0n : Nat) (x0c : Nat) (K : Value → H → Prop) (h : H) (hS : asks x0b x0n x0c K h) : HCalls Try.prog 11 ⟨[(.slice x0b x0n x0c)]⟩ h K := by
  refine calls_of_wpC (c := code) Try.func11 (by kernel_rfl) (Nat.le_of_ble_eq_true (by kernel_rfl)) ?_
  refine (n1_ok x0b x0n x0c (fun y2 h => K (S y2) h) (fun y2 h => K (S y2) h) (env0 [(.slice x0b x0n x0c)]) ⟨rfl, rfl⟩ h hS).mono ?_
  intro e g' h' hq
  cases e with
  | normal =>
    have hq : D0 (fun y2 h => K (S y2) h) g' h' := hq
    obtain ⟨y2, ⟨hg2, hd⟩, hq⟩ := D0_ok hq
    show leaveX g'.ds h' _
    rw [hd]
    show K (g'.v 2) h'
    rw [hg2]
    exact hq
  | ret =>
    have hq : D0 (fun y2 h => K (S y2) h) g' h' := hq
    obtain ⟨y2, ⟨hg2, hd⟩, hq⟩ := D0_ok hq
    show leaveX g'.ds h' _
    rw [hd]
    show K (g'.v 2) h'
    rw [hg2]
    exact hq
  | _ => exact hq
end Sx.l13_text

/-! ### tympan/tympanref00.Tokens -/
namespace Sx.r00_Tokens
noncomputable def code : Code := bodyOf Try.f16
abbrev T0 := Int → H → Prop
def E0 (g : Env) (x4 : Int) : Prop := g.v 4 = (.int .i64 x4) ∧ g.ds = []
def D0 (K : T0) (g : Env) (h : H) : Prop := nilDs g.ds (vInt .i64 (g.v 4) fun i1 => K i1 h)
theorem D0_ok {K : T0} {g : Env} {h : H} (hq : D0 K g h) : ∃ (x4 : Int), E0 g x4 ∧ K x4 h := by
  obtain ⟨hd, hq⟩ := nilDs_ok hq
  obtain ⟨y3, e2, q4⟩ := vInt_ok hq
  exact ⟨y3, ⟨e2, hd⟩, q4⟩
def Q0 (Kn : T0) (Kr : T0) : XPost
  | .normal, g, h => D0 Kn g h
  | .ret, g, h => D0 Kr g h
  | _, _, _ => False
abbrev T1 := (Option Addr) → Nat → Nat → Int → H → Prop
def E1 (g : Env) (x0b : Option Addr) (x0n : Nat) (x0c : Nat) (x1 : Int) : Prop := g.v 0 = (.slice x0b x0n x0c) ∧ g.v 1 = (.int .i64 x1) ∧ g.ds = []
def D1 (K : T1) (g : Env) (h : H) : Prop := nilDs g.ds (vSlice (g.v 0) fun s5b s5n s5c => vInt .i64 (g.v 1) fun i6 => K s5b s5n s5c i6 h)
theorem D1_ok {K : T1} {g : Env} {h : H} (hq : D1 K g h) : ∃ (x0b : Option Addr) (x0n : Nat) (x0c : Nat) (x1 : Int), E1 g x0b x0n x0c x1 ∧ K x0b x0n x0c x1 h := by
  obtain ⟨hd, hq⟩ := nilDs_ok hq
  obtain ⟨y8b, y8n, y8c, e7, q9⟩ := vSlice_ok hq
  obtain ⟨y11, e10, q12⟩ := vInt_ok q9
  exact ⟨y8b, y8n, y8c, y11, ⟨e7, e10, hd⟩, q12⟩
noncomputable def n1_c1 : Code := cFst code
noncomputable def n1_c2 : Code := cSnd code
noncomputable def n2_c1 : Code := cFst n1_c2
noncomputable def n2_c2 : Code := cSnd n1_c2
abbrev T2 := (Option Addr) → Nat → Nat → Int → Int → H → Prop
def E2 (g : Env) (x0b : Option Addr) (x0n : Nat) (x0c : Nat) (x1 : Int) (x5 : Int) : Prop := g.v 0 = (.slice x0b x0n x0c) ∧ g.v 1 = (.int .i64 x1) ∧ g.v 5 = (.int .i64 x5) ∧ g.ds = []
def D2 (K : T2) (g : Env) (h : H) : Prop := nilDs g.ds (vSlice (g.v 0) fun s13b s13n s13c => vInt .i64 (g.v 1) fun i14 => vInt .i64 (g.v 5) fun i15 => K s13b s13n s13c i14 i15 h)
theorem D2_ok {K : T2} {g : Env} {h : H} (hq : D2 K g h) : ∃ (x0b : Option Addr) (x0n : Nat) (x0c : Nat) (x1 : Int) (x5 : Int), E2 g x0b x0n x0c x1 x5 ∧ K x0b x0n x0c x1 x5 h := by
  obtain ⟨hd, hq⟩ := nilDs_ok hq
  obtain ⟨y17b, y17n, y17c, e16, q18⟩ := vSlice_ok hq
  obtain ⟨y20, e19, q21⟩ := vInt_ok q18
  obtain ⟨y23, e22, q24⟩ := vInt_ok q21
  exact ⟨y17b, y17n, y17c, y20, y23, ⟨e16, e19, e22, hd⟩, q24⟩
noncomputable def n3_c1 : Code := cFst n2_c2
noncomputable def n3_c2 : Code := cSnd n2_c2
abbrev T3 := Int → H → Prop
def E3 (g : Env) (x5 : Int) : Prop := g.v 5 = (.int .i64 x5) ∧ g.ds = []
def D3 (K : T3) (g : Env) (h : H) : Prop := nilDs g.ds (vInt .i64 (g.v 5) fun i25 => K i25 h)
theorem D3_ok {K : T3} {g : Env} {h : H} (hq : D3 K g h) : ∃ (x5 : Int), E3 g x5 ∧ K x5 h := by
  obtain ⟨hd, hq⟩ := nilDs_ok hq
  obtain ⟨y27, e26, q28⟩ := vInt_ok hq
  exact ⟨y27, ⟨e26, hd⟩, q28⟩
abbrev n4 (x5 : Int) (Kn : T0) (Kr : T0) (h : H) : Prop :=
  Kr x5 h
theorem n4_ok (x5 : Int) (Kn : T0) (Kr : T0) (g : Env) (hg : E3 g x5) (h : H) (hS : n4 x5 Kn Kr h) : wpC none Try.prog 79 n3_c2 (Q0 Kn Kr) g h := by
  obtain ⟨hg5, hds⟩ := hg
  refine wpC_of_wpx (by kernel_rfl) (by kernel_rfl) (g' := (⟨g.v, []⟩ : Env).upd (some 5) (.int .i64 x5)) (by rw [env_ds hds, upd_self hg5]) ?_
  have e : (n4 x5 Kn Kr h) = wpx none Try.prog 79 n3_c2 (Q0 Kn Kr) ((⟨g.v, []⟩ : Env).upd (some 5) (.int .i64 x5)) h := by kernel_rfl
  exact e ▸ hS
def Q1 (Kn : T3) (Kr : T0) : XPost
  | .normal, g, h => D3 Kn g h
  | .ret, g, h => D0 Kr g h
  | _, _, _ => False
noncomputable def n5_c1 : Code := cFst n3_c1
noncomputable def n5_c2 : Code := cSnd n3_c1
abbrev T4 := (Option Addr) → Nat → Nat → Int → Int → Int → H → Prop
def E4 (g : Env) (x0b : Option Addr) (x0n : Nat) (x0c : Nat) (x1 : Int) (x5 : Int) (x6 : Int) : Prop := g.v 0 = (.slice x0b x0n x0c) ∧ g.v 1 = (.int .i64 x1) ∧ g.v 5 = (.int .i64 x5) ∧ g.v 6 = (.int .i64 x6) ∧ g.ds = []
def D4 (K : T4) (g : Env) (h : H) : Prop := nilDs g.ds (vSlice (g.v 0) fun s29b s29n s29c => vInt .i64 (g.v 1) fun i30 => vInt .i64 (g.v 5) fun i31 => vInt .i64 (g.v 6) fun i32 => K s29b s29n s29c i30 i31 i32 h)
theorem D4_ok {K : T4} {g : Env} {h : H} (hq : D4 K g h) : ∃ (x0b : Option Addr) (x0n : Nat) (x0c : Nat) (x1 : Int) (x5 : Int) (x6 : Int), E4 g x0b x0n x0c x1 x5 x6 ∧ K x0b x0n x0c x1 x5 x6 h := by
  obtain ⟨hd, hq⟩ := nilDs_ok hq
  obtain ⟨y34b, y34n, y34c, e33, q35⟩ := vSlice_ok hq
  obtain ⟨y37, e36, q38⟩ := vInt_ok q35
  obtain ⟨y40, e39, q41⟩ := vInt_ok q38
  obtain ⟨y43, e42, q44⟩ := vInt_ok q41
  exact ⟨y34b, y34n, y34c, y37, y40, y43, ⟨e33, e36, e39, e42, hd⟩, q44⟩
noncomputable def n6_c1 : Code := cFst n5_c2
def Q2 (Kn : T3) (Ke0 : T3) (Kr : T0) : XPost
  | .normal, g, h => D3 Kn g h
  | .ret, g, h => D0 Kr g h
  | .exit id, g, h => cond (Nat.beq id 0) (D3 Ke0 g h) (False)
  | _, _, _ => False
noncomputable def n7_c1 : Code := cFst n6_c1
def Q3 (Kn : T4) (Ke0 : T3) (Kr : T0) : XPost
  | .normal, g, h => D4 Kn g h
  | .ret, g, h => D0 Kr g h
  | .exit id, g, h => cond (Nat.beq id 0) (D3 Ke0 g h) (False)
  | _, _, _ => False
noncomputable def n8_c1 : Code := cFst n7_c1
noncomputable def n8_c2 : Code := cSnd n7_c1
noncomputable def n9_c1 : Code := cFst n8_c2
noncomputable def n9_c2 : Code := cSnd n8_c2
abbrev n10 (x0b : Option Addr) (x0n : Nat) (x0c : Nat) (x1 : Int) (x5 : Int) (x6 : Int) (Kn : T4) (Ke0 : T3) (Kr : T0) (h : H) : Prop :=
  Rng .i64 (x6 + (1 : Int)) ∧ (Kn x0b x0n x0c x1 x5 (x6 + (1 : Int)) h)
theorem n10_ok (x0b : Option Addr) (x0n : Nat) (x0c : Nat) (x1 : Int) (x5 : Int) (x6 : Int) (Kn : T4) (Ke0 : T3) (Kr : T0) (g : Env) (hg : E4 g x0b x0n x0c x1 x5 x6) (h : H) (hS : n10 x0b x0n x0c x1 x5 x6 Kn Ke0 Kr h) : wpC none Try.prog 79 n9_c2 (Q3 Kn Ke0 Kr) g h := by
  obtain ⟨hg0, hg1, hg5, hg6, hds⟩ := hg
  refine wpC_of_wpx (by kernel_rfl) (by kernel_rfl) (g' := ((((⟨g.v, []⟩ : Env).upd (some 0) (.slice x0b x0n x0c)).upd (some 1) (.int .i64 x1)).upd (some 5) (.int .i64 x5)).upd (some 6) (.int .i64 x6)) (by rw [env_ds hds, upd_self hg0, upd_self hg1, upd_self hg5, upd_self hg6]) ?_
  have e : (n10 x0b x0n x0c x1 x5 x6 Kn Ke0 Kr h) = wpx none Try.prog 79 n9_c2 (Q3 Kn Ke0 Kr) (((((⟨g.v, []⟩ : Env).upd (some 0) (.slice x0b x0n x0c)).upd (some 1) (.int .i64 x1)).upd (some 5) (.int .i64 x5)).upd (some 6) (.int .i64 x6)) h := by kernel_rfl
  exact e ▸ hS
noncomputable def n11_c1 : Code := cFst n9_c1
def Q4 (Kn : T4) (Ke1 : T4) (Ke0 : T3) (Kr : T0) : XPost
  | .normal, g, h => D4 Kn g h
  | .ret, g, h => D0 Kr g h
  | .exit id, g, h => cond (Nat.beq id 1) (D4 Ke1 g h) (cond (Nat.beq id 0) (D3 Ke0 g h) (False))
  | _, _, _ => False
noncomputable def n12_c1 : Code := cFst n11_c1
noncomputable def n12_c2 : Code := cSnd n11_c1
noncomputable def n13_c1 : Code := cFst n12_c2
noncomputable def n13_c2 : Code := cSnd n12_c2
abbrev T5 := (Option Addr) → Nat → Nat → Int → Int → Int → Int → H → Prop
def E5 (g : Env) (x0b : Option Addr) (x0n : Nat) (x0c : Nat) (x1 : Int) (x5 : Int) (x6 : Int) (x7 : Int) : Prop := g.v 0 = (.slice x0b x0n x0c) ∧ g.v 1 = (.int .i64 x1) ∧ g.v 5 = (.int .i64 x5) ∧ g.v 6 = (.int .i64 x6) ∧ g.v 7 = (.int .i64 x7) ∧ g.ds = []
def D5 (K : T5) (g : Env) (h : H) : Prop := nilDs g.ds (vSlice (g.v 0) fun s45b s45n s45c => vInt .i64 (g.v 1) fun i46 => vInt .i64 (g.v 5) fun i47 => vInt .i64 (g.v 6) fun i48 => vInt .i64 (g.v 7) fun i49 => K s45b s45n s45c i46 i47 i48 i49 h)
theorem D5_ok {K : T5} {g : Env} {h : H} (hq : D5 K g h) : ∃ (x0b : Option Addr) (x0n : Nat) (x0c : Nat) (x1 : Int) (x5 : Int) (x6 : Int) (x7 : Int), E5 g x0b x0n x0c x1 x5 x6 x7 ∧ K x0b x0n x0c x1 x5 x6 x7 h := by
  obtain ⟨hd, hq⟩ := nilDs_ok hq
  obtain ⟨y51b, y51n, y51c, e50, q52⟩ := vSlice_ok hq
  obtain ⟨y54, e53, q55⟩ := vInt_ok q52
  obtain ⟨y57, e56, q58⟩ := vInt_ok q55
  obtain ⟨y60, e59, q61⟩ := vInt_ok q58
  obtain ⟨y63, e62, q64⟩ := vInt_ok q61
  exact ⟨y51b, y51n, y51c, y54, y57, y60, y63, ⟨e50, e53, e56, e59, e62, hd⟩, q64⟩
noncomputable def n14_c1 : Code := cFst n13_c2
def Q5 (Kn : T4) (Ke2 : T4) (Ke1 : T4) (Ke0 : T3) (Kr : T0) : XPost
  | .normal, g, h => D4 Kn g h
  | .ret, g, h => D0 Kr g h
  | .exit id, g, h => cond (Nat.beq id 2) (D4 Ke2 g h) (cond (Nat.beq id 1) (D4 Ke1 g h) (cond (Nat.beq id 0) (D3 Ke0 g h) (False)))
  | _, _, _ => False
noncomputable def n15_c1 : Code := cFst n14_c1
def Q6 (Kn : T5) (Ke2 : T4) (Ke1 : T4) (Ke0 : T3) (Kr : T0) : XPost
  | .normal, g, h => D5 Kn g h
  | .ret, g, h => D0 Kr g h
  | .exit id, g, h => cond (Nat.beq id 2) (D4 Ke2 g h) (cond (Nat.beq id 1) (D4 Ke1 g h) (cond (Nat.beq id 0) (D3 Ke0 g h) (False)))
  | _, _, _ => False
def n15_L (Kn : T4) (Ke2 : T4) (Ke1 : T4) (Ke0 : T3) (Kr : T0) : Nat → (Option Addr) → Nat → Nat → Int → Int → Int → Int → H → Prop
  | 0 => fun _ _ _ _ _ _ _ _ => False
  | N + 1 => fun x0b x0n x0c x1 x5 x6 x7 h => (0 ≤ x6 ∧ x6 < (x0n : Int)) ∧ (vSome x0b fun a65 => ∃ s66b s66n s66c, cell h ((a65.add (Int.toNat x6 * 5)).add 2) = some (.slice s66b s66n s66c) ∧ (Spl (x7 < (s66n : Int)) (Spl (x5 ≤ x1) ((0 ≤ x6 ∧ x6 < (x0n : Int)) ∧ (vSome x0b fun a67 => ∃ s68b s68n s68c, cell h ((a67.add (Int.toNat x6 * 5)).add 2) = some (.slice s68b s68n s68c) ∧ ((0 ≤ x7 ∧ x7 < (s68n : Int)) ∧ (vSome s68b fun a69 => ∃ s70, cell h ((a69.add (Int.toNat x7 * 2)).add 0) = some (S s70) ∧ ((8 : Int) ≠ 0 ∧ (Rng .i64 (Int.tdiv (s70.length : Int) (8 : Int)) ∧ (Rng .i64 ((1 : Int) + (Int.tdiv (s70.length : Int) (8 : Int))) ∧ ((0 ≤ x6 ∧ x6 < (x0n : Int)) ∧ (vSome x0b fun a71 => ∃ s72b s72n s72c, cell h ((a71.add (Int.toNat x6 * 5)).add 2) = some (.slice s72b s72n s72c) ∧ ((0 ≤ x7 ∧ x7 < (s72n : Int)) ∧ (vSome s72b fun a73 => ∃ s74, cell h ((a73.add (Int.toNat x7 * 2)).add 1) = some (S s74) ∧ ((8 : Int) ≠ 0 ∧ (Rng .i64 (Int.tdiv (s74.length : Int) (8 : Int)) ∧ (Rng .i64 (((1 : Int) + (Int.tdiv (s70.length : Int) (8 : Int))) + (Int.tdiv (s74.length : Int) (8 : Int))) ∧ (Rng .i64 (x5 + (((1 : Int) + (Int.tdiv (s70.length : Int) (8 : Int))) + (Int.tdiv (s74.length : Int) (8 : Int)))) ∧ (Rng .i64 (x7 + (1 : Int)) ∧ (n15_L Kn Ke2 Ke1 Ke0 Kr N x0b x0n x0c x1 (x5 + (((1 : Int) + (Int.tdiv (s70.length : Int) (8 : Int))) + (Int.tdiv (s74.length : Int) (8 : Int)))) x6 (x7 + (1 : Int)) h))))))))))))))))) (Ke2 x0b x0n x0c x1 x5 x6 h)) (Ke2 x0b x0n x0c x1 x5 x6 h)))
abbrev n15 (x0b : Option Addr) (x0n : Nat) (x0c : Nat) (x1 : Int) (x5 : Int) (x6 : Int) (x7 : Int) (Kn : T4) (Ke2 : T4) (Ke1 : T4) (Ke0 : T3) (Kr : T0) (h : H) : Prop := ∃ N, n15_L Kn Ke2 Ke1 Ke0 Kr N x0b x0n x0c x1 x5 x6 x7 h
theorem n15_ok (x0b : Option Addr) (x0n : Nat) (x0c : Nat) (x1 : Int) (x5 : Int) (x6 : Int) (x7 : Int) (Kn : T4) (Ke2 : T4) (Ke1 : T4) (Ke0 : T3) (Kr : T0) (g : Env) (hg : E5 g x0b x0n x0c x1 x5 x6 x7) (h : H) (hS : n15 x0b x0n x0c x1 x5 x6 x7 Kn Ke2 Ke1 Ke0 Kr h) : wpC none Try.prog 79 n14_c1 (Q5 Kn Ke2 Ke1 Ke0 Kr) g h := by
  obtain ⟨N0, hS⟩ := hS
  refine wpC_loop' (x := n15_c1) (by kernel_rfl) (fun k g h => ∃ (x0b : Option Addr) (x0n : Nat) (x0c : Nat) (x1 : Int) (x5 : Int) (x6 : Int) (x7 : Int), E5 g x0b x0n x0c x1 x5 x6 x7 ∧ n15_L Kn Ke2 Ke1 Ke0 Kr k x0b x0n x0c x1 x5 x6 x7 h) (fun g h hr => ?_) (fun N g h hr => ?_) N0 ⟨x0b, x0n, x0c, x1, x5, x6, x7, hg, hS⟩
  · obtain ⟨x0b, x0n, x0c, x1, x5, x6, x7, hg, hS⟩ := hr
    exact hS.elim
  · obtain ⟨x0b, x0n, x0c, x1, x5, x6, x7, hg, hS⟩ := hr
    have hw : wpC none Try.prog 79 n15_c1 (Q6 (fun z0b z0n z0c z1 z5 z6 z7 h => n15_L Kn Ke2 Ke1 Ke0 Kr N z0b z0n z0c z1 z5 z6 z7 h) Ke2 Ke1 Ke0 Kr) g h := by
      obtain ⟨hg0, hg1, hg5, hg6, hg7, hds⟩ := hg
      refine wpC_of_wpx (by kernel_rfl) (by kernel_rfl) (g' := (((((⟨g.v, []⟩ : Env).upd (some 0) (.slice x0b x0n x0c)).upd (some 1) (.int .i64 x1)).upd (some 5) (.int .i64 x5)).upd (some 6) (.int .i64 x6)).upd (some 7) (.int .i64 x7)) (by rw [env_ds hds, upd_self hg0, upd_self hg1, upd_self hg5, upd_self hg6, upd_self hg7]) ?_
      have e : (n15_L Kn Ke2 Ke1 Ke0 Kr (N + 1) x0b x0n x0c x1 x5 x6 x7 h) = wpx none Try.prog 79 n15_c1 (Q6 (fun z0b z0n z0c z1 z5 z6 z7 h => n15_L Kn Ke2 Ke1 Ke0 Kr N z0b z0n z0c z1 z5 z6 z7 h) Ke2 Ke1 Ke0 Kr) ((((((⟨g.v, []⟩ : Env).upd (some 0) (.slice x0b x0n x0c)).upd (some 1) (.int .i64 x1)).upd (some 5) (.int .i64 x5)).upd (some 6) (.int .i64 x6)).upd (some 7) (.int .i64 x7)) h := by kernel_rfl
      exact e ▸ hS
    refine hw.mono ?_
    intro e g' h' hq
    cases e with
    | normal => exact D5_ok (K := (fun z0b z0n z0c z1 z5 z6 z7 h => n15_L Kn Ke2 Ke1 Ke0 Kr N z0b z0n z0c z1 z5 z6 z7 h)) hq
    | _ => exact hq
abbrev n14 (x0b : Option Addr) (x0n : Nat) (x0c : Nat) (x1 : Int) (x5 : Int) (x6 : Int) (x7 : Int) (Kn : T4) (Ke1 : T4) (Ke0 : T3) (Kr : T0) (h : H) : Prop := n15 x0b x0n x0c x1 x5 x6 x7 Kn Kn Ke1 Ke0 Kr h
theorem n14_ok (x0b : Option Addr) (x0n : Nat) (x0c : Nat) (x1 : Int) (x5 : Int) (x6 : Int) (x7 : Int) (Kn : T4) (Ke1 : T4) (Ke0 : T3) (Kr : T0) (g : Env) (hg : E5 g x0b x0n x0c x1 x5 x6 x7) (h : H) (hS : n14 x0b x0n x0c x1 x5 x6 x7 Kn Ke1 Ke0 Kr h) : wpC none Try.prog 79 n13_c2 (Q4 Kn Ke1 Ke0 Kr) g h := by
  refine wpC_block' (id := 2) (x := n14_c1) (by kernel_rfl) (n15_ok x0b x0n x0c x1 x5 x6 x7 Kn Kn Ke1 Ke0 Kr g hg h hS) ?_
  intro e g' h' hq
  cases e <;> exact hq
def Q7 (Kn : T5) (Ke1 : T4) (Ke0 : T3) (Kr : T0) : XPost
  | .normal, g, h => D5 Kn g h
  | .ret, g, h => D0 Kr g h
  | .exit id, g, h => cond (Nat.beq id 1) (D4 Ke1 g h) (cond (Nat.beq id 0) (D3 Ke0 g h) (False))
  | _, _, _ => False
abbrev n13 (x0b : Option Addr) (x0n : Nat) (x0c : Nat) (x1 : Int) (x5 : Int) (x6 : Int) (Kn : T4) (Ke1 : T4) (Ke0 : T3) (Kr : T0) (h : H) : Prop :=
  n14 x0b x0n x0c x1 x5 x6 (0 : Int) Kn Ke1 Ke0 Kr h
theorem n13_ok (x0b : Option Addr) (x0n : Nat) (x0c : Nat) (x1 : Int) (x5 : Int) (x6 : Int) (Kn : T4) (Ke1 : T4) (Ke0 : T3) (Kr : T0) (g : Env) (hg : E4 g x0b x0n x0c x1 x5 x6) (h : H) (hS : n13 x0b x0n x0c x1 x5 x6 Kn Ke1 Ke0 Kr h) : wpC none Try.prog 79 n12_c2 (Q4 Kn Ke1 Ke0 Kr) g h := by
  obtain ⟨hg0, hg1, hg5, hg6, hds⟩ := hg
  refine wpC_seq' (x := n13_c1) (y := n13_c2) (Q' := (Q7 (fun z0b z0n z0c z1 z5 z6 z7 h => n14 z0b z0n z0c z1 z5 z6 z7 Kn Ke1 Ke0 Kr h) Ke1 Ke0 Kr)) (by kernel_rfl) ?_ ?_
  · refine wpC_of_wpx (by kernel_rfl) (by kernel_rfl) (g' := ((((⟨g.v, []⟩ : Env).upd (some 0) (.slice x0b x0n x0c)).upd (some 1) (.int .i64 x1)).upd (some 5) (.int .i64 x5)).upd (some 6) (.int .i64 x6)) (by rw [env_ds hds, upd_self hg0, upd_self hg1, upd_self hg5, upd_self hg6]) ?_
    have e : (n13 x0b x0n x0c x1 x5 x6 Kn Ke1 Ke0 Kr h) = wpx none Try.prog 79 n13_c1 (Q7 (fun z0b z0n z0c z1 z5 z6 z7 h => n14 z0b z0n z0c z1 z5 z6 z7 Kn Ke1 Ke0 Kr h) Ke1 Ke0 Kr) (((((⟨g.v, []⟩ : Env).upd (some 0) (.slice x0b x0n x0c)).upd (some 1) (.int .i64 x1)).upd (some 5) (.int .i64 x5)).upd (some 6) (.int .i64 x6)) h := by kernel_rfl
    exact e ▸ hS
  · intro e g' h' hq
    cases e with
    | normal =>
      have hq : D5 (fun z0b z0n z0c z1 z5 z6 z7 h => n14 z0b z0n z0c z1 z5 z6 z7 Kn Ke1 Ke0 Kr h) g' h' := hq
      obtain ⟨y0b, y0n, y0c, y1, y5, y6, y7, hg', hq⟩ := D5_ok hq
      exact n14_ok y0b y0n y0c y1 y5 y6 y7 Kn Ke1 Ke0 Kr g' hg' h' hq
    | _ => exact hq
abbrev n12 (x0b : Option Addr) (x0n : Nat) (x0c : Nat) (x1 : Int) (x5 : Int) (x6 : Int) (Kn : T4) (Ke1 : T4) (Ke0 : T3) (Kr : T0) (h : H) : Prop :=
  (0 ≤ x6 ∧ x6 < (x0n : Int)) ∧ (vSome x0b fun a75 => ∃ s76, cell h ((a75.add (Int.toNat x6 * 5)).add 4) = some (S s76) ∧ ((8 : Int) ≠ 0 ∧ (Rng .i64 (Int.tdiv (s76.length : Int) (8 : Int)) ∧ (Rng .i64 ((1 : Int) + (Int.tdiv (s76.length : Int) (8 : Int))) ∧ ((0 ≤ x6 ∧ x6 < (x0n : Int)) ∧ (vSome x0b fun a77 => ∃ s78, cell h ((a77.add (Int.toNat x6 * 5)).add 1) = some (S s78) ∧ ((8 : Int) ≠ 0 ∧ (Rng .i64 (Int.tdiv (s78.length : Int) (8 : Int)) ∧ (Rng .i64 (((1 : Int) + (Int.tdiv (s76.length : Int) (8 : Int))) + (Int.tdiv (s78.length : Int) (8 : Int))) ∧ (Rng .i64 (x5 + (((1 : Int) + (Int.tdiv (s76.length : Int) (8 : Int))) + (Int.tdiv (s78.length : Int) (8 : Int)))) ∧ (n13 x0b x0n x0c x1 (x5 + (((1 : Int) + (Int.tdiv (s76.length : Int) (8 : Int))) + (Int.tdiv (s78.length : Int) (8 : Int)))) x6 Kn Ke1 Ke0 Kr h)))))))))))
theorem n12_ok (x0b : Option Addr) (x0n : Nat) (x0c : Nat) (x1 : Int) (x5 : Int) (x6 : Int) (Kn : T4) (Ke1 : T4) (Ke0 : T3) (Kr : T0) (g : Env) (hg : E4 g x0b x0n x0c x1 x5 x6) (h : H) (hS : n12 x0b x0n x0c x1 x5 x6 Kn Ke1 Ke0 Kr h) : wpC none Try.prog 79 n11_c1 (Q4 Kn Ke1 Ke0 Kr) g h := by
  obtain ⟨hg0, hg1, hg5, hg6, hds⟩ := hg
  refine wpC_seq' (x := n12_c1) (y := n12_c2) (Q' := (Q4 (fun z0b z0n z0c z1 z5 z6 h => n13 z0b z0n z0c z1 z5 z6 Kn Ke1 Ke0 Kr h) Ke1 Ke0 Kr)) (by kernel_rfl) ?_ ?_
  · refine wpC_of_wpx (by kernel_rfl) (by kernel_rfl) (g' := ((((⟨g.v, []⟩ : Env).upd (some 0) (.slice x0b x0n x0c)).upd (some 1) (.int .i64 x1)).upd (some 5) (.int .i64 x5)).upd (some 6) (.int .i64 x6)) (by rw [env_ds hds, upd_self hg0, upd_self hg1, upd_self hg5, upd_self hg6]) ?_
    have e : (n12 x0b x0n x0c x1 x5 x6 Kn Ke1 Ke0 Kr h) = wpx none Try.prog 79 n12_c1 (Q4 (fun z0b z0n z0c z1 z5 z6 h => n13 z0b z0n z0c z1 z5 z6 Kn Ke1 Ke0 Kr h) Ke1 Ke0 Kr) (((((⟨g.v, []⟩ : Env).upd (some 0) (.slice x0b x0n x0c)).upd (some 1) (.int .i64 x1)).upd (some 5) (.int .i64 x5)).upd (some 6) (.int .i64 x6)) h := by kernel_rfl
    exact e ▸ hS
  · intro e g' h' hq
    cases e with
    | normal =>
      have hq : D4 (fun z0b z0n z0c z1 z5 z6 h => n13 z0b z0n z0c z1 z5 z6 Kn Ke1 Ke0 Kr h) g' h' := hq
      obtain ⟨y0b, y0n, y0c, y1, y5, y6, hg', hq⟩ := D4_ok hq
      exact n13_ok y0b y0n y0c y1 y5 y6 Kn Ke1 Ke0 Kr g' hg' h' hq
    | _ => exact hq
abbrev n11 (x0b : Option Addr) (x0n : Nat) (x0c : Nat) (x1 : Int) (x5 : Int) (x6 : Int) (Kn : T4) (Ke0 : T3) (Kr : T0) (h : H) : Prop := n12 x0b x0n x0c x1 x5 x6 Kn Kn Ke0 Kr h
theorem n11_ok (x0b : Option Addr) (x0n : Nat) (x0c : Nat) (x1 : Int) (x5 : Int) (x6 : Int) (Kn : T4) (Ke0 : T3) (Kr : T0) (g : Env) (hg : E4 g x0b x0n x0c x1 x5 x6) (h : H) (hS : n11 x0b x0n x0c x1 x5 x6 Kn Ke0 Kr h) : wpC none Try.prog 79 n9_c1 (Q3 Kn Ke0 Kr) g h := by
  refine wpC_block' (id := 1) (x := n11_c1) (by kernel_rfl) (n12_ok x0b x0n x0c x1 x5 x6 Kn Kn Ke0 Kr g hg h hS) ?_
  intro e g' h' hq
  cases e <;> exact hq
abbrev n9 (x0b : Option Addr) (x0n : Nat) (x0c : Nat) (x1 : Int) (x5 : Int) (x6 : Int) (Kn : T4) (Ke0 : T3) (Kr : T0) (h : H) : Prop := n11 x0b x0n x0c x1 x5 x6 (fun z0b z0n z0c z1 z5 z6 h => n10 z0b z0n z0c z1 z5 z6 Kn Ke0 Kr h) Ke0 Kr h
theorem n9_ok (x0b : Option Addr) (x0n : Nat) (x0c : Nat) (x1 : Int) (x5 : Int) (x6 : Int) (Kn : T4) (Ke0 : T3) (Kr : T0) (g : Env) (hg : E4 g x0b x0n x0c x1 x5 x6) (h : H) (hS : n9 x0b x0n x0c x1 x5 x6 Kn Ke0 Kr h) : wpC none Try.prog 79 n8_c2 (Q3 Kn Ke0 Kr) g h := by
  refine wpC_seq' (x := n9_c1) (y := n9_c2) (by kernel_rfl) (n11_ok x0b x0n x0c x1 x5 x6 (fun z0b z0n z0c z1 z5 z6 h => n10 z0b z0n z0c z1 z5 z6 Kn Ke0 Kr h) Ke0 Kr g hg h hS) ?_
  intro e g' h' hq
  cases e with
  | normal =>
    have hq : D4 (fun z0b z0n z0c z1 z5 z6 h => n10 z0b z0n z0c z1 z5 z6 Kn Ke0 Kr h) g' h' := hq
    obtain ⟨y0b, y0n, y0c, y1, y5, y6, hg', hq⟩ := D4_ok hq
    exact n10_ok y0b y0n y0c y1 y5 y6 Kn Ke0 Kr g' hg' h' hq
  | _ => exact hq
abbrev n8 (x0b : Option Addr) (x0n : Nat) (x0c : Nat) (x1 : Int) (x5 : Int) (x6 : Int) (Kn : T4) (Ke0 : T3) (Kr : T0) (h : H) : Prop :=
  Spl (x6 < (x0n : Int)) (Spl (x5 ≤ x1) (n9 x0b x0n x0c x1 x5 x6 Kn Ke0 Kr h) (Ke0 x5 h)) (Ke0 x5 h)
theorem n8_ok (x0b : Option Addr) (x0n : Nat) (x0c : Nat) (x1 : Int) (x5 : Int) (x6 : Int) (Kn : T4) (Ke0 : T3) (Kr : T0) (g : Env) (hg : E4 g x0b x0n x0c x1 x5 x6) (h : H) (hS : n8 x0b x0n x0c x1 x5 x6 Kn Ke0 Kr h) : wpC none Try.prog 79 n7_c1 (Q3 Kn Ke0 Kr) g h := by
  obtain ⟨hg0, hg1, hg5, hg6, hds⟩ := hg
  refine wpC_seq' (x := n8_c1) (y := n8_c2) (Q' := (Q3 (fun z0b z0n z0c z1 z5 z6 h => n9 z0b z0n z0c z1 z5 z6 Kn Ke0 Kr h) Ke0 Kr)) (by kernel_rfl) ?_ ?_
  · refine wpC_of_wpx (by kernel_rfl) (by kernel_rfl) (g' := ((((⟨g.v, []⟩ : Env).upd (some 0) (.slice x0b x0n x0c)).upd (some 1) (.int .i64 x1)).upd (some 5) (.int .i64 x5)).upd (some 6) (.int .i64 x6)) (by rw [env_ds hds, upd_self hg0, upd_self hg1, upd_self hg5, upd_self hg6]) ?_
    have e : (n8 x0b x0n x0c x1 x5 x6 Kn Ke0 Kr h) = wpx none Try.prog 79 n8_c1 (Q3 (fun z0b z0n z0c z1 z5 z6 h => n9 z0b z0n z0c z1 z5 z6 Kn Ke0 Kr h) Ke0 Kr) (((((⟨g.v, []⟩ : Env).upd (some 0) (.slice x0b x0n x0c)).upd (some 1) (.int .i64 x1)).upd (some 5) (.int .i64 x5)).upd (some 6) (.int .i64 x6)) h := by kernel_rfl
    exact e ▸ hS
  · intro e g' h' hq
    cases e with
    | normal =>
      have hq : D4 (fun z0b z0n z0c z1 z5 z6 h => n9 z0b z0n z0c z1 z5 z6 Kn Ke0 Kr h) g' h' := hq
      obtain ⟨y0b, y0n, y0c, y1, y5, y6, hg', hq⟩ := D4_ok hq
      exact n9_ok y0b y0n y0c y1 y5 y6 Kn Ke0 Kr g' hg' h' hq
    | _ => exact hq
def n7_L (Kn : T3) (Ke0 : T3) (Kr : T0) : Nat → (Option Addr) → Nat → Nat → Int → Int → Int → H → Prop
  | 0 => fun _ _ _ _ _ _ _ => False
  | N + 1 => fun x0b x0n x0c x1 x5 x6 h => n8 x0b x0n x0c x1 x5 x6 (fun z0b z0n z0c z1 z5 z6 h => n7_L Kn Ke0 Kr N z0b z0n z0c z1 z5 z6 h) Ke0 Kr h
abbrev n7 (x0b : Option Addr) (x0n : Nat) (x0c : Nat) (x1 : Int) (x5 : Int) (x6 : Int) (Kn : T3) (Ke0 : T3) (Kr : T0) (h : H) : Prop := ∃ N, n7_L Kn Ke0 Kr N x0b x0n x0c x1 x5 x6 h
theorem n7_ok (x0b : Option Addr) (x0n : Nat) (x0c : Nat) (x1 : Int) (x5 : Int) (x6 : Int) (Kn : T3) (Ke0 : T3) (Kr : T0) (g : Env) (hg : E4 g x0b x0n x0c x1 x5 x6) (h : H) (hS : n7 x0b x0n x0c x1 x5 x6 Kn Ke0 Kr h) : wpC none Try.prog 79 n6_c1 (Q2 Kn Ke0 Kr) g h := by
  obtain ⟨N0, hS⟩ := hS
  refine wpC_loop' (x := n7_c1) (by kernel_rfl) (fun k g h => ∃ (x0b : Option Addr) (x0n : Nat) (x0c : Nat) (x1 : Int) (x5 : Int) (x6 : Int), E4 g x0b x0n x0c x1 x5 x6 ∧ n7_L Kn Ke0 Kr k x0b x0n x0c x1 x5 x6 h) (fun g h hr => ?_) (fun N g h hr => ?_) N0 ⟨x0b, x0n, x0c, x1, x5, x6, hg, hS⟩
  · obtain ⟨x0b, x0n, x0c, x1, x5, x6, hg, hS⟩ := hr
    exact hS.elim
  · obtain ⟨x0b, x0n, x0c, x1, x5, x6, hg, hS⟩ := hr
    refine (n8_ok x0b x0n x0c x1 x5 x6 (fun z0b z0n z0c z1 z5 z6 h => n7_L Kn Ke0 Kr N z0b z0n z0c z1 z5 z6 h) Ke0 Kr g hg h hS).mono ?_
    intro e g' h' hq
    cases e with
    | normal => exact D4_ok (K := (fun z0b z0n z0c z1 z5 z6 h => n7_L Kn Ke0 Kr N z0b z0n z0c z1 z5 z6 h)) hq
    | _ => exact hq
abbrev n6 (x0b : Option Addr) (x0n : Nat) (x0c : Nat) (x1 : Int) (x5 : Int) (x6 : Int) (Kn : T3) (Kr : T0) (h : H) : Prop := n7 x0b x0n x0c x1 x5 x6 Kn Kn Kr h
theorem n6_ok (x0b : Option Addr) (x0n : Nat) (x0c : Nat) (x1 : Int) (x5 : Int) (x6 : Int) (Kn : T3) (Kr : T0) (g : Env) (hg : E4 g x0b x0n x0c x1 x5 x6) (h : H) (hS : n6 x0b x0n x0c x1 x5 x6 Kn Kr h) : wpC none Try.prog 79 n5_c2 (Q1 Kn Kr) g h := by
  refine wpC_block' (id := 0) (x := n6_c1) (by kernel_rfl) (n7_ok x0b x0n x0c x1 x5 x6 Kn Kn Kr g hg h hS) ?_
  intro e g' h' hq
  cases e <;> exact hq
def Q8 (Kn : T4) (Kr : T0) : XPost
  | .normal, g, h => D4 Kn g h
  | .ret, g, h => D0 Kr g h
  | _, _, _ => False
abbrev n5 (x0b : Option Addr) (x0n : Nat) (x0c : Nat) (x1 : Int) (x5 : Int) (Kn : T3) (Kr : T0) (h : H) : Prop :=
  n6 x0b x0n x0c x1 x5 (0 : Int) Kn Kr h
theorem n5_ok (x0b : Option Addr) (x0n : Nat) (x0c : Nat) (x1 : Int) (x5 : Int) (Kn : T3) (Kr : T0) (g : Env) (hg : E2 g x0b x0n x0c x1 x5) (h : H) (hS : n5 x0b x0n x0c x1 x5 Kn Kr h) : wpC none Try.prog 79 n3_c1 (Q1 Kn Kr) g h := by
  obtain ⟨hg0, hg1, hg5, hds⟩ := hg
  refine wpC_seq' (x := n5_c1) (y := n5_c2) (Q' := (Q8 (fun z0b z0n z0c z1 z5 z6 h => n6 z0b z0n z0c z1 z5 z6 Kn Kr h) Kr)) (by kernel_rfl) ?_ ?_
  · refine wpC_of_wpx (by kernel_rfl) (by kernel_rfl) (g' := (((⟨g.v, []⟩ : Env).upd (some 0) (.slice x0b x0n x0c)).upd (some 1) (.int .i64 x1)).upd (some 5) (.int .i64 x5)) (by rw [env_ds hds, upd_self hg0, upd_self hg1, upd_self hg5]) ?_
    have e : (n5 x0b x0n x0c x1 x5 Kn Kr h) = wpx none Try.prog 79 n5_c1 (Q8 (fun z0b z0n z0c z1 z5 z6 h => n6 z0b z0n z0c z1 z5 z6 Kn Kr h) Kr) ((((⟨g.v, []⟩ : Env).upd (some 0) (.slice x0b x0n x0c)).upd (some 1) (.int .i64 x1)).upd (some 5) (.int .i64 x5)) h := by kernel_rfl
    exact e ▸ hS
  · intro e g' h' hq
    cases e with
    | normal =>
      have hq : D4 (fun z0b z0n z0c z1 z5 z6 h => n6 z0b z0n z0c z1 z5 z6 Kn Kr h) g' h' := hq
      obtain ⟨y0b, y0n, y0c, y1, y5, y6, hg', hq⟩ := D4_ok hq
      exact n6_ok y0b y0n y0c y1 y5 y6 Kn Kr g' hg' h' hq
    | _ => exact hq
abbrev n3 (x0b : Option Addr) (x0n : Nat) (x0c : Nat) (x1 : Int) (x5 : Int) (Kn : T0) (Kr : T0) (h : H) : Prop := n5 x0b x0n x0c x1 x5 (fun z5 h => n4 z5 Kn Kr h) Kr h
theorem n3_ok (x0b : Option Addr) (x0n : Nat) (x0c : Nat) (x1 : Int) (x5 : Int) (Kn : T0) (Kr : T0) (g : Env) (hg : E2 g x0b x0n x0c x1 x5) (h : H) (hS : n3 x0b x0n x0c x1 x5 Kn Kr h) : wpC none Try.prog 79 n2_c2 (Q0 Kn Kr) g h := by
  refine wpC_seq' (x := n3_c1) (y := n3_c2) (by kernel_rfl) (n5_ok x0b x0n x0c x1 x5 (fun z5 h => n4 z5 Kn Kr h) Kr g hg h hS) ?_
  intro e g' h' hq
  cases e with
  | normal =>
    have hq : D3 (fun z5 h => n4 z5 Kn Kr h) g' h' := hq
    obtain ⟨y5, hg', hq⟩ := D3_ok hq
    exact n4_ok y5 Kn Kr g' hg' h' hq
  | _ => exact hq
def Q9 (Kn : T2) (Kr : T0) : XPost
  | .normal, g, h => D2 Kn g h
  | .ret, g, h => D0 Kr g h
  | _, _, _ => False
abbrev n2 (x0b : Option Addr) (x0n : Nat) (x0c : Nat) (x1 : Int) (Kn : T0) (Kr : T0) (h : H) : Prop :=
  n3 x0b x0n x0c x1 (0 : Int) Kn Kr h
theorem n2_ok (x0b : Option Addr) (x0n : Nat) (x0c : Nat) (x1 : Int) (Kn : T0) (Kr : T0) (g : Env) (hg : E1 g x0b x0n x0c x1) (h : H) (hS : n2 x0b x0n x0c x1 Kn Kr h) : wpC none Try.prog 79 n1_c2 (Q0 Kn Kr) g h := by
  obtain ⟨hg0, hg1, hds⟩ := hg
  refine wpC_seq' (x := n2_c1) (y := n2_c2) (Q' := (Q9 (fun z0b z0n z0c z1 z5 h => n3 z0b z0n z0c z1 z5 Kn Kr h) Kr)) (by kernel_rfl) ?_ ?_
  · refine wpC_of_wpx (by kernel_rfl) (by kernel_rfl) (g' := ((⟨g.v, []⟩ : Env).upd (some 0) (.slice x0b x0n x0c)).upd (some 1) (.int .i64 x1)) (by rw [env_ds hds, upd_self hg0, upd_self hg1]) ?_
    have e : (n2 x0b x0n x0c x1 Kn Kr h) = wpx none Try.prog 79 n2_c1 (Q9 (fun z0b z0n z0c z1 z5 h => n3 z0b z0n z0c z1 z5 Kn Kr h) Kr) (((⟨g.v, []⟩ : Env).upd (some 0) (.slice x0b x0n x0c)).upd (some 1) (.int .i64 x1)) h := by kernel_rfl
    exact e ▸ hS
  · intro e g' h' hq
    cases e with
    | normal =>
      have hq : D2 (fun z0b z0n z0c z1 z5 h => n3 z0b z0n z0c z1 z5 Kn Kr h) g' h' := hq
      obtain ⟨y0b, y0n, y0c, y1, y5, hg', hq⟩ := D2_ok hq
      exact n3_ok y0b y0n y0c y1 y5 Kn Kr g' hg' h' hq
    | _ => exact hq
def Q10 (Kn : T1) (Kr : T0) : XPost
  | .normal, g, h => D1 Kn g h
  | .ret, g, h => D0 Kr g h
  | _, _, _ => False
abbrev n1 (x0b : Option Addr) (x0n : Nat) (x0c : Nat) (x1 : Int) (Kn : T0) (Kr : T0) (h : H) : Prop :=
  n2 x0b x0n x0c x1 Kn Kr h
theorem n1_ok (x0b : Option Addr) (x0n : Nat) (x0c : Nat) (x1 : Int) (Kn : T0) (Kr : T0) (g : Env) (hg : E1 g x0b x0n x0c x1) (h : H) (hS : n1 x0b x0n x0c x1 Kn Kr h) : wpC none Try.prog 79 code (Q0 Kn Kr) g h := by
  obtain ⟨hg0, hg1, hds⟩ := hg
  refine wpC_seq' (x := n1_c1) (y := n1_c2) (Q' := (Q10 (fun z0b z0n z0c z1 h => n2 z0b z0n z0c z1 Kn Kr h) Kr)) (by kernel_rfl) ?_ ?_
  · refine wpC_of_wpx (by kernel_rfl) (by kernel_rfl) (g' := ((⟨g.v, []⟩ : Env).upd (some 0) (.slice x0b x0n x0c)).upd (some 1) (.int .i64 x1)) (by rw [env_ds hds, upd_self hg0, upd_self hg1]) ?_
    have e : (n1 x0b x0n x0c x1 Kn Kr h) = wpx none Try.prog 79 n1_c1 (Q10 (fun z0b z0n z0c z1 h => n2 z0b z0n z0c z1 Kn Kr h) Kr) (((⟨g.v, []⟩ : Env).upd (some 0) (.slice x0b x0n x0c)).upd (some 1) (.int .i64 x1)) h := by kernel_rfl
    exact e ▸ hS
  · intro e g' h' hq
    cases e with
    | normal =>
      have hq : D1 (fun z0b z0n z0c z1 h => n2 z0b z0n z0c z1 Kn Kr h) g' h' := hq
      obtain ⟨y0b, y0n, y0c, y1, hg', hq⟩ := D1_ok hq
      exact n2_ok y0b y0n y0c y1 Kn Kr g' hg' h' hq
    | _ => exact hq
/-- WHAT tympan/tympanref00.Tokens ASKS -/
abbrev asks (x0b : Option Addr) (x0n : Nat) (x0c : Nat) (x1 : Int) (K : Value → H → Prop) (h : H) : Prop := n1 x0b x0n x0c x1 (fun y4 h => K (.int .i64 y4) h) (fun y4 h => K (.int .i64 y4) h) h
theorem ok (x0b : Option Addr) (x0n : Nat) (x0c : Nat) (x1 : Int) (K : Value → H → Prop) (h : H) (hS : asks x0b x0n x0c x1 K h) : HCalls Try.prog 16 ⟨[(.slice x0b x0n x0c), (.int .i64 x1)]⟩ h K := by
  refine calls_of_wpC (c := code) Try.func16 (by kernel_rfl) (Nat.le_of_ble_eq_true (by kernel_rfl)) ?_
  refine (n1_ok x0b x0n x0c x1 (fun y4 h => K (.int .i64 y4) h) (fun y4 h => K (.int .i64 y4) h) (env0 [(.slice x0b x0n x0c), (.int .i64 x1)]) ⟨rfl, rfl, rfl⟩ h hS).mono ?_
  intro e g' h' hq
  cases e with
  | normal =>
    have hq : D0 (fun y4 h => K (.int .i64 y4) h) g' h' := hq
    obtain ⟨y4, ⟨hg4, hd⟩, hq⟩ := D0_ok hq
    show leaveX g'.ds h' _
    rw [hd]
    show K (g'.v 4) h'
    rw [hg4]
    exact hq
  | ret =>
    have hq : D0 (fun y4 h => K (.int .i64 y4) h) g' h' := hq
    obtain ⟨y4, ⟨hg4, hd⟩, hq⟩ := D0_ok hq
    show leaveX g'.ds h' _
    rw [hd]
    show K (g'.v 4) h'
    rw [hg4]
    exact hq
  | _ => exact hq
end Sx.r00_Tokens
end Go.Proofs
