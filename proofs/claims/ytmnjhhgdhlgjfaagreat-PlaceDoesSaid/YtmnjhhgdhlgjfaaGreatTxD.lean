/- The shallow forms of functions, printed by sh.py out of the translation; each with its proof. No condition. -/
import Derived.Test.YtmnjhhgdhlgjfaaGreatShJ
import Derived.Test.YtmnjhhgdhlgjfaaGreatProg
namespace Go.Proofs
open Go Go.Sh
set_option linter.unusedVariables false
set_option maxRecDepth 100000

/-! ### tympan/tympanref10.New -/
namespace Sx.r10_New
noncomputable def code : Code := bodyOf Tryz.f27
abbrev W := wpC none Tryz.prog 5
variable (g : Env) (x0 : Option Addr)
abbrev T0 := (Option Addr) → H → Prop
abbrev E0 := Held g [(0, .pointer x0)]
def D0 (K : T0) (g : Env) (h : H) : Prop := nilDs g.ds (vPtr (g.v 0) fun p1 => K p1 h)
abbrev Q0 (Kn Kr : T0) := QX (D0 Kn) (D0 Kr) noX
abbrev T1 := H → Prop
abbrev E1 := Held g []
def D1 (K : T1) (g : Env) (h : H) : Prop := nilDs g.ds (K h)
abbrev n1 (Kn Kr : T0) (h : H) : Prop :=
  newx h #[(.int .u8 (0 : Int)), (.int .u8 (0 : Int)), (S ([] : List UInt8)), (.slice none 0 0), (S ([] : List UInt8)), (.slice none 0 0), (.int .i64 (-1 : Int)), (.slice none 0 0)] 90 fun a2 h3 => newx h3 ⟨[(.slice (some a2) 1 1)]⟩ 93 fun a4 h5 => Kr (some a4) h5
variable {g} {h : H} {p : Prop}
variable {x0}
theorem D0_el {K : T0} (hq : D0 K g h) (f : ∀ {x0}, E0 g x0 → K x0 h → p) : p := nilDs_el hq fun d q => vPtr_el q fun _ e0 q => f ⟨e0, d⟩ q
theorem D1_el {K : T1} (hq : D1 K g h) (f : E1 g → K  h → p) : p := nilDs_el hq fun d q => f d q
theorem n1_ok {Kn Kr : T0} (hg : E1 g) (hS : n1 Kn Kr h) : W code (Q0 Kn Kr) g h :=
  leafN (by kernel_rfl) (by kernel_rfl) hg hS (by kernel_rfl)
/-- WHAT tympan/tympanref10.New ASKS -/
abbrev asks  (K : Value → H → Prop) (h : H) : Prop := n1  (fun y0 h => K (.pointer y0) h) (fun y0 h => K (.pointer y0) h) h
theorem ok  (K : Value → H → Prop) (h : H) (hS : asks  K h) : HCalls Tryz.prog 27 ⟨[]⟩ h K :=
  callsN (c := code) Tryz.func27 (by kernel_rfl) (by kernel_rfl) (n1_ok rfl hS) fun hq => D0_el hq fun hg hq => retN hg hq (by kernel_rfl)
end Sx.r10_New

/-! ### (*tympan/tympanref10.Tree).Make -/
namespace Sx.r10_Tree_Make
noncomputable def code : Code := bodyOf Tryz.f33
abbrev W := wpC none Tryz.prog 31
variable (g : Env) (x0 : Option Addr) (x1_0 x1_1 : Int) (x1_2 : List UInt8) (x1_3b : Option Addr) (x1_3n x1_3c : Nat) (x1_4 : List UInt8) (x1_5b : Option Addr) (x1_5n x1_5c : Nat) (x4 : Int)
abbrev T0 := Int → H → Prop
abbrev E0 := Held g [(4, .int .i64 x4)]
def D0 (K : T0) (g : Env) (h : H) : Prop := nilDs g.ds (vInt .i64 (g.v 4) fun i1 => K i1 h)
abbrev Q0 (Kn Kr : T0) := QX (D0 Kn) (D0 Kr) noX
abbrev T1 := (Option Addr) → Int → Int → (List UInt8) → (Option Addr) → Nat → Nat → (List UInt8) → (Option Addr) → Nat → Nat → H → Prop
abbrev E1 := Held g [(0, .pointer x0), (1, .agg ⟨[(.int .u8 x1_0), (.int .u8 x1_1), (S x1_2), (.slice x1_3b x1_3n x1_3c), (S x1_4), (.slice x1_5b x1_5n x1_5c)]⟩)]
def D1 (K : T1) (g : Env) (h : H) : Prop := nilDs g.ds (vPtr (g.v 0) fun p2 => vAgg (g.v 1) fun l3 => uncons l3 fun e4 l5 => vInt .u8 e4 fun i6 => uncons l5 fun e7 l8 => vInt .u8 e7 fun i9 => uncons l8 fun e10 l11 => vStr e10 fun s12 => uncons l11 fun e13 l14 => vSlice e13 fun s15b s15n s15c => uncons l14 fun e16 l17 => vStr e16 fun s18 => uncons l17 fun e19 l20 => vSlice e19 fun s21b s21n s21c => unnil l20 (K p2 i6 i9 s12 s15b s15n s15c s18 s21b s21n s21c h))
abbrev n1 (Kn Kr : T0) (h : H) : Prop :=
  newx h ⟨[(.int .u8 x1_0), (.int .u8 x1_1), (S x1_2), (.slice x1_3b x1_3n x1_3c), (S x1_4), (.slice x1_5b x1_5n x1_5c)]⟩ 57 fun a22 h23 => ∃ i24, cell h23 (a22.add 0) = some (.int .u8 i24) ∧ (Spl (i24 < (1 : Int)) (Kr (-1 : Int) h23) (∃ i25, cell h23 (a22.add 0) = some (.int .u8 i25) ∧ (Spl (i25 > (3 : Int)) (Kr (-1 : Int) h23) (vSome x0 fun a26 => ∃ s27b s27n s27c, cell h23 (a26.add 0) = some (.slice s27b s27n s27c) ∧ (∃ i28, cell h23 ((a22).add 0) = some (.int .u8 i28) ∧ (∃ i29, cell h23 ((a22).add 1) = some (.int .u8 i29) ∧ (∃ s30, cell h23 ((a22).add 2) = some (S s30) ∧ (∃ s31b s31n s31c, cell h23 ((a22).add 3) = some (.slice s31b s31n s31c) ∧ (∃ s32, cell h23 ((a22).add 4) = some (S s32) ∧ (∃ s33b s33n s33c, cell h23 ((a22).add 5) = some (.slice s33b s33n s33c) ∧ (HCalls Tryz.prog 65 ⟨[(.agg ⟨[(.int .u8 i28), (.int .u8 i29), (S s30), (.slice s31b s31n s31c), (S s32), (.slice s33b s33n s33c)]⟩)]⟩ h23 fun v34 h35 => vAgg v34 fun l36 => uncons l36 fun e37 l38 => vInt .u8 e37 fun i39 => uncons l38 fun e40 l41 => vInt .u8 e40 fun i42 => uncons l41 fun e43 l44 => vStr e43 fun s45 => uncons l44 fun e46 l47 => vSlice e46 fun s48b s48n s48c => uncons l47 fun e49 l50 => vStr e49 fun s51 => uncons l50 fun e52 l53 => vSlice e52 fun s54b s54n s54c => unnil l53 (ExtH h23 h35 ∧ (newx h35 #[(.int .u8 i39), (.int .u8 i42), (S s45), (.slice s48b s48n s48c), (S s51), (.slice s54b s54n s54c), (.int .i64 (-1 : Int)), (.slice none 0 0)] 90 fun a55 h56 => ExtH h35 h56 ∧ (SemH Tryz.prog (Builtin.append_ #[91, 91] 91 ⟨[(.slice s27b s27n s27c), (.slice (some a55) 1 1)]⟩) h56 fun v57 h58 => vSlice v57 fun s59b s59n s59c => vSome x0 fun a60 => stL (a60.add 0) [(.slice s59b s59n s59c)] 0 h58 fun h61 => vSome x0 fun a62 => ∃ s63b s63n s63c, cell h61 (a62.add 0) = some (.slice s63b s63n s63c) ∧ (Rng .i64 ((s63n : Int) - (1 : Int)) ∧ (Kr ((s63n : Int) - (1 : Int)) h61))))))))))))))))
variable {g} {h : H} {p : Prop}
variable {x0 x1_0 x1_1 x1_2 x1_3b x1_3n x1_3c x1_4 x1_5b x1_5n x1_5c x4}
theorem D0_el {K : T0} (hq : D0 K g h) (f : ∀ {x4}, E0 g x4 → K x4 h → p) : p := nilDs_el hq fun d q => vInt_el q fun _ e4 q => f ⟨e4, d⟩ q
theorem D1_el {K : T1} (hq : D1 K g h) (f : ∀ {x0 x1_0 x1_1 x1_2 x1_3b x1_3n x1_3c x1_4 x1_5b x1_5n x1_5c}, E1 g x0 x1_0 x1_1 x1_2 x1_3b x1_3n x1_3c x1_4 x1_5b x1_5n x1_5c → K x0 x1_0 x1_1 x1_2 x1_3b x1_3n x1_3c x1_4 x1_5b x1_5n x1_5c h → p) : p := by
  obtain ⟨d, q0⟩ := nilDs_ok hq
  obtain ⟨_, e0, q1⟩ := vPtr_ok q0
  obtain ⟨l, e1, q2⟩ := vAgg_ok q1
  obtain ⟨_, l, rfl, q3⟩ := uncI q2
  obtain ⟨_, l, rfl, q4⟩ := uncI q3
  obtain ⟨_, l, rfl, q5⟩ := uncS q4
  obtain ⟨_, _, _, l, rfl, q6⟩ := uncL q5
  obtain ⟨_, l, rfl, q7⟩ := uncS q6
  obtain ⟨_, _, _, l, rfl, q8⟩ := uncL q7
  obtain ⟨rfl, q9⟩ := unnil_ok q8
  exact f ⟨e0, e1, d⟩ q9
theorem n1_ok {Kn Kr : T0} (hg : E1 g x0 x1_0 x1_1 x1_2 x1_3b x1_3n x1_3c x1_4 x1_5b x1_5n x1_5c) (hS : n1 x0 x1_0 x1_1 x1_2 x1_3b x1_3n x1_3c x1_4 x1_5b x1_5n x1_5c Kn Kr h) : W code (Q0 Kn Kr) g h :=
  leafN (by kernel_rfl) (by kernel_rfl) hg hS (by kernel_rfl)
/-- WHAT (*tympan/tympanref10.Tree).Make ASKS -/
abbrev asks (x0 : Option Addr) (x1_0 : Int) (x1_1 : Int) (x1_2 : List UInt8) (x1_3b : Option Addr) (x1_3n : Nat) (x1_3c : Nat) (x1_4 : List UInt8) (x1_5b : Option Addr) (x1_5n : Nat) (x1_5c : Nat) (K : Value → H → Prop) (h : H) : Prop := n1 x0 x1_0 x1_1 x1_2 x1_3b x1_3n x1_3c x1_4 x1_5b x1_5n x1_5c (fun y4 h => K (.int .i64 y4) h) (fun y4 h => K (.int .i64 y4) h) h
theorem ok (x0 : Option Addr) (x1_0 : Int) (x1_1 : Int) (x1_2 : List UInt8) (x1_3b : Option Addr) (x1_3n : Nat) (x1_3c : Nat) (x1_4 : List UInt8) (x1_5b : Option Addr) (x1_5n : Nat) (x1_5c : Nat) (K : Value → H → Prop) (h : H) (hS : asks x0 x1_0 x1_1 x1_2 x1_3b x1_3n x1_3c x1_4 x1_5b x1_5n x1_5c K h) : HCalls Tryz.prog 33 ⟨[(.pointer x0), (.agg ⟨[(.int .u8 x1_0), (.int .u8 x1_1), (S x1_2), (.slice x1_3b x1_3n x1_3c), (S x1_4), (.slice x1_5b x1_5n x1_5c)]⟩)]⟩ h K :=
  callsN (c := code) Tryz.func33 (by kernel_rfl) (by kernel_rfl) (n1_ok ⟨rfl, rfl, rfl⟩ hS) fun hq => D0_el hq fun hg hq => retN hg hq (by kernel_rfl)
end Sx.r10_Tree_Make

/-! ### (*tympan/tympanref10.Tree).Put -/
namespace Sx.r10_Tree_Put
noncomputable def code : Code := bodyOf Tryz.f34
abbrev W := wpC none Tryz.prog 98
variable (g : Env) (x0 : Option Addr) (x1 x2 x3 : Int) (x8 x9 x10 x11 : Bool)
abbrev T0 := Bool → H → Prop
abbrev E0 := Held g [(8, .bool x8)]
def D0 (K : T0) (g : Env) (h : H) : Prop := nilDs g.ds (vBool (g.v 8) fun b1 => K b1 h)
abbrev Q0 (Kn Kr : T0) := QX (D0 Kn) (D0 Kr) noX
abbrev T1 := (Option Addr) → Int → Int → Int → H → Prop
abbrev E1 := Held g [(0, .pointer x0), (1, .int .i64 x1), (2, .int .i64 x2), (3, .int .i64 x3)]
def D1 (K : T1) (g : Env) (h : H) : Prop := nilDs g.ds (vPtr (g.v 0) fun p2 => vInt .i64 (g.v 1) fun i3 => vInt .i64 (g.v 2) fun i4 => vInt .i64 (g.v 3) fun i5 => K p2 i3 i4 i5 h)
noncomputable def c1 := cFst code
noncomputable def c2 := cSnd code
noncomputable def c3 := cFst c2
noncomputable def c4 := cSnd c2
abbrev T2 := (Option Addr) → Int → Int → Int → Bool → H → Prop
abbrev E2 := Held g [(0, .pointer x0), (1, .int .i64 x1), (2, .int .i64 x2), (3, .int .i64 x3), (9, .bool x9)]
def D2 (K : T2) (g : Env) (h : H) : Prop := nilDs g.ds (vPtr (g.v 0) fun p6 => vInt .i64 (g.v 1) fun i7 => vInt .i64 (g.v 2) fun i8 => vInt .i64 (g.v 3) fun i9 => vBool (g.v 9) fun b10 => K p6 i7 i8 i9 b10 h)
noncomputable def c5 := cFst c4
noncomputable def c6 := cSnd c4
abbrev T3 := (Option Addr) → Int → Int → Int → Bool → Bool → H → Prop
abbrev E3 := Held g [(0, .pointer x0), (1, .int .i64 x1), (2, .int .i64 x2), (3, .int .i64 x3), (9, .bool x9), (10, .bool x10)]
def D3 (K : T3) (g : Env) (h : H) : Prop := nilDs g.ds (vPtr (g.v 0) fun p11 => vInt .i64 (g.v 1) fun i12 => vInt .i64 (g.v 2) fun i13 => vInt .i64 (g.v 3) fun i14 => vBool (g.v 9) fun b15 => vBool (g.v 10) fun b16 => K p11 i12 i13 i14 b15 b16 h)
noncomputable def c7 := cFst c6
noncomputable def c8 := cSnd c6
noncomputable def c9 := cFst c8
noncomputable def c10 := cSnd c8
abbrev T4 := (Option Addr) → Int → Int → Int → Bool → H → Prop
abbrev E4 := Held g [(0, .pointer x0), (1, .int .i64 x1), (2, .int .i64 x2), (3, .int .i64 x3), (11, .bool x11)]
def D4 (K : T4) (g : Env) (h : H) : Prop := nilDs g.ds (vPtr (g.v 0) fun p17 => vInt .i64 (g.v 1) fun i18 => vInt .i64 (g.v 2) fun i19 => vInt .i64 (g.v 3) fun i20 => vBool (g.v 11) fun b21 => K p17 i18 i19 i20 b21 h)
noncomputable def c11 := cFst c10
noncomputable def c12 := cSnd c10
noncomputable def c13 := cFst c12
noncomputable def c14 := cSnd c12
abbrev n8 (Kn Kr : T0) (h : H) : Prop :=
  HCalls Tryz.prog 69 ⟨[(.pointer x0), (.int .i64 x1), (.int .i64 x2)]⟩ h fun v22 h23 => vInt .i64 v22 fun i24 => vSome x0 fun a25 => ∃ s26b s26n s26c, cell h23 (a25.add 0) = some (.slice s26b s26n s26c) ∧ ((0 ≤ x1 ∧ x1 < (s26n : Int)) ∧ (vSome s26b fun a27 => ∃ s28b s28n s28c, cell h23 ((a27.add (Int.toNat x1 * 8)).add 7) = some (.slice s28b s28n s28c) ∧ ((0 ≤ (0 : Int) ∧ (0 : Int) ≤ i24 ∧ i24 ≤ (s28c : Int)) ∧ (SemH Tryz.prog (Builtin.append_ #[82, 82] 82 ⟨[(.slice none 0 0), (.slice (if s28c = Int.toNat (0 : Int) then s28b else Option.map (fun q => q.add (Int.toNat (0 : Int) * 1)) s28b) (Int.toNat i24 - Int.toNat (0 : Int)) (s28c - Int.toNat (0 : Int)))]⟩) h23 fun v29 h30 => vSlice v29 fun s31b s31n s31c => newx h30 #[(.int .i64 x3)] 3 fun a32 h33 => SemH Tryz.prog (Builtin.append_ #[82, 82] 82 ⟨[(.slice s31b s31n s31c), (.slice (some a32) 1 1)]⟩) h33 fun v34 h35 => vSlice v34 fun s36b s36n s36c => vSome x0 fun a37 => ∃ s38b s38n s38c, cell h35 (a37.add 0) = some (.slice s38b s38n s38c) ∧ ((0 ≤ x1 ∧ x1 < (s38n : Int)) ∧ (vSome s38b fun a39 => ∃ s40b s40n s40c, cell h35 ((a39.add (Int.toNat x1 * 8)).add 7) = some (.slice s40b s40n s40c) ∧ ((0 ≤ i24 ∧ i24 ≤ (s40n : Int) ∧ (s40n : Int) ≤ (s40c : Int)) ∧ (SemH Tryz.prog (Builtin.append_ #[82, 82] 82 ⟨[(.slice s36b s36n s36c), (.slice (if s40c = Int.toNat i24 then s40b else Option.map (fun q => q.add (Int.toNat i24 * 1)) s40b) (Int.toNat (s40n : Int) - Int.toNat i24) (s40c - Int.toNat i24))]⟩) h35 fun v41 h42 => vSlice v41 fun s43b s43n s43c => vSome x0 fun a44 => ∃ s45b s45n s45c, cell h42 (a44.add 0) = some (.slice s45b s45n s45c) ∧ ((0 ≤ x1 ∧ x1 < (s45n : Int)) ∧ (vSome s45b fun a46 => stL ((a46.add (Int.toNat x1 * 8)).add 7) [(.slice s43b s43n s43c)] 0 h42 fun h47 => vSome x0 fun a48 => ∃ s49b s49n s49c, cell h47 (a48.add 0) = some (.slice s49b s49n s49c) ∧ ((0 ≤ x3 ∧ x3 < (s49n : Int)) ∧ (vSome s49b fun a50 => stL ((a50.add (Int.toNat x3 * 8)).add 6) [(.int .i64 x1)] 0 h47 fun h51 => Kr true h51))))))))))))
abbrev Q1 (Kn : T1) (Kr : T0) := QX (D1 Kn) (D0 Kr) noX
abbrev n7 (Kn Kr : T0) (h : H) : Prop :=
  HCalls Tryz.prog 70 ⟨[(.pointer x0), (.int .i64 x3)]⟩ h fun v52 h53 => vBool v52 fun b54 => cond b54 (n8 x0 x1 x2 x3 Kn Kr h53) (n8 x0 x1 x2 x3 Kn Kr h53)
abbrev n6 (Kn Kr : T0) (h : H) : Prop :=
  cond x11 (Kr false h) (HCalls Tryz.prog 69 ⟨[(.pointer x0), (.int .i64 x1), (.int .i64 x2)]⟩ h fun v55 h56 => vInt .i64 v55 fun i57 => Spl (i57 < (0 : Int)) (Kr false h56) (n7 x0 x1 x2 x3 Kn Kr h56))
abbrev Q2 (Kn : T4) (Kr : T0) := QX (D4 Kn) (D0 Kr) noX
abbrev n5 (Kn Kr : T0) (h : H) : Prop :=
  HCalls Tryz.prog 68 ⟨[(.pointer x0), (.int .i64 x1), (.int .i64 x3)]⟩ h fun v58 h59 => vBool v58 fun b60 => cond b60 (n6 x0 x1 x2 x3 true Kn Kr h59) (n6 x0 x1 x2 x3 false Kn Kr h59)
abbrev n4 (Kn Kr : T0) (h : H) : Prop :=
  cond x9 (cond x10 (Spl (x3 = (0 : Int)) (Kr false h) (Spl (x2 = x3) (Kr false h) (n5 x0 x1 x2 x3 Kn Kr h))) (Kr false h)) (Kr false h)
abbrev Q3 (Kn : T3) (Kr : T0) := QX (D3 Kn) (D0 Kr) noX
abbrev n3 (Kn Kr : T0) (h : H) : Prop :=
  HCalls Tryz.prog 67 ⟨[(.pointer x0), (.int .i64 x3)]⟩ h fun v61 h62 => vBool v61 fun b63 => cond b63 (n4 x0 x1 x2 x3 x9 true Kn Kr h62) (n4 x0 x1 x2 x3 x9 false Kn Kr h62)
abbrev Q4 (Kn : T2) (Kr : T0) := QX (D2 Kn) (D0 Kr) noX
abbrev n2 (Kn Kr : T0) (h : H) : Prop :=
  HCalls Tryz.prog 66 ⟨[(.pointer x0), (.int .i64 x1)]⟩ h fun v64 h65 => vBool v64 fun b66 => cond b66 (n3 x0 x1 x2 x3 true Kn Kr h65) (n3 x0 x1 x2 x3 false Kn Kr h65)
abbrev n1 (Kn Kr : T0) (h : H) : Prop :=
  n2 x0 x1 x2 x3 Kn Kr h
variable {g} {h : H} {p : Prop}
variable {x0 x1 x2 x3 x8 x9 x10 x11}
theorem D0_el {K : T0} (hq : D0 K g h) (f : ∀ {x8}, E0 g x8 → K x8 h → p) : p := nilDs_el hq fun d q => vBool_el q fun _ e8 q => f ⟨e8, d⟩ q
theorem D1_el {K : T1} (hq : D1 K g h) (f : ∀ {x0 x1 x2 x3}, E1 g x0 x1 x2 x3 → K x0 x1 x2 x3 h → p) : p := nilDs_el hq fun d q => vPtr_el q fun _ e0 q => vInt_el q fun _ e1 q => vInt_el q fun _ e2 q => vInt_el q fun _ e3 q => f ⟨e0, e1, e2, e3, d⟩ q
theorem D2_el {K : T2} (hq : D2 K g h) (f : ∀ {x0 x1 x2 x3 x9}, E2 g x0 x1 x2 x3 x9 → K x0 x1 x2 x3 x9 h → p) : p := nilDs_el hq fun d q => vPtr_el q fun _ e0 q => vInt_el q fun _ e1 q => vInt_el q fun _ e2 q => vInt_el q fun _ e3 q => vBool_el q fun _ e9 q => f ⟨e0, e1, e2, e3, e9, d⟩ q
theorem D3_el {K : T3} (hq : D3 K g h) (f : ∀ {x0 x1 x2 x3 x9 x10}, E3 g x0 x1 x2 x3 x9 x10 → K x0 x1 x2 x3 x9 x10 h → p) : p := nilDs_el hq fun d q => vPtr_el q fun _ e0 q => vInt_el q fun _ e1 q => vInt_el q fun _ e2 q => vInt_el q fun _ e3 q => vBool_el q fun _ e9 q => vBool_el q fun _ e10 q => f ⟨e0, e1, e2, e3, e9, e10, d⟩ q
theorem D4_el {K : T4} (hq : D4 K g h) (f : ∀ {x0 x1 x2 x3 x11}, E4 g x0 x1 x2 x3 x11 → K x0 x1 x2 x3 x11 h → p) : p := nilDs_el hq fun d q => vPtr_el q fun _ e0 q => vInt_el q fun _ e1 q => vInt_el q fun _ e2 q => vInt_el q fun _ e3 q => vBool_el q fun _ e11 q => f ⟨e0, e1, e2, e3, e11, d⟩ q
theorem n8_ok {Kn Kr : T0} (hg : E1 g x0 x1 x2 x3) (hS : n8 x0 x1 x2 x3 Kn Kr h) : W c14 (Q0 Kn Kr) g h :=
  leafN (by kernel_rfl) (by kernel_rfl) hg hS (by kernel_rfl)
theorem n7_ok {Kn Kr : T0} (hg : E1 g x0 x1 x2 x3) (hS : n7 x0 x1 x2 x3 Kn Kr h) : W c12 (Q0 Kn Kr) g h :=
  seqN (x := c13) (N' := D1 (fun z0 z1 z2 z3 h => n8 z0 z1 z2 z3 Kn Kr h)) (by kernel_rfl) (leafN (by kernel_rfl) (by kernel_rfl) hg hS (by kernel_rfl)) fun hq => D1_el hq n8_ok
theorem n6_ok {Kn Kr : T0} (hg : E4 g x0 x1 x2 x3 x11) (hS : n6 x0 x1 x2 x3 x11 Kn Kr h) : W c10 (Q0 Kn Kr) g h :=
  seqN (x := c11) (N' := D1 (fun z0 z1 z2 z3 h => n7 z0 z1 z2 z3 Kn Kr h)) (by kernel_rfl) (leafN (by kernel_rfl) (by kernel_rfl) hg hS (by kernel_rfl)) fun hq => D1_el hq n7_ok
theorem n5_ok {Kn Kr : T0} (hg : E1 g x0 x1 x2 x3) (hS : n5 x0 x1 x2 x3 Kn Kr h) : W c8 (Q0 Kn Kr) g h :=
  seqN (x := c9) (N' := D4 (fun z0 z1 z2 z3 z11 h => n6 z0 z1 z2 z3 z11 Kn Kr h)) (by kernel_rfl) (leafN (by kernel_rfl) (by kernel_rfl) hg hS (by kernel_rfl)) fun hq => D4_el hq n6_ok
theorem n4_ok {Kn Kr : T0} (hg : E3 g x0 x1 x2 x3 x9 x10) (hS : n4 x0 x1 x2 x3 x9 x10 Kn Kr h) : W c6 (Q0 Kn Kr) g h :=
  seqN (x := c7) (N' := D1 (fun z0 z1 z2 z3 h => n5 z0 z1 z2 z3 Kn Kr h)) (by kernel_rfl) (leafN (by kernel_rfl) (by kernel_rfl) hg hS (by kernel_rfl)) fun hq => D1_el hq n5_ok
theorem n3_ok {Kn Kr : T0} (hg : E2 g x0 x1 x2 x3 x9) (hS : n3 x0 x1 x2 x3 x9 Kn Kr h) : W c4 (Q0 Kn Kr) g h :=
  seqN (x := c5) (N' := D3 (fun z0 z1 z2 z3 z9 z10 h => n4 z0 z1 z2 z3 z9 z10 Kn Kr h)) (by kernel_rfl) (leafN (by kernel_rfl) (by kernel_rfl) hg hS (by kernel_rfl)) fun hq => D3_el hq n4_ok
theorem n2_ok {Kn Kr : T0} (hg : E1 g x0 x1 x2 x3) (hS : n2 x0 x1 x2 x3 Kn Kr h) : W c2 (Q0 Kn Kr) g h :=
  seqN (x := c3) (N' := D2 (fun z0 z1 z2 z3 z9 h => n3 z0 z1 z2 z3 z9 Kn Kr h)) (by kernel_rfl) (leafN (by kernel_rfl) (by kernel_rfl) hg hS (by kernel_rfl)) fun hq => D2_el hq n3_ok
theorem n1_ok {Kn Kr : T0} (hg : E1 g x0 x1 x2 x3) (hS : n1 x0 x1 x2 x3 Kn Kr h) : W code (Q0 Kn Kr) g h :=
  seqN (x := c1) (N' := D1 (fun z0 z1 z2 z3 h => n2 z0 z1 z2 z3 Kn Kr h)) (by kernel_rfl) (leafN (by kernel_rfl) (by kernel_rfl) hg hS (by kernel_rfl)) fun hq => D1_el hq n2_ok
/-- WHAT (*tympan/tympanref10.Tree).Put ASKS -/
abbrev asks (x0 : Option Addr) (x1 : Int) (x2 : Int) (x3 : Int) (K : Value → H → Prop) (h : H) : Prop := n1 x0 x1 x2 x3 (fun y8 h => K (.bool y8) h) (fun y8 h => K (.bool y8) h) h
theorem ok (x0 : Option Addr) (x1 : Int) (x2 : Int) (x3 : Int) (K : Value → H → Prop) (h : H) (hS : asks x0 x1 x2 x3 K h) : HCalls Tryz.prog 34 ⟨[(.pointer x0), (.int .i64 x1), (.int .i64 x2), (.int .i64 x3)]⟩ h K :=
  callsN (c := code) Tryz.func34 (by kernel_rfl) (by kernel_rfl) (n1_ok ⟨rfl, rfl, rfl, rfl, rfl⟩ hS) fun hq => D0_el hq fun hg hq => retN hg hq (by kernel_rfl)
end Sx.r10_Tree_Put

/-! ### (*tympan/tympanref10.Tree).Write -/
namespace Sx.r10_Tree_Write
noncomputable def code : Code := bodyOf Tryz.f39
abbrev W := wpC none Tryz.prog 78
variable (g : Env) (x0 : Option Addr) (x1 x2 : Int) (x3 : List UInt8) (x8 x9 : Bool) (x10 x11 : Int) (x27 x49 : Bool)
abbrev T0 := Bool → H → Prop
abbrev E0 := Held g [(8, .bool x8)]
def D0 (K : T0) (g : Env) (h : H) : Prop := nilDs g.ds (vBool (g.v 8) fun b1 => K b1 h)
abbrev Q0 (Kn Kr : T0) := QX (D0 Kn) (D0 Kr) noX
abbrev T1 := (Option Addr) → Int → Int → (List UInt8) → H → Prop
abbrev E1 := Held g [(0, .pointer x0), (1, .int .i64 x1), (2, .int .i64 x2), (3, S x3)]
def D1 (K : T1) (g : Env) (h : H) : Prop := nilDs g.ds (vPtr (g.v 0) fun p2 => vInt .i64 (g.v 1) fun i3 => vInt .i64 (g.v 2) fun i4 => vStr (g.v 3) fun s5 => K p2 i3 i4 s5 h)
noncomputable def c1 := cFst code
noncomputable def c2 := cSnd code
noncomputable def c3 := cFst c2
noncomputable def c4 := cSnd c2
abbrev T2 := (Option Addr) → Int → Int → (List UInt8) → Bool → H → Prop
abbrev E2 := Held g [(0, .pointer x0), (1, .int .i64 x1), (2, .int .i64 x2), (3, S x3), (9, .bool x9)]
def D2 (K : T2) (g : Env) (h : H) : Prop := nilDs g.ds (vPtr (g.v 0) fun p6 => vInt .i64 (g.v 1) fun i7 => vInt .i64 (g.v 2) fun i8 => vStr (g.v 3) fun s9 => vBool (g.v 9) fun b10 => K p6 i7 i8 s9 b10 h)
noncomputable def c5 := cFst c4
noncomputable def c6 := cSnd c4
noncomputable def c7 := cFst c6
noncomputable def c8 := cSnd c6
abbrev T3 := (Option Addr) → Int → Int → (List UInt8) → Int → H → Prop
abbrev E3 := Held g [(0, .pointer x0), (1, .int .i64 x1), (2, .int .i64 x2), (3, S x3), (10, .int .i64 x10)]
def D3 (K : T3) (g : Env) (h : H) : Prop := nilDs g.ds (vPtr (g.v 0) fun p11 => vInt .i64 (g.v 1) fun i12 => vInt .i64 (g.v 2) fun i13 => vStr (g.v 3) fun s14 => vInt .i64 (g.v 10) fun i15 => K p11 i12 i13 s14 i15 h)
noncomputable def c9 := cFst c8
noncomputable def c10 := cSnd c8
noncomputable def c11 := cFst c10
noncomputable def c12 := cSnd c10
noncomputable def c13 := cFst c12
noncomputable def c14 := cSnd c12
abbrev n8 (Kn Kr : T0) (h : H) : Prop :=
  HCalls Tryz.prog 33 ⟨[(.pointer x0), (.agg ⟨[(.int .u8 (2 : Int)), (.int .u8 (0 : Int)), (S ([] : List UInt8)), (.slice none 0 0), (S x3), (.slice none 0 0)]⟩)]⟩ h fun v16 h17 => vInt .i64 v16 fun i18 => HCalls Tryz.prog 34 ⟨[(.pointer x0), (.int .i64 x1), (.int .i64 x2), (.int .i64 i18)]⟩ h17 fun v19 h20 => vBool v19 fun b21 => cond b21 (Kr true h20) (Kr false h20)
abbrev Q1 (Kn : T1) (Kr : T0) := QX (D1 Kn) (D0 Kr) noX
noncomputable def c15 := cFst c13
noncomputable def c16 := cSnd c13
abbrev T4 := (Option Addr) → Int → Int → (List UInt8) → Int → Bool → H → Prop
abbrev E4 := Held g [(0, .pointer x0), (1, .int .i64 x1), (2, .int .i64 x2), (3, S x3), (10, .int .i64 x10), (27, .bool x27)]
def D4 (K : T4) (g : Env) (h : H) : Prop := nilDs g.ds (vPtr (g.v 0) fun p22 => vInt .i64 (g.v 1) fun i23 => vInt .i64 (g.v 2) fun i24 => vStr (g.v 3) fun s25 => vInt .i64 (g.v 10) fun i26 => vBool (g.v 27) fun b27 => K p22 i23 i24 s25 i26 b27 h)
noncomputable def c17 := cFst c16
noncomputable def c18 := cSnd c16
noncomputable def c19 := cFst c17
noncomputable def c20 := cSnd c17
abbrev T5 := (Option Addr) → Int → Int → (List UInt8) → Int → H → Prop
abbrev E5 := Held g [(0, .pointer x0), (1, .int .i64 x1), (2, .int .i64 x2), (3, S x3), (11, .int .i64 x11)]
def D5 (K : T5) (g : Env) (h : H) : Prop := nilDs g.ds (vPtr (g.v 0) fun p28 => vInt .i64 (g.v 1) fun i29 => vInt .i64 (g.v 2) fun i30 => vStr (g.v 3) fun s31 => vInt .i64 (g.v 11) fun i32 => K p28 i29 i30 s31 i32 h)
noncomputable def c21 := cFst c20
noncomputable def c22 := cSnd c20
abbrev T6 := (Option Addr) → Int → Int → (List UInt8) → Int → Bool → H → Prop
abbrev E6 := Held g [(0, .pointer x0), (1, .int .i64 x1), (2, .int .i64 x2), (3, S x3), (11, .int .i64 x11), (49, .bool x49)]
def D6 (K : T6) (g : Env) (h : H) : Prop := nilDs g.ds (vPtr (g.v 0) fun p33 => vInt .i64 (g.v 1) fun i34 => vInt .i64 (g.v 2) fun i35 => vStr (g.v 3) fun s36 => vInt .i64 (g.v 11) fun i37 => vBool (g.v 49) fun b38 => K p33 i34 i35 s36 i37 b38 h)
abbrev n13 (Kn : T1) (Kr : T0) (h : H) : Prop :=
  cond x49 (vSome x0 fun a39 => ∃ s40b s40n s40c, cell h (a39.add 0) = some (.slice s40b s40n s40c) ∧ (vSome x0 fun a41 => ∃ s42b s42n s42c, cell h (a41.add 0) = some (.slice s42b s42n s42c) ∧ ((0 ≤ x11 ∧ x11 < (s42n : Int)) ∧ (vSome s42b fun a43 => ∃ s44, cell h (((a43.add (Int.toNat x11 * 8)).add 0).add 4) = some (S s44) ∧ (((s44.length + x3.length : Nat) : Int) ≤ 9223372036854775807 ∧ ((0 ≤ x11 ∧ x11 < (s40n : Int)) ∧ (vSome s40b fun a45 => stL (((a45.add (Int.toNat x11 * 8)).add 0).add 4) [(S (s44 ++ x3))] 0 h fun h46 => Kr true h46))))))) (Kn x0 x1 x2 x3 h)
abbrev Q2 (Kn : T6) (Kr : T0) := QX (D6 Kn) (D0 Kr) noX
abbrev n12 (Kn : T1) (Kr : T0) (h : H) : Prop :=
  vSome x0 fun a47 => ∃ s48b s48n s48c, cell h (a47.add 0) = some (.slice s48b s48n s48c) ∧ ((0 ≤ x11 ∧ x11 < (s48n : Int)) ∧ (vSome s48b fun a49 => ∃ i50, cell h (((a49.add (Int.toNat x11 * 8)).add 0).add 0) = some (.int .u8 i50) ∧ (Spl (i50 = (2 : Int)) (n13 x0 x1 x2 x3 x11 true Kn Kr h) (n13 x0 x1 x2 x3 x11 false Kn Kr h))))
abbrev Q3 (Kn : T5) (Kr : T0) := QX (D5 Kn) (D0 Kr) noX
abbrev n11 (Kn : T1) (Kr : T0) (h : H) : Prop :=
  vSome x0 fun a51 => ∃ s52b s52n s52c, cell h (a51.add 0) = some (.slice s52b s52n s52c) ∧ ((0 ≤ x1 ∧ x1 < (s52n : Int)) ∧ (vSome s52b fun a53 => ∃ s54b s54n s54c, cell h ((a53.add (Int.toNat x1 * 8)).add 7) = some (.slice s54b s54n s54c) ∧ (Rng .i64 (x10 - (1 : Int)) ∧ ((0 ≤ (x10 - (1 : Int)) ∧ (x10 - (1 : Int)) < (s54n : Int)) ∧ (vSome s54b fun a55 => ∃ i56, cell h (a55.add (Int.toNat (x10 - (1 : Int)) * 1)) = some (.int .i64 i56) ∧ (n12 x0 x1 x2 x3 i56 Kn Kr h))))))
abbrev n14 (Kn : T1) (Kr : T0) (h : H) : Prop :=
  Kn x0 x1 x2 x3 h
abbrev n10 (Kn : T1) (Kr : T0) (h : H) : Prop :=
  cond x27 (n11 x0 x1 x2 x3 x10 Kn Kr h) (n14 x0 x1 x2 x3 Kn Kr h)
abbrev Q4 (Kn : T4) (Kr : T0) := QX (D4 Kn) (D0 Kr) noX
abbrev n9 (Kn : T1) (Kr : T0) (h : H) : Prop :=
  Spl (x10 > (0 : Int)) (n10 x0 x1 x2 x3 x10 true Kn Kr h) (n10 x0 x1 x2 x3 x10 false Kn Kr h)
abbrev n7 (Kn Kr : T0) (h : H) : Prop :=
  n9 x0 x1 x2 x3 x10 (fun z0 z1 z2 z3 h => n8 z0 z1 z2 z3 Kn Kr h) Kr h
abbrev Q5 (Kn : T3) (Kr : T0) := QX (D3 Kn) (D0 Kr) noX
abbrev n6 (Kn Kr : T0) (h : H) : Prop :=
  Spl (x3 = ([] : List UInt8)) (Kr true h) (n7 x0 x1 x2 x3 x10 Kn Kr h)
abbrev n5 (Kn Kr : T0) (h : H) : Prop :=
  Spl (x10 < (0 : Int)) (Kr false h) (n6 x0 x1 x2 x3 x10 Kn Kr h)
abbrev n4 (Kn Kr : T0) (h : H) : Prop :=
  HCalls Tryz.prog 69 ⟨[(.pointer x0), (.int .i64 x1), (.int .i64 x2)]⟩ h fun v57 h58 => vInt .i64 v57 fun i59 => n5 x0 x1 x2 x3 i59 Kn Kr h58
abbrev n3 (Kn Kr : T0) (h : H) : Prop :=
  cond x9 (n4 x0 x1 x2 x3 Kn Kr h) (Kr false h)
abbrev Q6 (Kn : T2) (Kr : T0) := QX (D2 Kn) (D0 Kr) noX
abbrev n2 (Kn Kr : T0) (h : H) : Prop :=
  HCalls Tryz.prog 66 ⟨[(.pointer x0), (.int .i64 x1)]⟩ h fun v60 h61 => vBool v60 fun b62 => cond b62 (n3 x0 x1 x2 x3 true Kn Kr h61) (n3 x0 x1 x2 x3 false Kn Kr h61)
abbrev n1 (Kn Kr : T0) (h : H) : Prop :=
  n2 x0 x1 x2 x3 Kn Kr h
variable {g} {h : H} {p : Prop}
variable {x0 x1 x2 x3 x8 x9 x10 x11 x27 x49}
theorem D0_el {K : T0} (hq : D0 K g h) (f : ∀ {x8}, E0 g x8 → K x8 h → p) : p := nilDs_el hq fun d q => vBool_el q fun _ e8 q => f ⟨e8, d⟩ q
theorem D1_el {K : T1} (hq : D1 K g h) (f : ∀ {x0 x1 x2 x3}, E1 g x0 x1 x2 x3 → K x0 x1 x2 x3 h → p) : p := nilDs_el hq fun d q => vPtr_el q fun _ e0 q => vInt_el q fun _ e1 q => vInt_el q fun _ e2 q => vStr_el q fun _ e3 q => f ⟨e0, e1, e2, e3, d⟩ q
theorem D2_el {K : T2} (hq : D2 K g h) (f : ∀ {x0 x1 x2 x3 x9}, E2 g x0 x1 x2 x3 x9 → K x0 x1 x2 x3 x9 h → p) : p := nilDs_el hq fun d q => vPtr_el q fun _ e0 q => vInt_el q fun _ e1 q => vInt_el q fun _ e2 q => vStr_el q fun _ e3 q => vBool_el q fun _ e9 q => f ⟨e0, e1, e2, e3, e9, d⟩ q
theorem D3_el {K : T3} (hq : D3 K g h) (f : ∀ {x0 x1 x2 x3 x10}, E3 g x0 x1 x2 x3 x10 → K x0 x1 x2 x3 x10 h → p) : p := nilDs_el hq fun d q => vPtr_el q fun _ e0 q => vInt_el q fun _ e1 q => vInt_el q fun _ e2 q => vStr_el q fun _ e3 q => vInt_el q fun _ e10 q => f ⟨e0, e1, e2, e3, e10, d⟩ q
theorem n8_ok {Kn Kr : T0} (hg : E1 g x0 x1 x2 x3) (hS : n8 x0 x1 x2 x3 Kn Kr h) : W c14 (Q0 Kn Kr) g h :=
  leafN (by kernel_rfl) (by kernel_rfl) hg hS (by kernel_rfl)
theorem D4_el {K : T4} (hq : D4 K g h) (f : ∀ {x0 x1 x2 x3 x10 x27}, E4 g x0 x1 x2 x3 x10 x27 → K x0 x1 x2 x3 x10 x27 h → p) : p := nilDs_el hq fun d q => vPtr_el q fun _ e0 q => vInt_el q fun _ e1 q => vInt_el q fun _ e2 q => vStr_el q fun _ e3 q => vInt_el q fun _ e10 q => vBool_el q fun _ e27 q => f ⟨e0, e1, e2, e3, e10, e27, d⟩ q
theorem D5_el {K : T5} (hq : D5 K g h) (f : ∀ {x0 x1 x2 x3 x11}, E5 g x0 x1 x2 x3 x11 → K x0 x1 x2 x3 x11 h → p) : p := nilDs_el hq fun d q => vPtr_el q fun _ e0 q => vInt_el q fun _ e1 q => vInt_el q fun _ e2 q => vStr_el q fun _ e3 q => vInt_el q fun _ e11 q => f ⟨e0, e1, e2, e3, e11, d⟩ q
theorem D6_el {K : T6} (hq : D6 K g h) (f : ∀ {x0 x1 x2 x3 x11 x49}, E6 g x0 x1 x2 x3 x11 x49 → K x0 x1 x2 x3 x11 x49 h → p) : p := nilDs_el hq fun d q => vPtr_el q fun _ e0 q => vInt_el q fun _ e1 q => vInt_el q fun _ e2 q => vStr_el q fun _ e3 q => vInt_el q fun _ e11 q => vBool_el q fun _ e49 q => f ⟨e0, e1, e2, e3, e11, e49, d⟩ q
theorem n13_ok {Kn : T1} {Kr : T0} (hg : E6 g x0 x1 x2 x3 x11 x49) (hS : n13 x0 x1 x2 x3 x11 x49 Kn Kr h) : W c22 (Q1 Kn Kr) g h :=
  leafN (by kernel_rfl) (by kernel_rfl) hg hS (by kernel_rfl)
theorem n12_ok {Kn : T1} {Kr : T0} (hg : E5 g x0 x1 x2 x3 x11) (hS : n12 x0 x1 x2 x3 x11 Kn Kr h) : W c20 (Q1 Kn Kr) g h :=
  seqN (x := c21) (N' := D6 (fun z0 z1 z2 z3 z11 z49 h => n13 z0 z1 z2 z3 z11 z49 Kn Kr h)) (by kernel_rfl) (leafN (by kernel_rfl) (by kernel_rfl) hg hS (by kernel_rfl)) fun hq => D6_el hq n13_ok
theorem n11_ok {Kn : T1} {Kr : T0} (hg : E3 g x0 x1 x2 x3 x10) (hS : n11 x0 x1 x2 x3 x10 Kn Kr h) : W c17 (Q1 Kn Kr) g h :=
  seqN (x := c19) (N' := D5 (fun z0 z1 z2 z3 z11 h => n12 z0 z1 z2 z3 z11 Kn Kr h)) (by kernel_rfl) (leafN (by kernel_rfl) (by kernel_rfl) hg hS (by kernel_rfl)) fun hq => D5_el hq n12_ok
theorem n14_ok {Kn : T1} {Kr : T0} (hg : E1 g x0 x1 x2 x3) (hS : n14 x0 x1 x2 x3 Kn Kr h) : W c18 (Q1 Kn Kr) g h :=
  leafN (by kernel_rfl) (by kernel_rfl) hg hS (by kernel_rfl)
theorem n10_ok {Kn : T1} {Kr : T0} (hg : E4 g x0 x1 x2 x3 x10 x27) (hS : n10 x0 x1 x2 x3 x10 x27 Kn Kr h) : W c16 (Q1 Kn Kr) g h :=
  let ⟨hg0, hg1, hg2, hg3, hg10, hg27, d⟩ := hg
  condN (by kernel_rfl) rfl hg27 hS (fun hS e => n11_ok ⟨hg0, hg1, hg2, hg3, hg10, d⟩ hS) (fun hS e => n14_ok ⟨hg0, hg1, hg2, hg3, d⟩ hS)
theorem n9_ok {Kn : T1} {Kr : T0} (hg : E3 g x0 x1 x2 x3 x10) (hS : n9 x0 x1 x2 x3 x10 Kn Kr h) : W c13 (Q1 Kn Kr) g h :=
  seqN (x := c15) (N' := D4 (fun z0 z1 z2 z3 z10 z27 h => n10 z0 z1 z2 z3 z10 z27 Kn Kr h)) (by kernel_rfl) (leafN (by kernel_rfl) (by kernel_rfl) hg hS (by kernel_rfl)) fun hq => D4_el hq n10_ok
theorem n7_ok {Kn Kr : T0} (hg : E3 g x0 x1 x2 x3 x10) (hS : n7 x0 x1 x2 x3 x10 Kn Kr h) : W c12 (Q0 Kn Kr) g h :=
  seqN (by kernel_rfl) (n9_ok hg hS) fun hq => D1_el hq n8_ok
theorem n6_ok {Kn Kr : T0} (hg : E3 g x0 x1 x2 x3 x10) (hS : n6 x0 x1 x2 x3 x10 Kn Kr h) : W c10 (Q0 Kn Kr) g h :=
  seqN (x := c11) (N' := D3 (fun z0 z1 z2 z3 z10 h => n7 z0 z1 z2 z3 z10 Kn Kr h)) (by kernel_rfl) (leafN (by kernel_rfl) (by kernel_rfl) hg hS (by kernel_rfl)) fun hq => D3_el hq n7_ok
theorem n5_ok {Kn Kr : T0} (hg : E3 g x0 x1 x2 x3 x10) (hS : n5 x0 x1 x2 x3 x10 Kn Kr h) : W c8 (Q0 Kn Kr) g h :=
  seqN (x := c9) (N' := D3 (fun z0 z1 z2 z3 z10 h => n6 z0 z1 z2 z3 z10 Kn Kr h)) (by kernel_rfl) (leafN (by kernel_rfl) (by kernel_rfl) hg hS (by kernel_rfl)) fun hq => D3_el hq n6_ok
theorem n4_ok {Kn Kr : T0} (hg : E1 g x0 x1 x2 x3) (hS : n4 x0 x1 x2 x3 Kn Kr h) : W c6 (Q0 Kn Kr) g h :=
  seqN (x := c7) (N' := D3 (fun z0 z1 z2 z3 z10 h => n5 z0 z1 z2 z3 z10 Kn Kr h)) (by kernel_rfl) (leafN (by kernel_rfl) (by kernel_rfl) hg hS (by kernel_rfl)) fun hq => D3_el hq n5_ok
theorem n3_ok {Kn Kr : T0} (hg : E2 g x0 x1 x2 x3 x9) (hS : n3 x0 x1 x2 x3 x9 Kn Kr h) : W c4 (Q0 Kn Kr) g h :=
  seqN (x := c5) (N' := D1 (fun z0 z1 z2 z3 h => n4 z0 z1 z2 z3 Kn Kr h)) (by kernel_rfl) (leafN (by kernel_rfl) (by kernel_rfl) hg hS (by kernel_rfl)) fun hq => D1_el hq n4_ok
theorem n2_ok {Kn Kr : T0} (hg : E1 g x0 x1 x2 x3) (hS : n2 x0 x1 x2 x3 Kn Kr h) : W c2 (Q0 Kn Kr) g h :=
  seqN (x := c3) (N' := D2 (fun z0 z1 z2 z3 z9 h => n3 z0 z1 z2 z3 z9 Kn Kr h)) (by kernel_rfl) (leafN (by kernel_rfl) (by kernel_rfl) hg hS (by kernel_rfl)) fun hq => D2_el hq n3_ok
theorem n1_ok {Kn Kr : T0} (hg : E1 g x0 x1 x2 x3) (hS : n1 x0 x1 x2 x3 Kn Kr h) : W code (Q0 Kn Kr) g h :=
  seqN (x := c1) (N' := D1 (fun z0 z1 z2 z3 h => n2 z0 z1 z2 z3 Kn Kr h)) (by kernel_rfl) (leafN (by kernel_rfl) (by kernel_rfl) hg hS (by kernel_rfl)) fun hq => D1_el hq n2_ok
/-- WHAT (*tympan/tympanref10.Tree).Write ASKS -/
abbrev asks (x0 : Option Addr) (x1 : Int) (x2 : Int) (x3 : List UInt8) (K : Value → H → Prop) (h : H) : Prop := n1 x0 x1 x2 x3 (fun y8 h => K (.bool y8) h) (fun y8 h => K (.bool y8) h) h
theorem ok (x0 : Option Addr) (x1 : Int) (x2 : Int) (x3 : List UInt8) (K : Value → H → Prop) (h : H) (hS : asks x0 x1 x2 x3 K h) : HCalls Tryz.prog 39 ⟨[(.pointer x0), (.int .i64 x1), (.int .i64 x2), (S x3)]⟩ h K :=
  callsN (c := code) Tryz.func39 (by kernel_rfl) (by kernel_rfl) (n1_ok ⟨rfl, rfl, rfl, rfl, rfl⟩ hS) fun hq => D0_el hq fun hg hq => retN hg hq (by kernel_rfl)
end Sx.r10_Tree_Write

/-! ### (*tympan/tympanref10.Tree).Whole -/
namespace Sx.r10_Tree_Whole
noncomputable def code : Code := bodyOf Tryz.f50
abbrev W := wpC none Tryz.prog 53
variable (g : Env) (x0 : Option Addr) (x1 : Int) (x4b : Option Addr) (x4n x4c : Nat) (x5 : Bool) (x6b : Option Addr) (x6n x6c : Nat) (x7b : Option Addr) (x7n x7c : Nat) (x8 : Int)
abbrev T0 := (Option Addr) → Nat → Nat → H → Prop
abbrev E0 := Held g [(4, .slice x4b x4n x4c)]
def D0 (K : T0) (g : Env) (h : H) : Prop := nilDs g.ds (vSlice (g.v 4) fun s1b s1n s1c => K s1b s1n s1c h)
abbrev Q0 (Kn Kr : T0) := QX (D0 Kn) (D0 Kr) noX
abbrev T1 := (Option Addr) → Int → H → Prop
abbrev E1 := Held g [(0, .pointer x0), (1, .int .i64 x1)]
def D1 (K : T1) (g : Env) (h : H) : Prop := nilDs g.ds (vPtr (g.v 0) fun p2 => vInt .i64 (g.v 1) fun i3 => K p2 i3 h)
noncomputable def c1 := cFst code
noncomputable def c2 := cSnd code
noncomputable def c3 := cFst c2
noncomputable def c4 := cSnd c2
abbrev T2 := (Option Addr) → Int → Bool → H → Prop
abbrev E2 := Held g [(0, .pointer x0), (1, .int .i64 x1), (5, .bool x5)]
def D2 (K : T2) (g : Env) (h : H) : Prop := nilDs g.ds (vPtr (g.v 0) fun p4 => vInt .i64 (g.v 1) fun i5 => vBool (g.v 5) fun b6 => K p4 i5 b6 h)
noncomputable def c5 := cFst c4
noncomputable def c6 := cSnd c4
noncomputable def c7 := cFst c6
noncomputable def c8 := cSnd c6
abbrev T3 := (Option Addr) → Int → (Option Addr) → Nat → Nat → H → Prop
abbrev E3 := Held g [(0, .pointer x0), (1, .int .i64 x1), (6, .slice x6b x6n x6c)]
def D3 (K : T3) (g : Env) (h : H) : Prop := nilDs g.ds (vPtr (g.v 0) fun p7 => vInt .i64 (g.v 1) fun i8 => vSlice (g.v 6) fun s9b s9n s9c => K p7 i8 s9b s9n s9c h)
noncomputable def c9 := cFst c8
noncomputable def c10 := cSnd c8
abbrev T4 := (Option Addr) → (Option Addr) → Nat → Nat → (Option Addr) → Nat → Nat → H → Prop
abbrev E4 := Held g [(0, .pointer x0), (6, .slice x6b x6n x6c), (7, .slice x7b x7n x7c)]
def D4 (K : T4) (g : Env) (h : H) : Prop := nilDs g.ds (vPtr (g.v 0) fun p10 => vSlice (g.v 6) fun s11b s11n s11c => vSlice (g.v 7) fun s12b s12n s12c => K p10 s11b s11n s11c s12b s12n s12c h)
noncomputable def c11 := cFst c10
noncomputable def c12 := cSnd c10
abbrev T5 := (Option Addr) → Nat → Nat → H → Prop
abbrev E5 := Held g [(6, .slice x6b x6n x6c)]
def D5 (K : T5) (g : Env) (h : H) : Prop := nilDs g.ds (vSlice (g.v 6) fun s13b s13n s13c => K s13b s13n s13c h)
abbrev n7 (Kn Kr : T0) (h : H) : Prop :=
  Kr x6b x6n x6c h
abbrev Q1 (Kn : T5) (Kr : T0) := QX (D5 Kn) (D0 Kr) noX
noncomputable def c13 := cFst c11
noncomputable def c14 := cSnd c11
abbrev T6 := (Option Addr) → (Option Addr) → Nat → Nat → (Option Addr) → Nat → Nat → Int → H → Prop
abbrev E6 := Held g [(0, .pointer x0), (6, .slice x6b x6n x6c), (7, .slice x7b x7n x7c), (8, .int .i64 x8)]
def D6 (K : T6) (g : Env) (h : H) : Prop := nilDs g.ds (vPtr (g.v 0) fun p14 => vSlice (g.v 6) fun s15b s15n s15c => vSlice (g.v 7) fun s16b s16n s16c => vInt .i64 (g.v 8) fun i17 => K p14 s15b s15n s15c s16b s16n s16c i17 h)
noncomputable def c15 := cFst c14
abbrev Q2 (Kn Ke0 : T5) (Kr : T0) := QX (D5 Kn) (D0 Kr) (exX 0 (D5 Ke0) noX)
noncomputable def c16 := cFst c15
abbrev Q3 (Kn : T6) (Ke0 : T5) (Kr : T0) := QX (D6 Kn) (D0 Kr) (exX 0 (D5 Ke0) noX)
def n10_L (Kn Ke0 : T5) (Kr : T0) : Nat → T6
  | 0 => fun _ _ _ _ _ _ _ _ _ => False
  | N + 1 => fun x0 x6b x6n x6c x7b x7n x7c x8 h => Spl (x8 < (x7n : Int)) ((vSome x0 fun a18 => ∃ s19b s19n s19c, cell h (a18.add 0) = some (.slice s19b s19n s19c) ∧ ((0 ≤ x8 ∧ x8 < (x7n : Int)) ∧ (vSome x7b fun a20 => ∃ i21, cell h (a20.add (Int.toNat x8 * 1)) = some (.int .i64 i21) ∧ ((0 ≤ i21 ∧ i21 < (s19n : Int)) ∧ (vSome s19b fun a22 => ∃ i23, cell h ((((a22.add (Int.toNat i21 * 8)).add 0)).add 0) = some (.int .u8 i23) ∧ (∃ i24, cell h ((((a22.add (Int.toNat i21 * 8)).add 0)).add 1) = some (.int .u8 i24) ∧ (∃ s25, cell h ((((a22.add (Int.toNat i21 * 8)).add 0)).add 2) = some (S s25) ∧ (∃ s26b s26n s26c, cell h ((((a22.add (Int.toNat i21 * 8)).add 0)).add 3) = some (.slice s26b s26n s26c) ∧ (∃ s27, cell h ((((a22.add (Int.toNat i21 * 8)).add 0)).add 4) = some (S s27) ∧ (∃ s28b s28n s28c, cell h ((((a22.add (Int.toNat i21 * 8)).add 0)).add 5) = some (.slice s28b s28n s28c) ∧ (HCalls Tryz.prog 65 ⟨[(.agg ⟨[(.int .u8 i23), (.int .u8 i24), (S s25), (.slice s26b s26n s26c), (S s27), (.slice s28b s28n s28c)]⟩)]⟩ h fun v29 h30 => vAgg v29 fun l31 => uncons l31 fun e32 l33 => vInt .u8 e32 fun i34 => uncons l33 fun e35 l36 => vInt .u8 e35 fun i37 => uncons l36 fun e38 l39 => vStr e38 fun s40 => uncons l39 fun e41 l42 => vSlice e41 fun s43b s43n s43c => uncons l42 fun e44 l45 => vStr e44 fun s46 => uncons l45 fun e47 l48 => vSlice e47 fun s49b s49n s49c => unnil l48 (newx h30 ⟨[(.int .u8 (0 : Int)), (.int .u8 (0 : Int)), (S ([] : List UInt8)), (.slice none 0 0), (S ([] : List UInt8)), (.slice none 0 0)]⟩ 57 fun a50 h51 => stL a50 [(.int .u8 i34), (.int .u8 i37), (S s40), (.slice s43b s43n s43c), (S s46), (.slice s49b s49n s49c)] 0 h51 fun h52 => (0 ≤ x8 ∧ x8 < (x7n : Int)) ∧ (vSome x7b fun a53 => ∃ i54, cell h52 (a53.add (Int.toNat x8 * 1)) = some (.int .i64 i54) ∧ (HCalls Tryz.prog 50 ⟨[(.pointer x0), (.int .i64 i54)]⟩ h52 fun v55 h56 => vSlice v55 fun s57b s57n s57c => stL (a50.add 5) [(.slice s57b s57n s57c)] 0 h56 fun h58 => ∃ i59, cell h58 ((a50).add 0) = some (.int .u8 i59) ∧ (∃ i60, cell h58 ((a50).add 1) = some (.int .u8 i60) ∧ (∃ s61, cell h58 ((a50).add 2) = some (S s61) ∧ (∃ s62b s62n s62c, cell h58 ((a50).add 3) = some (.slice s62b s62n s62c) ∧ (∃ s63, cell h58 ((a50).add 4) = some (S s63) ∧ (∃ s64b s64n s64c, cell h58 ((a50).add 5) = some (.slice s64b s64n s64c) ∧ (newx h58 #[(.int .u8 i59), (.int .u8 i60), (S s61), (.slice s62b s62n s62c), (S s63), (.slice s64b s64n s64c)] 57 fun a65 h66 => SemH Tryz.prog (Builtin.append_ #[54, 54] 54 ⟨[(.slice x6b x6n x6c), (.slice (some a65) 1 1)]⟩) h66 fun v67 h68 => vSlice v67 fun s69b s69n s69c => Rng .i64 (x8 + (1 : Int)) ∧ (n10_L Kn Ke0 Kr N x0 s69b s69n s69c x7b x7n x7c (x8 + (1 : Int)) h68))))))))))))))))))))) ∧ (vSome x0 fun a70 => ∃ s71b s71n s71c, cell h (a70.add 0) = some (.slice s71b s71n s71c) ∧ ((0 ≤ x8 ∧ x8 < (x7n : Int)) ∧ (vSome x7b fun a72 => ∃ i73, cell h (a72.add (Int.toNat x8 * 1)) = some (.int .i64 i73) ∧ ((0 ≤ i73 ∧ i73 < (s71n : Int)) ∧ (vSome s71b fun a74 => ∃ i75, cell h ((((a74.add (Int.toNat i73 * 8)).add 0)).add 0) = some (.int .u8 i75) ∧ (∃ i76, cell h ((((a74.add (Int.toNat i73 * 8)).add 0)).add 1) = some (.int .u8 i76) ∧ (∃ s77, cell h ((((a74.add (Int.toNat i73 * 8)).add 0)).add 2) = some (S s77) ∧ (∃ s78b s78n s78c, cell h ((((a74.add (Int.toNat i73 * 8)).add 0)).add 3) = some (.slice s78b s78n s78c) ∧ (∃ s79, cell h ((((a74.add (Int.toNat i73 * 8)).add 0)).add 4) = some (S s79) ∧ (∃ s80b s80n s80c, cell h ((((a74.add (Int.toNat i73 * 8)).add 0)).add 5) = some (.slice s80b s80n s80c) ∧ (newx h ⟨[(.int .u8 (0 : Int)), (.int .u8 (0 : Int)), (S ([] : List UInt8)), (.slice none 0 0), (S ([] : List UInt8)), (.slice none 0 0)]⟩ 57 fun a81 h82 => ExtH h h82 ∧ (HCalls Tryz.prog 65 ⟨[(.agg ⟨[(.int .u8 i75), (.int .u8 i76), (S s77), (.slice s78b s78n s78c), (S s79), (.slice s80b s80n s80c)]⟩)]⟩ h82 fun v83 h84 => vAgg v83 fun l85 => uncons l85 fun e86 l87 => vInt .u8 e86 fun i88 => uncons l87 fun e89 l90 => vInt .u8 e89 fun i91 => uncons l90 fun e92 l93 => vStr e92 fun s94 => uncons l93 fun e95 l96 => vSlice e95 fun s97b s97n s97c => uncons l96 fun e98 l99 => vStr e98 fun s100 => uncons l99 fun e101 l102 => vSlice e101 fun s103b s103n s103c => unnil l102 (stL a81 [(.int .u8 i88), (.int .u8 i91), (S s94), (.slice s97b s97n s97c), (S s100), (.slice s103b s103n s103c)] 0 h84 fun h104 => (0 ≤ x8 ∧ x8 < (x7n : Int)) ∧ (vSome x7b fun a105 => ∃ i106, cell h104 (a105.add (Int.toNat x8 * 1)) = some (.int .i64 i106) ∧ (HCalls Tryz.prog 50 ⟨[(.pointer x0), (.int .i64 i106)]⟩ h104 fun v107 h108 => vSlice v107 fun s109b s109n s109c => stL (a81.add 5) [(.slice s109b s109n s109c)] 0 h108 fun h110 => ∃ i111, cell h110 ((a81).add 0) = some (.int .u8 i111) ∧ (∃ i112, cell h110 ((a81).add 1) = some (.int .u8 i112) ∧ (∃ s113, cell h110 ((a81).add 2) = some (S s113) ∧ (∃ s114b s114n s114c, cell h110 ((a81).add 3) = some (.slice s114b s114n s114c) ∧ (∃ s115, cell h110 ((a81).add 4) = some (S s115) ∧ (∃ s116b s116n s116c, cell h110 ((a81).add 5) = some (.slice s116b s116n s116c) ∧ (newx h110 #[(.int .u8 i111), (.int .u8 i112), (S s113), (.slice s114b s114n s114c), (S s115), (.slice s116b s116n s116c)] 57 fun a117 h118 => SemH Tryz.prog (Builtin.append_ #[54, 54] 54 ⟨[(.slice x6b x6n x6c), (.slice (some a117) 1 1)]⟩) h118 fun v119 h120 => vSlice v119 fun s121b s121n s121c => Rng .i64 (x8 + (1 : Int)) ∧ (n10_L Kn Ke0 Kr N x0 s121b s121n s121c x7b x7n x7c (x8 + (1 : Int)) h120))))))))))))))))))))))) (Ke0 x6b x6n x6c h)
abbrev n10 (Kn Ke0 : T5) (Kr : T0) (h : H) : Prop :=
  ∃ N, n10_L Kn Ke0 Kr N x0 x6b x6n x6c x7b x7n x7c x8 h
abbrev n9 (Kn : T5) (Kr : T0) (h : H) : Prop :=
  n10 x0 x6b x6n x6c x7b x7n x7c x8 Kn Kn Kr h
abbrev Q4 (Kn : T6) (Kr : T0) := QX (D6 Kn) (D0 Kr) noX
abbrev n8 (Kn : T5) (Kr : T0) (h : H) : Prop :=
  n9 x0 x6b x6n x6c x7b x7n x7c (0 : Int) Kn Kr h
abbrev n6 (Kn Kr : T0) (h : H) : Prop :=
  n8 x0 x6b x6n x6c x7b x7n x7c (fun z6b z6n z6c h => n7 z6b z6n z6c Kn Kr h) Kr h
abbrev Q5 (Kn : T4) (Kr : T0) := QX (D4 Kn) (D0 Kr) noX
abbrev n5 (Kn Kr : T0) (h : H) : Prop :=
  vSome x0 fun a122 => ∃ s123b s123n s123c, cell h (a122.add 0) = some (.slice s123b s123n s123c) ∧ ((0 ≤ x1 ∧ x1 < (s123n : Int)) ∧ (vSome s123b fun a124 => ∃ s125b s125n s125c, cell h ((a124.add (Int.toNat x1 * 8)).add 7) = some (.slice s125b s125n s125c) ∧ (n6 x0 x6b x6n x6c s125b s125n s125c Kn Kr h)))
abbrev Q6 (Kn : T3) (Kr : T0) := QX (D3 Kn) (D0 Kr) noX
abbrev n4 (Kn Kr : T0) (h : H) : Prop :=
  n5 x0 x1 none 0 0 Kn Kr h
abbrev Q7 (Kn : T1) (Kr : T0) := QX (D1 Kn) (D0 Kr) noX
abbrev n3 (Kn Kr : T0) (h : H) : Prop :=
  cond x5 (n4 x0 x1 Kn Kr h) (Kr none 0 0 h)
abbrev Q8 (Kn : T2) (Kr : T0) := QX (D2 Kn) (D0 Kr) noX
abbrev n2 (Kn Kr : T0) (h : H) : Prop :=
  HCalls Tryz.prog 67 ⟨[(.pointer x0), (.int .i64 x1)]⟩ h fun v126 h127 => vBool v126 fun b128 => cond b128 (n3 x0 x1 true Kn Kr h127) (n3 x0 x1 false Kn Kr h127)
abbrev n1 (Kn Kr : T0) (h : H) : Prop :=
  n2 x0 x1 Kn Kr h
variable {g} {h : H} {p : Prop}
variable {x0 x1 x4b x4n x4c x5 x6b x6n x6c x7b x7n x7c x8}
theorem D6_mk {K : T6} (hg : E6 g x0 x6b x6n x6c x7b x7n x7c x8) (hk : K x0 x6b x6n x6c x7b x7n x7c x8 h) : D6 K g h := by
  obtain ⟨e0, e6, e7, e8, d⟩ := hg
  unfold D6
  rw [e0, e6, e7, e8, d]
  exact hk
theorem D0_el {K : T0} (hq : D0 K g h) (f : ∀ {x4b x4n x4c}, E0 g x4b x4n x4c → K x4b x4n x4c h → p) : p := nilDs_el hq fun d q => vSlice_el q fun _ _ _ e4 q => f ⟨e4, d⟩ q
theorem D1_el {K : T1} (hq : D1 K g h) (f : ∀ {x0 x1}, E1 g x0 x1 → K x0 x1 h → p) : p := nilDs_el hq fun d q => vPtr_el q fun _ e0 q => vInt_el q fun _ e1 q => f ⟨e0, e1, d⟩ q
theorem D2_el {K : T2} (hq : D2 K g h) (f : ∀ {x0 x1 x5}, E2 g x0 x1 x5 → K x0 x1 x5 h → p) : p := nilDs_el hq fun d q => vPtr_el q fun _ e0 q => vInt_el q fun _ e1 q => vBool_el q fun _ e5 q => f ⟨e0, e1, e5, d⟩ q
theorem D3_el {K : T3} (hq : D3 K g h) (f : ∀ {x0 x1 x6b x6n x6c}, E3 g x0 x1 x6b x6n x6c → K x0 x1 x6b x6n x6c h → p) : p := nilDs_el hq fun d q => vPtr_el q fun _ e0 q => vInt_el q fun _ e1 q => vSlice_el q fun _ _ _ e6 q => f ⟨e0, e1, e6, d⟩ q
theorem D4_el {K : T4} (hq : D4 K g h) (f : ∀ {x0 x6b x6n x6c x7b x7n x7c}, E4 g x0 x6b x6n x6c x7b x7n x7c → K x0 x6b x6n x6c x7b x7n x7c h → p) : p := nilDs_el hq fun d q => vPtr_el q fun _ e0 q => vSlice_el q fun _ _ _ e6 q => vSlice_el q fun _ _ _ e7 q => f ⟨e0, e6, e7, d⟩ q
theorem D5_el {K : T5} (hq : D5 K g h) (f : ∀ {x6b x6n x6c}, E5 g x6b x6n x6c → K x6b x6n x6c h → p) : p := nilDs_el hq fun d q => vSlice_el q fun _ _ _ e6 q => f ⟨e6, d⟩ q
theorem n7_ok {Kn Kr : T0} (hg : E5 g x6b x6n x6c) (hS : n7 x6b x6n x6c Kn Kr h) : W c12 (Q0 Kn Kr) g h :=
  leafN (by kernel_rfl) (by kernel_rfl) hg hS (by kernel_rfl)
theorem D6_el {K : T6} (hq : D6 K g h) (f : ∀ {x0 x6b x6n x6c x7b x7n x7c x8}, E6 g x0 x6b x6n x6c x7b x7n x7c x8 → K x0 x6b x6n x6c x7b x7n x7c x8 h → p) : p := nilDs_el hq fun d q => vPtr_el q fun _ e0 q => vSlice_el q fun _ _ _ e6 q => vSlice_el q fun _ _ _ e7 q => vInt_el q fun _ e8 q => f ⟨e0, e6, e7, e8, d⟩ q
theorem n10_ok {Kn Ke0 : T5} {Kr : T0} (hg : E6 g x0 x6b x6n x6c x7b x7n x7c x8) (hS : n10 x0 x6b x6n x6c x7b x7n x7c x8 Kn Ke0 Kr h) : W c15 (Q2 Kn Ke0 Kr) g h :=
  let ⟨N, hS⟩ := hS
  loopN (x := c16) (I := fun N => D6 (n10_L Kn Ke0 Kr N)) (by kernel_rfl) (fun hq => D6_el hq fun _ hq => hq) (fun hq => D6_el hq fun hg hq => leafN (by kernel_rfl) (by kernel_rfl) hg hq (by kernel_rfl)) N (D6_mk hg hS)
theorem n9_ok {Kn : T5} {Kr : T0} (hg : E6 g x0 x6b x6n x6c x7b x7n x7c x8) (hS : n9 x0 x6b x6n x6c x7b x7n x7c x8 Kn Kr h) : W c14 (Q1 Kn Kr) g h := blockN (by kernel_rfl) (n10_ok hg hS)
theorem n8_ok {Kn : T5} {Kr : T0} (hg : E4 g x0 x6b x6n x6c x7b x7n x7c) (hS : n8 x0 x6b x6n x6c x7b x7n x7c Kn Kr h) : W c11 (Q1 Kn Kr) g h :=
  seqN (x := c13) (N' := D6 (fun z0 z6b z6n z6c z7b z7n z7c z8 h => n9 z0 z6b z6n z6c z7b z7n z7c z8 Kn Kr h)) (by kernel_rfl) (leafN (by kernel_rfl) (by kernel_rfl) hg hS (by kernel_rfl)) fun hq => D6_el hq n9_ok
theorem n6_ok {Kn Kr : T0} (hg : E4 g x0 x6b x6n x6c x7b x7n x7c) (hS : n6 x0 x6b x6n x6c x7b x7n x7c Kn Kr h) : W c10 (Q0 Kn Kr) g h :=
  seqN (by kernel_rfl) (n8_ok hg hS) fun hq => D5_el hq n7_ok
theorem n5_ok {Kn Kr : T0} (hg : E3 g x0 x1 x6b x6n x6c) (hS : n5 x0 x1 x6b x6n x6c Kn Kr h) : W c8 (Q0 Kn Kr) g h :=
  seqN (x := c9) (N' := D4 (fun z0 z6b z6n z6c z7b z7n z7c h => n6 z0 z6b z6n z6c z7b z7n z7c Kn Kr h)) (by kernel_rfl) (leafN (by kernel_rfl) (by kernel_rfl) hg hS (by kernel_rfl)) fun hq => D4_el hq n6_ok
theorem n4_ok {Kn Kr : T0} (hg : E1 g x0 x1) (hS : n4 x0 x1 Kn Kr h) : W c6 (Q0 Kn Kr) g h :=
  seqN (x := c7) (N' := D3 (fun z0 z1 z6b z6n z6c h => n5 z0 z1 z6b z6n z6c Kn Kr h)) (by kernel_rfl) (leafN (by kernel_rfl) (by kernel_rfl) hg hS (by kernel_rfl)) fun hq => D3_el hq n5_ok
theorem n3_ok {Kn Kr : T0} (hg : E2 g x0 x1 x5) (hS : n3 x0 x1 x5 Kn Kr h) : W c4 (Q0 Kn Kr) g h :=
  seqN (x := c5) (N' := D1 (fun z0 z1 h => n4 z0 z1 Kn Kr h)) (by kernel_rfl) (leafN (by kernel_rfl) (by kernel_rfl) hg hS (by kernel_rfl)) fun hq => D1_el hq n4_ok
theorem n2_ok {Kn Kr : T0} (hg : E1 g x0 x1) (hS : n2 x0 x1 Kn Kr h) : W c2 (Q0 Kn Kr) g h :=
  seqN (x := c3) (N' := D2 (fun z0 z1 z5 h => n3 z0 z1 z5 Kn Kr h)) (by kernel_rfl) (leafN (by kernel_rfl) (by kernel_rfl) hg hS (by kernel_rfl)) fun hq => D2_el hq n3_ok
theorem n1_ok {Kn Kr : T0} (hg : E1 g x0 x1) (hS : n1 x0 x1 Kn Kr h) : W code (Q0 Kn Kr) g h :=
  seqN (x := c1) (N' := D1 (fun z0 z1 h => n2 z0 z1 Kn Kr h)) (by kernel_rfl) (leafN (by kernel_rfl) (by kernel_rfl) hg hS (by kernel_rfl)) fun hq => D1_el hq n2_ok
/-- WHAT (*tympan/tympanref10.Tree).Whole ASKS -/
abbrev asks (x0 : Option Addr) (x1 : Int) (K : Value → H → Prop) (h : H) : Prop := n1 x0 x1 (fun y4b y4n y4c h => K (.slice y4b y4n y4c) h) (fun y4b y4n y4c h => K (.slice y4b y4n y4c) h) h
theorem ok (x0 : Option Addr) (x1 : Int) (K : Value → H → Prop) (h : H) (hS : asks x0 x1 K h) : HCalls Tryz.prog 50 ⟨[(.pointer x0), (.int .i64 x1)]⟩ h K :=
  callsN (c := code) Tryz.func50 (by kernel_rfl) (by kernel_rfl) (n1_ok ⟨rfl, rfl, rfl⟩ hS) fun hq => D0_el hq fun hg hq => retN hg hq (by kernel_rfl)
end Sx.r10_Tree_Whole

/-! ### (*tympan/tympanref10.Tree).Parent -/
namespace Sx.r10_Tree_Parent
noncomputable def code : Code := bodyOf Tryz.f64
abbrev W := wpC none Tryz.prog 19
variable (g : Env) (x0 : Option Addr) (x1 x4 : Int)
abbrev T0 := Int → H → Prop
abbrev E0 := Held g [(4, .int .i64 x4)]
def D0 (K : T0) (g : Env) (h : H) : Prop := nilDs g.ds (vInt .i64 (g.v 4) fun i1 => K i1 h)
abbrev Q0 (Kn Kr : T0) := QX (D0 Kn) (D0 Kr) noX
abbrev T1 := (Option Addr) → Int → H → Prop
abbrev E1 := Held g [(0, .pointer x0), (1, .int .i64 x1)]
def D1 (K : T1) (g : Env) (h : H) : Prop := nilDs g.ds (vPtr (g.v 0) fun p2 => vInt .i64 (g.v 1) fun i3 => K p2 i3 h)
abbrev n1 (Kn Kr : T0) (h : H) : Prop :=
  HCalls Tryz.prog 67 ⟨[(.pointer x0), (.int .i64 x1)]⟩ h fun v4 h5 => vBool v4 fun b6 => cond b6 (vSome x0 fun a7 => ∃ s8b s8n s8c, cell h5 (a7.add 0) = some (.slice s8b s8n s8c) ∧ ((0 ≤ x1 ∧ x1 < (s8n : Int)) ∧ (vSome s8b fun a9 => ∃ i10, cell h5 ((a9.add (Int.toNat x1 * 8)).add 6) = some (.int .i64 i10) ∧ (Kr i10 h5)))) (Kr (-1 : Int) h5)
variable {g} {h : H} {p : Prop}
variable {x0 x1 x4}
theorem D0_el {K : T0} (hq : D0 K g h) (f : ∀ {x4}, E0 g x4 → K x4 h → p) : p := nilDs_el hq fun d q => vInt_el q fun _ e4 q => f ⟨e4, d⟩ q
theorem D1_el {K : T1} (hq : D1 K g h) (f : ∀ {x0 x1}, E1 g x0 x1 → K x0 x1 h → p) : p := nilDs_el hq fun d q => vPtr_el q fun _ e0 q => vInt_el q fun _ e1 q => f ⟨e0, e1, d⟩ q
theorem n1_ok {Kn Kr : T0} (hg : E1 g x0 x1) (hS : n1 x0 x1 Kn Kr h) : W code (Q0 Kn Kr) g h :=
  leafN (by kernel_rfl) (by kernel_rfl) hg hS (by kernel_rfl)
/-- WHAT (*tympan/tympanref10.Tree).Parent ASKS -/
abbrev asks (x0 : Option Addr) (x1 : Int) (K : Value → H → Prop) (h : H) : Prop := n1 x0 x1 (fun y4 h => K (.int .i64 y4) h) (fun y4 h => K (.int .i64 y4) h) h
theorem ok (x0 : Option Addr) (x1 : Int) (K : Value → H → Prop) (h : H) (hS : asks x0 x1 K h) : HCalls Tryz.prog 64 ⟨[(.pointer x0), (.int .i64 x1)]⟩ h K :=
  callsN (c := code) Tryz.func64 (by kernel_rfl) (by kernel_rfl) (n1_ok ⟨rfl, rfl, rfl⟩ hS) fun hq => D0_el hq fun hg hq => retN hg hq (by kernel_rfl)
end Sx.r10_Tree_Parent

/-! ### tympan/tympanref10.bare -/
namespace Sx.r10_bare
noncomputable def code : Code := bodyOf Tryz.f65
abbrev W := wpC none Tryz.prog 24
variable (g : Env) (x0_0 x0_1 : Int) (x0_2 : List UInt8) (x0_3b : Option Addr) (x0_3n x0_3c : Nat) (x0_4 : List UInt8) (x0_5b : Option Addr) (x0_5n x0_5c : Nat) (x2 : Addr)
abbrev T0 := Addr → H → Prop
abbrev E0 := Held g [(2, .pointer (some x2))]
def D0 (K : T0) (g : Env) (h : H) : Prop := nilDs g.ds (vAddr (g.v 2) fun a1 => K a1 h)
abbrev Q0 (Kn Kr : T0) := QX (D0 Kn) (D0 Kr) noX
abbrev T1 := Int → Int → (List UInt8) → (Option Addr) → Nat → Nat → (List UInt8) → (Option Addr) → Nat → Nat → H → Prop
abbrev E1 := Held g [(0, .agg ⟨[(.int .u8 x0_0), (.int .u8 x0_1), (S x0_2), (.slice x0_3b x0_3n x0_3c), (S x0_4), (.slice x0_5b x0_5n x0_5c)]⟩)]
def D1 (K : T1) (g : Env) (h : H) : Prop := nilDs g.ds (vAgg (g.v 0) fun l2 => uncons l2 fun e3 l4 => vInt .u8 e3 fun i5 => uncons l4 fun e6 l7 => vInt .u8 e6 fun i8 => uncons l7 fun e9 l10 => vStr e9 fun s11 => uncons l10 fun e12 l13 => vSlice e12 fun s14b s14n s14c => uncons l13 fun e15 l16 => vStr e15 fun s17 => uncons l16 fun e18 l19 => vSlice e18 fun s20b s20n s20c => unnil l19 (K i5 i8 s11 s14b s14n s14c s17 s20b s20n s20c h))
abbrev n1 (Kn Kr : T0) (h : H) : Prop :=
  newx h ⟨[(.int .u8 x0_0), (.int .u8 x0_1), (S x0_2), (.slice x0_3b x0_3n x0_3c), (S x0_4), (.slice x0_5b x0_5n x0_5c)]⟩ 57 fun a21 h22 => newx h22 ⟨[(.int .u8 (0 : Int)), (.int .u8 (0 : Int)), (S ([] : List UInt8)), (.slice none 0 0), (S ([] : List UInt8)), (.slice none 0 0)]⟩ 57 fun a23 h24 => ∃ i25, cell h24 (a21.add 0) = some (.int .u8 i25) ∧ (Spl (i25 = (1 : Int)) (∃ s26b s26n s26c, cell h24 (a21.add 3) = some (.slice s26b s26n s26c) ∧ (SemH Tryz.prog (Builtin.append_ #[29, 29] 29 ⟨[(.slice none 0 0), (.slice s26b s26n s26c)]⟩) h24 fun v27 h28 => vSlice v27 fun s29b s29n s29c => ∃ i30, cell h28 (a21.add 0) = some (.int .u8 i30) ∧ (∃ i31, cell h28 (a21.add 1) = some (.int .u8 i31) ∧ (∃ s32, cell h28 (a21.add 2) = some (S s32) ∧ (stL a23 [(.int .u8 i30), (.int .u8 i31), (S s32), (.slice s29b s29n s29c), (S ([] : List UInt8)), (.slice none 0 0)] 0 h28 fun h33 => Kr a23 h33))))) (∃ i34, cell h24 (a21.add 0) = some (.int .u8 i34) ∧ (∃ s35, cell h24 (a21.add 4) = some (S s35) ∧ (stL a23 [(.int .u8 i34), (.int .u8 (0 : Int)), (S ([] : List UInt8)), (.slice none 0 0), (S s35), (.slice none 0 0)] 0 h24 fun h36 => Kr a23 h36))))
variable {g} {h : H} {p : Prop}
variable {x0_0 x0_1 x0_2 x0_3b x0_3n x0_3c x0_4 x0_5b x0_5n x0_5c x2}
theorem D0_el {K : T0} (hq : D0 K g h) (f : ∀ {x2}, E0 g x2 → K x2 h → p) : p := nilDs_el hq fun d q => vAddr_el q fun _ e2 q => f ⟨e2, d⟩ q
theorem D1_el {K : T1} (hq : D1 K g h) (f : ∀ {x0_0 x0_1 x0_2 x0_3b x0_3n x0_3c x0_4 x0_5b x0_5n x0_5c}, E1 g x0_0 x0_1 x0_2 x0_3b x0_3n x0_3c x0_4 x0_5b x0_5n x0_5c → K x0_0 x0_1 x0_2 x0_3b x0_3n x0_3c x0_4 x0_5b x0_5n x0_5c h → p) : p := by
  obtain ⟨d, q0⟩ := nilDs_ok hq
  obtain ⟨l, e0, q1⟩ := vAgg_ok q0
  obtain ⟨_, l, rfl, q2⟩ := uncI q1
  obtain ⟨_, l, rfl, q3⟩ := uncI q2
  obtain ⟨_, l, rfl, q4⟩ := uncS q3
  obtain ⟨_, _, _, l, rfl, q5⟩ := uncL q4
  obtain ⟨_, l, rfl, q6⟩ := uncS q5
  obtain ⟨_, _, _, l, rfl, q7⟩ := uncL q6
  obtain ⟨rfl, q8⟩ := unnil_ok q7
  exact f ⟨e0, d⟩ q8
theorem n1_ok {Kn Kr : T0} (hg : E1 g x0_0 x0_1 x0_2 x0_3b x0_3n x0_3c x0_4 x0_5b x0_5n x0_5c) (hS : n1 x0_0 x0_1 x0_2 x0_3b x0_3n x0_3c x0_4 x0_5b x0_5n x0_5c Kn Kr h) : W code (Q0 Kn Kr) g h :=
  leafN (by kernel_rfl) (by kernel_rfl) hg hS (by kernel_rfl)
/-- WHAT tympan/tympanref10.bare ASKS -/
abbrev asks (x0_0 : Int) (x0_1 : Int) (x0_2 : List UInt8) (x0_3b : Option Addr) (x0_3n : Nat) (x0_3c : Nat) (x0_4 : List UInt8) (x0_5b : Option Addr) (x0_5n : Nat) (x0_5c : Nat) (K : Value → H → Prop) (h : H) : Prop := n1 x0_0 x0_1 x0_2 x0_3b x0_3n x0_3c x0_4 x0_5b x0_5n x0_5c (fun y2 h => ∃ i37, cell h ((y2).add 0) = some (.int .u8 i37) ∧ (∃ i38, cell h ((y2).add 1) = some (.int .u8 i38) ∧ (∃ s39, cell h ((y2).add 2) = some (S s39) ∧ (∃ s40b s40n s40c, cell h ((y2).add 3) = some (.slice s40b s40n s40c) ∧ (∃ s41, cell h ((y2).add 4) = some (S s41) ∧ (∃ s42b s42n s42c, cell h ((y2).add 5) = some (.slice s42b s42n s42c) ∧ (K (.agg ⟨[(.int .u8 i37), (.int .u8 i38), (S s39), (.slice s40b s40n s40c), (S s41), (.slice s42b s42n s42c)]⟩) h))))))) (fun y2 h => ∃ i37, cell h ((y2).add 0) = some (.int .u8 i37) ∧ (∃ i38, cell h ((y2).add 1) = some (.int .u8 i38) ∧ (∃ s39, cell h ((y2).add 2) = some (S s39) ∧ (∃ s40b s40n s40c, cell h ((y2).add 3) = some (.slice s40b s40n s40c) ∧ (∃ s41, cell h ((y2).add 4) = some (S s41) ∧ (∃ s42b s42n s42c, cell h ((y2).add 5) = some (.slice s42b s42n s42c) ∧ (K (.agg ⟨[(.int .u8 i37), (.int .u8 i38), (S s39), (.slice s40b s40n s40c), (S s41), (.slice s42b s42n s42c)]⟩) h))))))) h
theorem ok (x0_0 : Int) (x0_1 : Int) (x0_2 : List UInt8) (x0_3b : Option Addr) (x0_3n : Nat) (x0_3c : Nat) (x0_4 : List UInt8) (x0_5b : Option Addr) (x0_5n : Nat) (x0_5c : Nat) (K : Value → H → Prop) (h : H) (hS : asks x0_0 x0_1 x0_2 x0_3b x0_3n x0_3c x0_4 x0_5b x0_5n x0_5c K h) : HCalls Tryz.prog 65 ⟨[(.agg ⟨[(.int .u8 x0_0), (.int .u8 x0_1), (S x0_2), (.slice x0_3b x0_3n x0_3c), (S x0_4), (.slice x0_5b x0_5n x0_5c)]⟩)]⟩ h K :=
  callsN (c := code) Tryz.func65 (by kernel_rfl) (by kernel_rfl) (n1_ok ⟨rfl, rfl⟩ hS) fun hq => D0_el hq fun hg hq => retN hg hq (by kernel_rfl)
end Sx.r10_bare

/-! ### (*tympan/tympanref10.Tree).holds -/
namespace Sx.r10_Tree_holds
noncomputable def code : Code := bodyOf Tryz.f66
abbrev W := wpC none Tryz.prog 24
variable (g : Env) (x0 : Option Addr) (x1 : Int) (x4 : Bool)
abbrev T0 := Bool → H → Prop
abbrev E0 := Held g [(4, .bool x4)]
def D0 (K : T0) (g : Env) (h : H) : Prop := nilDs g.ds (vBool (g.v 4) fun b1 => K b1 h)
abbrev Q0 (Kn Kr : T0) := QX (D0 Kn) (D0 Kr) noX
abbrev T1 := (Option Addr) → Int → H → Prop
abbrev E1 := Held g [(0, .pointer x0), (1, .int .i64 x1)]
def D1 (K : T1) (g : Env) (h : H) : Prop := nilDs g.ds (vPtr (g.v 0) fun p2 => vInt .i64 (g.v 1) fun i3 => K p2 i3 h)
abbrev n1 (Kn Kr : T0) (h : H) : Prop :=
  HCalls Tryz.prog 67 ⟨[(.pointer x0), (.int .i64 x1)]⟩ h fun v4 h5 => vBool v4 fun b6 => cond b6 (Spl (x1 = (0 : Int)) (Kr true h5) (vSome x0 fun a7 => ∃ s8b s8n s8c, cell h5 (a7.add 0) = some (.slice s8b s8n s8c) ∧ ((0 ≤ x1 ∧ x1 < (s8n : Int)) ∧ (vSome s8b fun a9 => ∃ i10, cell h5 (((a9.add (Int.toNat x1 * 8)).add 0).add 0) = some (.int .u8 i10) ∧ (Spl (i10 = (1 : Int)) (Kr true h5) (Kr false h5)))))) (Kr false h5)
variable {g} {h : H} {p : Prop}
variable {x0 x1 x4}
theorem D0_el {K : T0} (hq : D0 K g h) (f : ∀ {x4}, E0 g x4 → K x4 h → p) : p := nilDs_el hq fun d q => vBool_el q fun _ e4 q => f ⟨e4, d⟩ q
theorem D1_el {K : T1} (hq : D1 K g h) (f : ∀ {x0 x1}, E1 g x0 x1 → K x0 x1 h → p) : p := nilDs_el hq fun d q => vPtr_el q fun _ e0 q => vInt_el q fun _ e1 q => f ⟨e0, e1, d⟩ q
theorem n1_ok {Kn Kr : T0} (hg : E1 g x0 x1) (hS : n1 x0 x1 Kn Kr h) : W code (Q0 Kn Kr) g h :=
  leafN (by kernel_rfl) (by kernel_rfl) hg hS (by kernel_rfl)
/-- WHAT (*tympan/tympanref10.Tree).holds ASKS -/
abbrev asks (x0 : Option Addr) (x1 : Int) (K : Value → H → Prop) (h : H) : Prop := n1 x0 x1 (fun y4 h => K (.bool y4) h) (fun y4 h => K (.bool y4) h) h
theorem ok (x0 : Option Addr) (x1 : Int) (K : Value → H → Prop) (h : H) (hS : asks x0 x1 K h) : HCalls Tryz.prog 66 ⟨[(.pointer x0), (.int .i64 x1)]⟩ h K :=
  callsN (c := code) Tryz.func66 (by kernel_rfl) (by kernel_rfl) (n1_ok ⟨rfl, rfl, rfl⟩ hS) fun hq => D0_el hq fun hg hq => retN hg hq (by kernel_rfl)
end Sx.r10_Tree_holds

/-! ### (*tympan/tympanref10.Tree).there -/
namespace Sx.r10_Tree_there
noncomputable def code : Code := bodyOf Tryz.f67
abbrev W := wpC none Tryz.prog 16
variable (g : Env) (x0 : Option Addr) (x1 : Int) (x4 : Bool)
abbrev T0 := Bool → H → Prop
abbrev E0 := Held g [(4, .bool x4)]
def D0 (K : T0) (g : Env) (h : H) : Prop := nilDs g.ds (vBool (g.v 4) fun b1 => K b1 h)
abbrev Q0 (Kn Kr : T0) := QX (D0 Kn) (D0 Kr) noX
abbrev T1 := (Option Addr) → Int → H → Prop
abbrev E1 := Held g [(0, .pointer x0), (1, .int .i64 x1)]
def D1 (K : T1) (g : Env) (h : H) : Prop := nilDs g.ds (vPtr (g.v 0) fun p2 => vInt .i64 (g.v 1) fun i3 => K p2 i3 h)
abbrev n1 (Kn Kr : T0) (h : H) : Prop :=
  Spl (x1 ≥ (0 : Int)) (vSome x0 fun a4 => ∃ s5b s5n s5c, cell h (a4.add 0) = some (.slice s5b s5n s5c) ∧ (Spl (x1 < (s5n : Int)) (Kr true h) (Kr false h))) (Kr false h)
variable {g} {h : H} {p : Prop}
variable {x0 x1 x4}
theorem D0_el {K : T0} (hq : D0 K g h) (f : ∀ {x4}, E0 g x4 → K x4 h → p) : p := nilDs_el hq fun d q => vBool_el q fun _ e4 q => f ⟨e4, d⟩ q
theorem D1_el {K : T1} (hq : D1 K g h) (f : ∀ {x0 x1}, E1 g x0 x1 → K x0 x1 h → p) : p := nilDs_el hq fun d q => vPtr_el q fun _ e0 q => vInt_el q fun _ e1 q => f ⟨e0, e1, d⟩ q
theorem n1_ok {Kn Kr : T0} (hg : E1 g x0 x1) (hS : n1 x0 x1 Kn Kr h) : W code (Q0 Kn Kr) g h :=
  leafN (by kernel_rfl) (by kernel_rfl) hg hS (by kernel_rfl)
/-- WHAT (*tympan/tympanref10.Tree).there ASKS -/
abbrev asks (x0 : Option Addr) (x1 : Int) (K : Value → H → Prop) (h : H) : Prop := n1 x0 x1 (fun y4 h => K (.bool y4) h) (fun y4 h => K (.bool y4) h) h
theorem ok (x0 : Option Addr) (x1 : Int) (K : Value → H → Prop) (h : H) (hS : asks x0 x1 K h) : HCalls Tryz.prog 67 ⟨[(.pointer x0), (.int .i64 x1)]⟩ h K :=
  callsN (c := code) Tryz.func67 (by kernel_rfl) (by kernel_rfl) (n1_ok ⟨rfl, rfl, rfl⟩ hS) fun hq => D0_el hq fun hg hq => retN hg hq (by kernel_rfl)
end Sx.r10_Tree_there

/-! ### (*tympan/tympanref10.Tree).within -/
namespace Sx.r10_Tree_within
noncomputable def code : Code := bodyOf Tryz.f68
abbrev W := wpC none Tryz.prog 20
variable (g : Env) (x0 : Option Addr) (x1 x2 : Int) (x6 : Bool)
abbrev T0 := Bool → H → Prop
abbrev E0 := Held g [(6, .bool x6)]
def D0 (K : T0) (g : Env) (h : H) : Prop := nilDs g.ds (vBool (g.v 6) fun b1 => K b1 h)
abbrev Q0 (Kn Kr : T0) := QX (D0 Kn) (D0 Kr) noX
abbrev T1 := (Option Addr) → Int → Int → H → Prop
abbrev E1 := Held g [(0, .pointer x0), (1, .int .i64 x1), (2, .int .i64 x2)]
def D1 (K : T1) (g : Env) (h : H) : Prop := nilDs g.ds (vPtr (g.v 0) fun p2 => vInt .i64 (g.v 1) fun i3 => vInt .i64 (g.v 2) fun i4 => K p2 i3 i4 h)
noncomputable def c1 := cFst code
noncomputable def c2 := cSnd code
noncomputable def c3 := cFst c2
noncomputable def c4 := cSnd c2
abbrev T2 := H → Prop
abbrev E2 := Held g []
def D2 (K : T2) (g : Env) (h : H) : Prop := nilDs g.ds (K h)
abbrev n3 (Kn Kr : T0) (h : H) : Prop :=
  Kr false h
abbrev Q1 (Kn : T2) (Kr : T0) := QX (D2 Kn) (D0 Kr) noX
noncomputable def c5 := cFst c3
abbrev Q2 (Kn Ke0 : T2) (Kr : T0) := QX (D2 Kn) (D0 Kr) (exX 0 (D2 Ke0) noX)
noncomputable def c6 := cFst c5
abbrev Q3 (Kn : T1) (Ke0 : T2) (Kr : T0) := QX (D1 Kn) (D0 Kr) (exX 0 (D2 Ke0) noX)
def n5_L (Kn Ke0 : T2) (Kr : T0) : Nat → T1
  | 0 => fun _ _ _ _ => False
  | N + 1 => fun x0 x1 x2 h => Spl (x1 ≥ (0 : Int)) (Spl (x1 = x2) (Kr true h) (vSome x0 fun a5 => ∃ s6b s6n s6c, cell h (a5.add 0) = some (.slice s6b s6n s6c) ∧ ((0 ≤ x1 ∧ x1 < (s6n : Int)) ∧ (vSome s6b fun a7 => ∃ i8, cell h ((a7.add (Int.toNat x1 * 8)).add 6) = some (.int .i64 i8) ∧ (n5_L Kn Ke0 Kr N x0 i8 x2 h))))) (Ke0 h)
abbrev n5 (Kn Ke0 : T2) (Kr : T0) (h : H) : Prop :=
  ∃ N, n5_L Kn Ke0 Kr N x0 x1 x2 h
abbrev n4 (Kn : T2) (Kr : T0) (h : H) : Prop :=
  n5 x0 x1 x2 Kn Kn Kr h
abbrev n2 (Kn Kr : T0) (h : H) : Prop :=
  n4 x0 x1 x2 (fun  h => n3 Kn Kr h) Kr h
abbrev Q4 (Kn : T1) (Kr : T0) := QX (D1 Kn) (D0 Kr) noX
abbrev n1 (Kn Kr : T0) (h : H) : Prop :=
  n2 x0 x1 x2 Kn Kr h
variable {g} {h : H} {p : Prop}
variable {x0 x1 x2 x6}
theorem D1_mk {K : T1} (hg : E1 g x0 x1 x2) (hk : K x0 x1 x2 h) : D1 K g h := by
  obtain ⟨e0, e1, e2, d⟩ := hg
  unfold D1
  rw [e0, e1, e2, d]
  exact hk
theorem D0_el {K : T0} (hq : D0 K g h) (f : ∀ {x6}, E0 g x6 → K x6 h → p) : p := nilDs_el hq fun d q => vBool_el q fun _ e6 q => f ⟨e6, d⟩ q
theorem D1_el {K : T1} (hq : D1 K g h) (f : ∀ {x0 x1 x2}, E1 g x0 x1 x2 → K x0 x1 x2 h → p) : p := nilDs_el hq fun d q => vPtr_el q fun _ e0 q => vInt_el q fun _ e1 q => vInt_el q fun _ e2 q => f ⟨e0, e1, e2, d⟩ q
theorem D2_el {K : T2} (hq : D2 K g h) (f : E2 g → K  h → p) : p := nilDs_el hq fun d q => f d q
theorem n3_ok {Kn Kr : T0} (hg : E2 g) (hS : n3 Kn Kr h) : W c4 (Q0 Kn Kr) g h :=
  leafN (by kernel_rfl) (by kernel_rfl) hg hS (by kernel_rfl)
theorem n5_ok {Kn Ke0 : T2} {Kr : T0} (hg : E1 g x0 x1 x2) (hS : n5 x0 x1 x2 Kn Ke0 Kr h) : W c5 (Q2 Kn Ke0 Kr) g h :=
  let ⟨N, hS⟩ := hS
  loopN (x := c6) (I := fun N => D1 (n5_L Kn Ke0 Kr N)) (by kernel_rfl) (fun hq => D1_el hq fun _ hq => hq) (fun hq => D1_el hq fun hg hq => leafN (by kernel_rfl) (by kernel_rfl) hg hq (by kernel_rfl)) N (D1_mk hg hS)
theorem n4_ok {Kn : T2} {Kr : T0} (hg : E1 g x0 x1 x2) (hS : n4 x0 x1 x2 Kn Kr h) : W c3 (Q1 Kn Kr) g h := blockN (by kernel_rfl) (n5_ok hg hS)
theorem n2_ok {Kn Kr : T0} (hg : E1 g x0 x1 x2) (hS : n2 x0 x1 x2 Kn Kr h) : W c2 (Q0 Kn Kr) g h :=
  seqN (by kernel_rfl) (n4_ok hg hS) fun hq => D2_el hq n3_ok
theorem n1_ok {Kn Kr : T0} (hg : E1 g x0 x1 x2) (hS : n1 x0 x1 x2 Kn Kr h) : W code (Q0 Kn Kr) g h :=
  seqN (x := c1) (N' := D1 (fun z0 z1 z2 h => n2 z0 z1 z2 Kn Kr h)) (by kernel_rfl) (leafN (by kernel_rfl) (by kernel_rfl) hg hS (by kernel_rfl)) fun hq => D1_el hq n2_ok
/-- WHAT (*tympan/tympanref10.Tree).within ASKS -/
abbrev asks (x0 : Option Addr) (x1 : Int) (x2 : Int) (K : Value → H → Prop) (h : H) : Prop := n1 x0 x1 x2 (fun y6 h => K (.bool y6) h) (fun y6 h => K (.bool y6) h) h
theorem ok (x0 : Option Addr) (x1 : Int) (x2 : Int) (K : Value → H → Prop) (h : H) (hS : asks x0 x1 x2 K h) : HCalls Tryz.prog 68 ⟨[(.pointer x0), (.int .i64 x1), (.int .i64 x2)]⟩ h K :=
  callsN (c := code) Tryz.func68 (by kernel_rfl) (by kernel_rfl) (n1_ok ⟨rfl, rfl, rfl, rfl⟩ hS) fun hq => D0_el hq fun hg hq => retN hg hq (by kernel_rfl)
end Sx.r10_Tree_within

/-! ### (*tympan/tympanref10.Tree).place -/
namespace Sx.r10_Tree_place
noncomputable def code : Code := bodyOf Tryz.f69
abbrev W := wpC none Tryz.prog 34
variable (g : Env) (x0 : Option Addr) (x1 x2 x6 : Int) (x7b : Option Addr) (x7n x7c : Nat) (x8 : Int)
abbrev T0 := Int → H → Prop
abbrev E0 := Held g [(6, .int .i64 x6)]
def D0 (K : T0) (g : Env) (h : H) : Prop := nilDs g.ds (vInt .i64 (g.v 6) fun i1 => K i1 h)
abbrev Q0 (Kn Kr : T0) := QX (D0 Kn) (D0 Kr) noX
abbrev T1 := (Option Addr) → Int → Int → H → Prop
abbrev E1 := Held g [(0, .pointer x0), (1, .int .i64 x1), (2, .int .i64 x2)]
def D1 (K : T1) (g : Env) (h : H) : Prop := nilDs g.ds (vPtr (g.v 0) fun p2 => vInt .i64 (g.v 1) fun i3 => vInt .i64 (g.v 2) fun i4 => K p2 i3 i4 h)
noncomputable def c1 := cFst code
noncomputable def c2 := cSnd code
noncomputable def c3 := cFst c2
noncomputable def c4 := cSnd c2
abbrev T2 := Int → (Option Addr) → Nat → Nat → H → Prop
abbrev E2 := Held g [(2, .int .i64 x2), (7, .slice x7b x7n x7c)]
def D2 (K : T2) (g : Env) (h : H) : Prop := nilDs g.ds (vInt .i64 (g.v 2) fun i5 => vSlice (g.v 7) fun s6b s6n s6c => K i5 s6b s6n s6c h)
noncomputable def c5 := cFst c4
noncomputable def c6 := cSnd c4
noncomputable def c7 := cFst c6
noncomputable def c8 := cSnd c6
abbrev T3 := H → Prop
abbrev E3 := Held g []
def D3 (K : T3) (g : Env) (h : H) : Prop := nilDs g.ds (K h)
abbrev n5 (Kn Kr : T0) (h : H) : Prop :=
  Kr (-1 : Int) h
abbrev Q1 (Kn : T3) (Kr : T0) := QX (D3 Kn) (D0 Kr) noX
noncomputable def c9 := cFst c7
noncomputable def c10 := cSnd c7
abbrev T4 := Int → (Option Addr) → Nat → Nat → Int → H → Prop
abbrev E4 := Held g [(2, .int .i64 x2), (7, .slice x7b x7n x7c), (8, .int .i64 x8)]
def D4 (K : T4) (g : Env) (h : H) : Prop := nilDs g.ds (vInt .i64 (g.v 2) fun i7 => vSlice (g.v 7) fun s8b s8n s8c => vInt .i64 (g.v 8) fun i9 => K i7 s8b s8n s8c i9 h)
noncomputable def c11 := cFst c10
abbrev Q2 (Kn Ke0 : T3) (Kr : T0) := QX (D3 Kn) (D0 Kr) (exX 0 (D3 Ke0) noX)
noncomputable def c12 := cFst c11
abbrev Q3 (Kn : T4) (Ke0 : T3) (Kr : T0) := QX (D4 Kn) (D0 Kr) (exX 0 (D3 Ke0) noX)
def n8_L (Kn Ke0 : T3) (Kr : T0) : Nat → T4
  | 0 => fun _ _ _ _ _ _ => False
  | N + 1 => fun x2 x7b x7n x7c x8 h => Spl (x8 < (x7n : Int)) ((0 ≤ x8 ∧ x8 < (x7n : Int)) ∧ (vSome x7b fun a10 => ∃ i11, cell h (a10.add (Int.toNat x8 * 1)) = some (.int .i64 i11) ∧ (Spl (i11 = x2) (Kr x8 h) (Rng .i64 (x8 + (1 : Int)) ∧ (n8_L Kn Ke0 Kr N x2 x7b x7n x7c (x8 + (1 : Int)) h))))) (Ke0 h)
abbrev n8 (Kn Ke0 : T3) (Kr : T0) (h : H) : Prop :=
  ∃ N, n8_L Kn Ke0 Kr N x2 x7b x7n x7c x8 h
abbrev n7 (Kn : T3) (Kr : T0) (h : H) : Prop :=
  n8 x2 x7b x7n x7c x8 Kn Kn Kr h
abbrev Q4 (Kn : T4) (Kr : T0) := QX (D4 Kn) (D0 Kr) noX
abbrev n6 (Kn : T3) (Kr : T0) (h : H) : Prop :=
  n7 x2 x7b x7n x7c (0 : Int) Kn Kr h
abbrev n4 (Kn Kr : T0) (h : H) : Prop :=
  n6 x2 x7b x7n x7c (fun  h => n5 Kn Kr h) Kr h
abbrev Q5 (Kn : T2) (Kr : T0) := QX (D2 Kn) (D0 Kr) noX
abbrev n3 (Kn Kr : T0) (h : H) : Prop :=
  Spl (x2 = (-1 : Int)) (Kr (x7n : Int) h) (n4 x2 x7b x7n x7c Kn Kr h)
abbrev n2 (Kn Kr : T0) (h : H) : Prop :=
  vSome x0 fun a12 => ∃ s13b s13n s13c, cell h (a12.add 0) = some (.slice s13b s13n s13c) ∧ ((0 ≤ x1 ∧ x1 < (s13n : Int)) ∧ (vSome s13b fun a14 => ∃ s15b s15n s15c, cell h ((a14.add (Int.toNat x1 * 8)).add 7) = some (.slice s15b s15n s15c) ∧ (n3 x2 s15b s15n s15c Kn Kr h)))
abbrev Q6 (Kn : T1) (Kr : T0) := QX (D1 Kn) (D0 Kr) noX
abbrev n1 (Kn Kr : T0) (h : H) : Prop :=
  n2 x0 x1 x2 Kn Kr h
variable {g} {h : H} {p : Prop}
variable {x0 x1 x2 x6 x7b x7n x7c x8}
theorem D4_mk {K : T4} (hg : E4 g x2 x7b x7n x7c x8) (hk : K x2 x7b x7n x7c x8 h) : D4 K g h := by
  obtain ⟨e2, e7, e8, d⟩ := hg
  unfold D4
  rw [e2, e7, e8, d]
  exact hk
theorem D0_el {K : T0} (hq : D0 K g h) (f : ∀ {x6}, E0 g x6 → K x6 h → p) : p := nilDs_el hq fun d q => vInt_el q fun _ e6 q => f ⟨e6, d⟩ q
theorem D1_el {K : T1} (hq : D1 K g h) (f : ∀ {x0 x1 x2}, E1 g x0 x1 x2 → K x0 x1 x2 h → p) : p := nilDs_el hq fun d q => vPtr_el q fun _ e0 q => vInt_el q fun _ e1 q => vInt_el q fun _ e2 q => f ⟨e0, e1, e2, d⟩ q
theorem D2_el {K : T2} (hq : D2 K g h) (f : ∀ {x2 x7b x7n x7c}, E2 g x2 x7b x7n x7c → K x2 x7b x7n x7c h → p) : p := nilDs_el hq fun d q => vInt_el q fun _ e2 q => vSlice_el q fun _ _ _ e7 q => f ⟨e2, e7, d⟩ q
theorem D3_el {K : T3} (hq : D3 K g h) (f : E3 g → K  h → p) : p := nilDs_el hq fun d q => f d q
theorem n5_ok {Kn Kr : T0} (hg : E3 g) (hS : n5 Kn Kr h) : W c8 (Q0 Kn Kr) g h :=
  leafN (by kernel_rfl) (by kernel_rfl) hg hS (by kernel_rfl)
theorem D4_el {K : T4} (hq : D4 K g h) (f : ∀ {x2 x7b x7n x7c x8}, E4 g x2 x7b x7n x7c x8 → K x2 x7b x7n x7c x8 h → p) : p := nilDs_el hq fun d q => vInt_el q fun _ e2 q => vSlice_el q fun _ _ _ e7 q => vInt_el q fun _ e8 q => f ⟨e2, e7, e8, d⟩ q
theorem n8_ok {Kn Ke0 : T3} {Kr : T0} (hg : E4 g x2 x7b x7n x7c x8) (hS : n8 x2 x7b x7n x7c x8 Kn Ke0 Kr h) : W c11 (Q2 Kn Ke0 Kr) g h :=
  let ⟨N, hS⟩ := hS
  loopN (x := c12) (I := fun N => D4 (n8_L Kn Ke0 Kr N)) (by kernel_rfl) (fun hq => D4_el hq fun _ hq => hq) (fun hq => D4_el hq fun hg hq => leafN (by kernel_rfl) (by kernel_rfl) hg hq (by kernel_rfl)) N (D4_mk hg hS)
theorem n7_ok {Kn : T3} {Kr : T0} (hg : E4 g x2 x7b x7n x7c x8) (hS : n7 x2 x7b x7n x7c x8 Kn Kr h) : W c10 (Q1 Kn Kr) g h := blockN (by kernel_rfl) (n8_ok hg hS)
theorem n6_ok {Kn : T3} {Kr : T0} (hg : E2 g x2 x7b x7n x7c) (hS : n6 x2 x7b x7n x7c Kn Kr h) : W c7 (Q1 Kn Kr) g h :=
  seqN (x := c9) (N' := D4 (fun z2 z7b z7n z7c z8 h => n7 z2 z7b z7n z7c z8 Kn Kr h)) (by kernel_rfl) (leafN (by kernel_rfl) (by kernel_rfl) hg hS (by kernel_rfl)) fun hq => D4_el hq n7_ok
theorem n4_ok {Kn Kr : T0} (hg : E2 g x2 x7b x7n x7c) (hS : n4 x2 x7b x7n x7c Kn Kr h) : W c6 (Q0 Kn Kr) g h :=
  seqN (by kernel_rfl) (n6_ok hg hS) fun hq => D3_el hq n5_ok
theorem n3_ok {Kn Kr : T0} (hg : E2 g x2 x7b x7n x7c) (hS : n3 x2 x7b x7n x7c Kn Kr h) : W c4 (Q0 Kn Kr) g h :=
  seqN (x := c5) (N' := D2 (fun z2 z7b z7n z7c h => n4 z2 z7b z7n z7c Kn Kr h)) (by kernel_rfl) (leafN (by kernel_rfl) (by kernel_rfl) hg hS (by kernel_rfl)) fun hq => D2_el hq n4_ok
theorem n2_ok {Kn Kr : T0} (hg : E1 g x0 x1 x2) (hS : n2 x0 x1 x2 Kn Kr h) : W c2 (Q0 Kn Kr) g h :=
  seqN (x := c3) (N' := D2 (fun z2 z7b z7n z7c h => n3 z2 z7b z7n z7c Kn Kr h)) (by kernel_rfl) (leafN (by kernel_rfl) (by kernel_rfl) hg hS (by kernel_rfl)) fun hq => D2_el hq n3_ok
theorem n1_ok {Kn Kr : T0} (hg : E1 g x0 x1 x2) (hS : n1 x0 x1 x2 Kn Kr h) : W code (Q0 Kn Kr) g h :=
  seqN (x := c1) (N' := D1 (fun z0 z1 z2 h => n2 z0 z1 z2 Kn Kr h)) (by kernel_rfl) (leafN (by kernel_rfl) (by kernel_rfl) hg hS (by kernel_rfl)) fun hq => D1_el hq n2_ok
/-- WHAT (*tympan/tympanref10.Tree).place ASKS -/
abbrev asks (x0 : Option Addr) (x1 : Int) (x2 : Int) (K : Value → H → Prop) (h : H) : Prop := n1 x0 x1 x2 (fun y6 h => K (.int .i64 y6) h) (fun y6 h => K (.int .i64 y6) h) h
theorem ok (x0 : Option Addr) (x1 : Int) (x2 : Int) (K : Value → H → Prop) (h : H) (hS : asks x0 x1 x2 K h) : HCalls Tryz.prog 69 ⟨[(.pointer x0), (.int .i64 x1), (.int .i64 x2)]⟩ h K :=
  callsN (c := code) Tryz.func69 (by kernel_rfl) (by kernel_rfl) (n1_ok ⟨rfl, rfl, rfl, rfl⟩ hS) fun hq => D0_el hq fun hg hq => retN hg hq (by kernel_rfl)
end Sx.r10_Tree_place

/-! ### (*tympan/tympanref10.Tree).Cut -/
namespace Sx.r10_Tree_Cut
noncomputable def code : Code := bodyOf Tryz.f70
abbrev W := wpC none Tryz.prog 77
variable (g : Env) (x0 : Option Addr) (x1 : Int) (x4 x5 : Bool)
abbrev T0 := Bool → H → Prop
abbrev E0 := Held g [(4, .bool x4)]
def D0 (K : T0) (g : Env) (h : H) : Prop := nilDs g.ds (vBool (g.v 4) fun b1 => K b1 h)
abbrev Q0 (Kn Kr : T0) := QX (D0 Kn) (D0 Kr) noX
abbrev T1 := (Option Addr) → Int → H → Prop
abbrev E1 := Held g [(0, .pointer x0), (1, .int .i64 x1)]
def D1 (K : T1) (g : Env) (h : H) : Prop := nilDs g.ds (vPtr (g.v 0) fun p2 => vInt .i64 (g.v 1) fun i3 => K p2 i3 h)
noncomputable def c1 := cFst code
noncomputable def c2 := cSnd code
noncomputable def c3 := cFst c2
noncomputable def c4 := cSnd c2
abbrev T2 := (Option Addr) → Int → Bool → H → Prop
abbrev E2 := Held g [(0, .pointer x0), (1, .int .i64 x1), (5, .bool x5)]
def D2 (K : T2) (g : Env) (h : H) : Prop := nilDs g.ds (vPtr (g.v 0) fun p4 => vInt .i64 (g.v 1) fun i5 => vBool (g.v 5) fun b6 => K p4 i5 b6 h)
abbrev n3 (Kn Kr : T0) (h : H) : Prop :=
  cond x5 (vSome x0 fun a7 => ∃ s8b s8n s8c, cell h (a7.add 0) = some (.slice s8b s8n s8c) ∧ ((0 ≤ x1 ∧ x1 < (s8n : Int)) ∧ (vSome s8b fun a9 => ∃ i10, cell h ((a9.add (Int.toNat x1 * 8)).add 6) = some (.int .i64 i10) ∧ (Spl (i10 < (0 : Int)) (Kr false h) (vSome x0 fun a11 => ∃ s12b s12n s12c, cell h (a11.add 0) = some (.slice s12b s12n s12c) ∧ ((0 ≤ x1 ∧ x1 < (s12n : Int)) ∧ (vSome s12b fun a13 => ∃ i14, cell h ((a13.add (Int.toNat x1 * 8)).add 6) = some (.int .i64 i14) ∧ (HCalls Tryz.prog 69 ⟨[(.pointer x0), (.int .i64 i14), (.int .i64 x1)]⟩ h fun v15 h16 => vInt .i64 v15 fun i17 => vSome x0 fun a18 => ∃ s19b s19n s19c, cell h16 (a18.add 0) = some (.slice s19b s19n s19c) ∧ ((0 ≤ i14 ∧ i14 < (s19n : Int)) ∧ (vSome s19b fun a20 => ∃ s21b s21n s21c, cell h16 ((a20.add (Int.toNat i14 * 8)).add 7) = some (.slice s21b s21n s21c) ∧ ((0 ≤ (0 : Int) ∧ (0 : Int) ≤ i17 ∧ i17 ≤ (s21c : Int)) ∧ (SemH Tryz.prog (Builtin.append_ #[82, 82] 82 ⟨[(.slice none 0 0), (.slice (if s21c = Int.toNat (0 : Int) then s21b else Option.map (fun q => q.add (Int.toNat (0 : Int) * 1)) s21b) (Int.toNat i17 - Int.toNat (0 : Int)) (s21c - Int.toNat (0 : Int)))]⟩) h16 fun v22 h23 => vSlice v22 fun s24b s24n s24c => vSome x0 fun a25 => ∃ s26b s26n s26c, cell h23 (a25.add 0) = some (.slice s26b s26n s26c) ∧ ((0 ≤ i14 ∧ i14 < (s26n : Int)) ∧ (vSome s26b fun a27 => ∃ s28b s28n s28c, cell h23 ((a27.add (Int.toNat i14 * 8)).add 7) = some (.slice s28b s28n s28c) ∧ (Rng .i64 (i17 + (1 : Int)) ∧ ((0 ≤ (i17 + (1 : Int)) ∧ (i17 + (1 : Int)) ≤ (s28n : Int) ∧ (s28n : Int) ≤ (s28c : Int)) ∧ (SemH Tryz.prog (Builtin.append_ #[82, 82] 82 ⟨[(.slice s24b s24n s24c), (.slice (if s28c = Int.toNat (i17 + (1 : Int)) then s28b else Option.map (fun q => q.add (Int.toNat (i17 + (1 : Int)) * 1)) s28b) (Int.toNat (s28n : Int) - Int.toNat (i17 + (1 : Int))) (s28c - Int.toNat (i17 + (1 : Int))))]⟩) h23 fun v29 h30 => vSlice v29 fun s31b s31n s31c => vSome x0 fun a32 => ∃ s33b s33n s33c, cell h30 (a32.add 0) = some (.slice s33b s33n s33c) ∧ ((0 ≤ i14 ∧ i14 < (s33n : Int)) ∧ (vSome s33b fun a34 => stL ((a34.add (Int.toNat i14 * 8)).add 7) [(.slice s31b s31n s31c)] 0 h30 fun h35 => vSome x0 fun a36 => ∃ s37b s37n s37c, cell h35 (a36.add 0) = some (.slice s37b s37n s37c) ∧ ((0 ≤ x1 ∧ x1 < (s37n : Int)) ∧ (vSome s37b fun a38 => stL ((a38.add (Int.toNat x1 * 8)).add 6) [(.int .i64 (-1 : Int))] 0 h35 fun h39 => Kr true h39))))))))))))))))))))) (Kr false h)
abbrev Q1 (Kn : T2) (Kr : T0) := QX (D2 Kn) (D0 Kr) noX
abbrev n2 (Kn Kr : T0) (h : H) : Prop :=
  HCalls Tryz.prog 67 ⟨[(.pointer x0), (.int .i64 x1)]⟩ h fun v40 h41 => vBool v40 fun b42 => cond b42 (n3 x0 x1 true Kn Kr h41) (n3 x0 x1 false Kn Kr h41)
abbrev Q2 (Kn : T1) (Kr : T0) := QX (D1 Kn) (D0 Kr) noX
abbrev n1 (Kn Kr : T0) (h : H) : Prop :=
  n2 x0 x1 Kn Kr h
variable {g} {h : H} {p : Prop}
variable {x0 x1 x4 x5}
theorem D0_el {K : T0} (hq : D0 K g h) (f : ∀ {x4}, E0 g x4 → K x4 h → p) : p := nilDs_el hq fun d q => vBool_el q fun _ e4 q => f ⟨e4, d⟩ q
theorem D1_el {K : T1} (hq : D1 K g h) (f : ∀ {x0 x1}, E1 g x0 x1 → K x0 x1 h → p) : p := nilDs_el hq fun d q => vPtr_el q fun _ e0 q => vInt_el q fun _ e1 q => f ⟨e0, e1, d⟩ q
theorem D2_el {K : T2} (hq : D2 K g h) (f : ∀ {x0 x1 x5}, E2 g x0 x1 x5 → K x0 x1 x5 h → p) : p := nilDs_el hq fun d q => vPtr_el q fun _ e0 q => vInt_el q fun _ e1 q => vBool_el q fun _ e5 q => f ⟨e0, e1, e5, d⟩ q
theorem n3_ok {Kn Kr : T0} (hg : E2 g x0 x1 x5) (hS : n3 x0 x1 x5 Kn Kr h) : W c4 (Q0 Kn Kr) g h :=
  leafN (by kernel_rfl) (by kernel_rfl) hg hS (by kernel_rfl)
theorem n2_ok {Kn Kr : T0} (hg : E1 g x0 x1) (hS : n2 x0 x1 Kn Kr h) : W c2 (Q0 Kn Kr) g h :=
  seqN (x := c3) (N' := D2 (fun z0 z1 z5 h => n3 z0 z1 z5 Kn Kr h)) (by kernel_rfl) (leafN (by kernel_rfl) (by kernel_rfl) hg hS (by kernel_rfl)) fun hq => D2_el hq n3_ok
theorem n1_ok {Kn Kr : T0} (hg : E1 g x0 x1) (hS : n1 x0 x1 Kn Kr h) : W code (Q0 Kn Kr) g h :=
  seqN (x := c1) (N' := D1 (fun z0 z1 h => n2 z0 z1 Kn Kr h)) (by kernel_rfl) (leafN (by kernel_rfl) (by kernel_rfl) hg hS (by kernel_rfl)) fun hq => D1_el hq n2_ok
/-- WHAT (*tympan/tympanref10.Tree).Cut ASKS -/
abbrev asks (x0 : Option Addr) (x1 : Int) (K : Value → H → Prop) (h : H) : Prop := n1 x0 x1 (fun y4 h => K (.bool y4) h) (fun y4 h => K (.bool y4) h) h
theorem ok (x0 : Option Addr) (x1 : Int) (K : Value → H → Prop) (h : H) (hS : asks x0 x1 K h) : HCalls Tryz.prog 70 ⟨[(.pointer x0), (.int .i64 x1)]⟩ h K :=
  callsN (c := code) Tryz.func70 (by kernel_rfl) (by kernel_rfl) (n1_ok ⟨rfl, rfl, rfl⟩ hS) fun hq => D0_el hq fun hg hq => retN hg hq (by kernel_rfl)
end Sx.r10_Tree_Cut

/-! ### tympan/tympanlaw13.heavy -/
namespace Sx.l13_heavy
noncomputable def code : Code := bodyOf Tryz.f4
abbrev W := wpC none Tryz.prog 34
variable (g : Env) (x0b : Option Addr) (x0n x0c : Nat) (x2 : Bool) (x3 x4 : Int)
abbrev T0 := Bool → H → Prop
abbrev E0 := Held g [(2, .bool x2)]
def D0 (K : T0) (g : Env) (h : H) : Prop := nilDs g.ds (vBool (g.v 2) fun b1 => K b1 h)
abbrev Q0 (Kn Kr : T0) := QX (D0 Kn) (D0 Kr) noX
abbrev T1 := (Option Addr) → Nat → Nat → H → Prop
abbrev E1 := Held g [(0, .slice x0b x0n x0c)]
def D1 (K : T1) (g : Env) (h : H) : Prop := nilDs g.ds (vSlice (g.v 0) fun s2b s2n s2c => K s2b s2n s2c h)
noncomputable def c1 := cFst code
noncomputable def c2 := cSnd code
noncomputable def c3 := cFst c2
noncomputable def c4 := cSnd c2
abbrev T2 := (Option Addr) → Nat → Nat → Int → H → Prop
abbrev E2 := Held g [(0, .slice x0b x0n x0c), (3, .int .i64 x3)]
def D2 (K : T2) (g : Env) (h : H) : Prop := nilDs g.ds (vSlice (g.v 0) fun s3b s3n s3c => vInt .i64 (g.v 3) fun i4 => K s3b s3n s3c i4 h)
noncomputable def c5 := cFst c4
noncomputable def c6 := cSnd c4
abbrev n4 (x0b : Option Addr) (x0n : Nat) (x0c : Nat) (x3 : Int) (Kn Kr : T0) (h : H) : Prop :=
  Spl (x3 > (400 : Int)) (Kr true h) (Spl ((x0n : Int) > (100 : Int)) (Kr true h) (Kr false h))
abbrev Q1 (Kn : T2) (Kr : T0) := QX (D2 Kn) (D0 Kr) noX
noncomputable def c7 := cFst c5
noncomputable def c8 := cSnd c5
abbrev T3 := (Option Addr) → Nat → Nat → Int → Int → H → Prop
abbrev E3 := Held g [(0, .slice x0b x0n x0c), (3, .int .i64 x3), (4, .int .i64 x4)]
def D3 (K : T3) (g : Env) (h : H) : Prop := nilDs g.ds (vSlice (g.v 0) fun s5b s5n s5c => vInt .i64 (g.v 3) fun i6 => vInt .i64 (g.v 4) fun i7 => K s5b s5n s5c i6 i7 h)
noncomputable def c9 := cFst c8
abbrev Q2 (Kn Ke0 : T2) (Kr : T0) := QX (D2 Kn) (D0 Kr) (exX 0 (D2 Ke0) noX)
noncomputable def c10 := cFst c9
abbrev Q3 (Kn : T3) (Ke0 : T2) (Kr : T0) := QX (D3 Kn) (D0 Kr) (exX 0 (D2 Ke0) noX)
def n7_L (Kn Ke0 : T2) (Kr : T0) : Nat → T3
  | 0 => fun _ _ _ _ _ _ => False
  | N + 1 => fun x0b x0n x0c x3 x4 h => Spl (x4 < (x0n : Int)) (Spl (x3 ≤ (400 : Int)) ((0 ≤ x4 ∧ x4 < (x0n : Int)) ∧ (vSome x0b fun a8 => ∃ i9, cell h ((((a8.add (Int.toNat x4 * 9)).add 2)).add 0) = some (.int .u8 i9) ∧ (∃ s10, cell h ((((a8.add (Int.toNat x4 * 9)).add 2)).add 1) = some (S s10) ∧ (∃ s11b s11n s11c, cell h ((((a8.add (Int.toNat x4 * 9)).add 2)).add 2) = some (.slice s11b s11n s11c) ∧ (∃ b12, cell h ((((a8.add (Int.toNat x4 * 9)).add 2)).add 3) = some (.bool b12) ∧ (∃ s13, cell h ((((a8.add (Int.toNat x4 * 9)).add 2)).add 4) = some (S s13) ∧ (newx h #[(.int .u8 i9), (S s10), (.slice s11b s11n s11c), (.bool b12), (S s13)] 31 fun a14 h15 => HCalls Tryz.prog 23 ⟨[(.slice (some a14) 1 1), (.int .i64 (400 : Int))]⟩ h15 fun v16 h17 => vInt .i64 v16 fun i18 => Rng .i64 (i18 - (1 : Int)) ∧ (Rng .i64 (x3 + (i18 - (1 : Int))) ∧ (Rng .i64 (x4 + (1 : Int)) ∧ (n7_L Kn Ke0 Kr N x0b x0n x0c (x3 + (i18 - (1 : Int))) (x4 + (1 : Int)) h17)))))))))) (Ke0 x0b x0n x0c x3 h)) (Ke0 x0b x0n x0c x3 h)
abbrev n7 (Kn Ke0 : T2) (Kr : T0) (h : H) : Prop :=
  ∃ N, n7_L Kn Ke0 Kr N x0b x0n x0c x3 x4 h
abbrev n6 (Kn : T2) (Kr : T0) (h : H) : Prop :=
  n7 x0b x0n x0c x3 x4 Kn Kn Kr h
abbrev Q4 (Kn : T3) (Kr : T0) := QX (D3 Kn) (D0 Kr) noX
abbrev n5 (Kn : T2) (Kr : T0) (h : H) : Prop :=
  n6 x0b x0n x0c x3 (0 : Int) Kn Kr h
abbrev n3 (Kn Kr : T0) (h : H) : Prop :=
  n5 x0b x0n x0c x3 (fun z0b z0n z0c z3 h => n4 z0b z0n z0c z3 Kn Kr h) Kr h
abbrev n2 (Kn Kr : T0) (h : H) : Prop :=
  n3 x0b x0n x0c (x0n : Int) Kn Kr h
abbrev Q5 (Kn : T1) (Kr : T0) := QX (D1 Kn) (D0 Kr) noX
abbrev n1 (Kn Kr : T0) (h : H) : Prop :=
  n2 x0b x0n x0c Kn Kr h
variable {g} {h : H} {p : Prop}
variable {x0b x0n x0c x2 x3 x4}
theorem D3_mk {K : T3} (hg : E3 g x0b x0n x0c x3 x4) (hk : K x0b x0n x0c x3 x4 h) : D3 K g h := by
  obtain ⟨e0, e3, e4, d⟩ := hg
  unfold D3
  rw [e0, e3, e4, d]
  exact hk
theorem D0_el {K : T0} (hq : D0 K g h) (f : ∀ {x2}, E0 g x2 → K x2 h → p) : p := nilDs_el hq fun d q => vBool_el q fun _ e2 q => f ⟨e2, d⟩ q
theorem D1_el {K : T1} (hq : D1 K g h) (f : ∀ {x0b x0n x0c}, E1 g x0b x0n x0c → K x0b x0n x0c h → p) : p := nilDs_el hq fun d q => vSlice_el q fun _ _ _ e0 q => f ⟨e0, d⟩ q
theorem D2_el {K : T2} (hq : D2 K g h) (f : ∀ {x0b x0n x0c x3}, E2 g x0b x0n x0c x3 → K x0b x0n x0c x3 h → p) : p := nilDs_el hq fun d q => vSlice_el q fun _ _ _ e0 q => vInt_el q fun _ e3 q => f ⟨e0, e3, d⟩ q
theorem n4_ok {Kn Kr : T0} (hg : E2 g x0b x0n x0c x3) (hS : n4 x0b x0n x0c x3 Kn Kr h) : W c6 (Q0 Kn Kr) g h :=
  leafN (by kernel_rfl) (by kernel_rfl) hg hS (by kernel_rfl)
theorem D3_el {K : T3} (hq : D3 K g h) (f : ∀ {x0b x0n x0c x3 x4}, E3 g x0b x0n x0c x3 x4 → K x0b x0n x0c x3 x4 h → p) : p := nilDs_el hq fun d q => vSlice_el q fun _ _ _ e0 q => vInt_el q fun _ e3 q => vInt_el q fun _ e4 q => f ⟨e0, e3, e4, d⟩ q
theorem n7_ok {Kn Ke0 : T2} {Kr : T0} (hg : E3 g x0b x0n x0c x3 x4) (hS : n7 x0b x0n x0c x3 x4 Kn Ke0 Kr h) : W c9 (Q2 Kn Ke0 Kr) g h :=
  let ⟨N, hS⟩ := hS
  loopN (x := c10) (I := fun N => D3 (n7_L Kn Ke0 Kr N)) (by kernel_rfl) (fun hq => D3_el hq fun _ hq => hq) (fun hq => D3_el hq fun hg hq => leafN (by kernel_rfl) (by kernel_rfl) hg hq (by kernel_rfl)) N (D3_mk hg hS)
theorem n6_ok {Kn : T2} {Kr : T0} (hg : E3 g x0b x0n x0c x3 x4) (hS : n6 x0b x0n x0c x3 x4 Kn Kr h) : W c8 (Q1 Kn Kr) g h := blockN (by kernel_rfl) (n7_ok hg hS)
theorem n5_ok {Kn : T2} {Kr : T0} (hg : E2 g x0b x0n x0c x3) (hS : n5 x0b x0n x0c x3 Kn Kr h) : W c5 (Q1 Kn Kr) g h :=
  seqN (x := c7) (N' := D3 (fun z0b z0n z0c z3 z4 h => n6 z0b z0n z0c z3 z4 Kn Kr h)) (by kernel_rfl) (leafN (by kernel_rfl) (by kernel_rfl) hg hS (by kernel_rfl)) fun hq => D3_el hq n6_ok
theorem n3_ok {Kn Kr : T0} (hg : E2 g x0b x0n x0c x3) (hS : n3 x0b x0n x0c x3 Kn Kr h) : W c4 (Q0 Kn Kr) g h :=
  seqN (by kernel_rfl) (n5_ok hg hS) fun hq => D2_el hq n4_ok
theorem n2_ok {Kn Kr : T0} (hg : E1 g x0b x0n x0c) (hS : n2 x0b x0n x0c Kn Kr h) : W c2 (Q0 Kn Kr) g h :=
  seqN (x := c3) (N' := D2 (fun z0b z0n z0c z3 h => n3 z0b z0n z0c z3 Kn Kr h)) (by kernel_rfl) (leafN (by kernel_rfl) (by kernel_rfl) hg hS (by kernel_rfl)) fun hq => D2_el hq n3_ok
theorem n1_ok {Kn Kr : T0} (hg : E1 g x0b x0n x0c) (hS : n1 x0b x0n x0c Kn Kr h) : W code (Q0 Kn Kr) g h :=
  seqN (x := c1) (N' := D1 (fun z0b z0n z0c h => n2 z0b z0n z0c Kn Kr h)) (by kernel_rfl) (leafN (by kernel_rfl) (by kernel_rfl) hg hS (by kernel_rfl)) fun hq => D1_el hq n2_ok
/-- WHAT tympan/tympanlaw13.heavy ASKS -/
abbrev asks (x0b : Option Addr) (x0n : Nat) (x0c : Nat) (K : Value → H → Prop) (h : H) : Prop := n1 x0b x0n x0c (fun y2 h => K (.bool y2) h) (fun y2 h => K (.bool y2) h) h
theorem ok (x0b : Option Addr) (x0n : Nat) (x0c : Nat) (K : Value → H → Prop) (h : H) (hS : asks x0b x0n x0c K h) : HCalls Tryz.prog 4 ⟨[(.slice x0b x0n x0c)]⟩ h K :=
  callsN (c := code) Tryz.func4 (by kernel_rfl) (by kernel_rfl) (n1_ok ⟨rfl, rfl⟩ hS) fun hq => D0_el hq fun hg hq => retN hg hq (by kernel_rfl)
end Sx.l13_heavy

/-! ### tympan/tympanlaw13.known -/
namespace Sx.l13_known
noncomputable def code : Code := bodyOf Tryz.f5
abbrev W := wpC none Tryz.prog 79
variable (g : Env) (x0 : Bool)
abbrev T0 := Bool → H → Prop
abbrev E0 := Held g [(0, .bool x0)]
def D0 (K : T0) (g : Env) (h : H) : Prop := nilDs g.ds (vBool (g.v 0) fun b1 => K b1 h)
abbrev Q0 (Kn Kr : T0) := QX (D0 Kn) (D0 Kr) noX
abbrev T1 := H → Prop
abbrev E1 := Held g []
def D1 (K : T1) (g : Env) (h : H) : Prop := nilDs g.ds (K h)
abbrev n1 (Kn Kr : T0) (h : H) : Prop :=
  HCalls Tryz.prog 6 ⟨[]⟩ h fun v2 h3 => vPtr v2 fun p4 => SemH Tryz.prog (binS .eql 25 (.tmp 4) (.const (.pointer none)) (.pointer p4) (.pointer none)) h3 fun v5 h6 => vBool v5 fun b7 => cond b7 (Kr false h6) (vSome p4 fun a8 => ∃ p9, cell h6 (a8.add 0) = some (.pointer p9) ∧ (SemH Tryz.prog (binS .eql 46 (.tmp 10) (.const (.pointer none)) (.pointer p9) (.pointer none)) h6 fun v10 h11 => vBool v10 fun b12 => cond b12 (Kr false h11) (HCalls Tryz.prog 8 ⟨[(.pointer p4), (.int .u8 (0 : Int)), (.agg ⟨[(.int .u8 (0 : Int)), (S ([116, 97, 98, 108, 101] : List UInt8)), (.slice none 0 0), (.bool false), (S ([] : List UInt8))]⟩)]⟩ h11 fun v13 h14 => vInt .i64 v13 fun i15 => HCalls Tryz.prog 8 ⟨[(.pointer p4), (.int .u8 (0 : Int)), (.agg ⟨[(.int .u8 (0 : Int)), (S ([116, 114] : List UInt8)), (.slice none 0 0), (.bool false), (S ([] : List UInt8))]⟩)]⟩ h14 fun v16 h17 => vInt .i64 v16 fun i18 => vSome p4 fun a19 => stL (a19.add 3) [(.bool true)] 0 h17 fun h20 => HCalls Tryz.prog 12 ⟨[(.pointer p4), (S ([120] : List UInt8))]⟩ h20 fun v21 h22 => vSome p4 fun a23 => stL (a23.add 3) [(.bool false)] 0 h22 fun h24 => HCalls Tryz.prog 8 ⟨[(.pointer p4), (.int .u8 (0 : Int)), (.agg ⟨[(.int .u8 (0 : Int)), (S ([98] : List UInt8)), (.slice none 0 0), (.bool false), (S ([] : List UInt8))]⟩)]⟩ h24 fun v25 h26 => vInt .i64 v25 fun i27 => HCalls Tryz.prog 12 ⟨[(.pointer p4), (S ([121] : List UInt8))]⟩ h26 fun v28 h29 => vSome p4 fun a30 => ∃ p31, cell h29 (a30.add 0) = some (.pointer p31) ∧ (HCalls Tryz.prog 24 ⟨[(.pointer p31), (.int .i64 (0 : Int))]⟩ h29 fun v32 h33 => vSlice v32 fun s34b s34n s34c => Spl ((s34n : Int) = (2 : Int)) ((0 ≤ (0 : Int) ∧ (0 : Int) < (s34n : Int)) ∧ (vSome s34b fun a35 => ∃ s36, cell h33 ((a35.add (Int.toNat (0 : Int) * 6)).add 4) = some (S s36) ∧ (Spl (s36 = ([120] : List UInt8)) ((0 ≤ (1 : Int) ∧ (1 : Int) < (s34n : Int)) ∧ (vSome s34b fun a37 => ∃ s38b s38n s38c, cell h33 ((a37.add (Int.toNat (1 : Int) * 6)).add 5) = some (.slice s38b s38n s38c) ∧ (Spl ((s38n : Int) = (1 : Int)) ((0 ≤ (1 : Int) ∧ (1 : Int) < (s34n : Int)) ∧ (vSome s34b fun a39 => ∃ s40b s40n s40c, cell h33 ((a39.add (Int.toNat (1 : Int) * 6)).add 5) = some (.slice s40b s40n s40c) ∧ ((0 ≤ (0 : Int) ∧ (0 : Int) < (s40n : Int)) ∧ (vSome s40b fun a41 => ∃ s42b s42n s42c, cell h33 ((a41.add (Int.toNat (0 : Int) * 6)).add 5) = some (.slice s42b s42n s42c) ∧ (Spl ((s42n : Int) = (1 : Int)) (vSome p4 fun a43 => ∃ i44, cell h33 (a43.add 4) = some (.int .i64 i44) ∧ (Spl (i44 = (4 : Int)) (HCalls Tryz.prog 25 ⟨[(.pointer p4)]⟩ h33 fun v45 h46 => vAgg v45 fun l47 => uncons l47 fun e48 l49 => vInt .i64 e48 fun i50 => uncons l49 fun e51 l52 => vInt .u8 e51 fun i53 => uncons l52 fun e54 l55 => vStr e54 fun s56 => uncons l55 fun e57 l58 => vInt .u8 e57 fun i59 => unnil l58 (Spl (s56 = ([98] : List UInt8)) (Kr true h46) (Kr false h46))) (Kr false h33))) (Kr false h33)))))) (Kr false h33)))) (Kr false h33)))) (Kr false h33)))))
variable {g} {h : H} {p : Prop}
variable {x0}
theorem D0_el {K : T0} (hq : D0 K g h) (f : ∀ {x0}, E0 g x0 → K x0 h → p) : p := nilDs_el hq fun d q => vBool_el q fun _ e0 q => f ⟨e0, d⟩ q
theorem D1_el {K : T1} (hq : D1 K g h) (f : E1 g → K  h → p) : p := nilDs_el hq fun d q => f d q
theorem n1_ok {Kn Kr : T0} (hg : E1 g) (hS : n1 Kn Kr h) : W code (Q0 Kn Kr) g h :=
  leafN (by kernel_rfl) (by kernel_rfl) hg hS (by kernel_rfl)
/-- WHAT tympan/tympanlaw13.known ASKS -/
abbrev asks  (K : Value → H → Prop) (h : H) : Prop := n1  (fun y0 h => K (.bool y0) h) (fun y0 h => K (.bool y0) h) h
theorem ok  (K : Value → H → Prop) (h : H) (hS : asks  K h) : HCalls Tryz.prog 5 ⟨[]⟩ h K :=
  callsN (c := code) Tryz.func5 (by kernel_rfl) (by kernel_rfl) (n1_ok rfl hS) fun hq => D0_el hq fun hg hq => retN hg hq (by kernel_rfl)
end Sx.l13_known

/-! ### tympan/tympanref00.Tokens -/
namespace Sx.r00_Tokens
noncomputable def code : Code := bodyOf Tryz.f23
abbrev W := wpC none Tryz.prog 79
variable (g : Env) (x0b : Option Addr) (x0n x0c : Nat) (x1 x4 x5 x6 x7 : Int)
abbrev T0 := Int → H → Prop
abbrev E0 := Held g [(4, .int .i64 x4)]
def D0 (K : T0) (g : Env) (h : H) : Prop := nilDs g.ds (vInt .i64 (g.v 4) fun i1 => K i1 h)
abbrev Q0 (Kn Kr : T0) := QX (D0 Kn) (D0 Kr) noX
abbrev T1 := (Option Addr) → Nat → Nat → Int → H → Prop
abbrev E1 := Held g [(0, .slice x0b x0n x0c), (1, .int .i64 x1)]
def D1 (K : T1) (g : Env) (h : H) : Prop := nilDs g.ds (vSlice (g.v 0) fun s2b s2n s2c => vInt .i64 (g.v 1) fun i3 => K s2b s2n s2c i3 h)
noncomputable def c1 := cFst code
noncomputable def c2 := cSnd code
noncomputable def c3 := cFst c2
noncomputable def c4 := cSnd c2
abbrev T2 := (Option Addr) → Nat → Nat → Int → Int → H → Prop
abbrev E2 := Held g [(0, .slice x0b x0n x0c), (1, .int .i64 x1), (5, .int .i64 x5)]
def D2 (K : T2) (g : Env) (h : H) : Prop := nilDs g.ds (vSlice (g.v 0) fun s4b s4n s4c => vInt .i64 (g.v 1) fun i5 => vInt .i64 (g.v 5) fun i6 => K s4b s4n s4c i5 i6 h)
noncomputable def c5 := cFst c4
noncomputable def c6 := cSnd c4
abbrev T3 := Int → H → Prop
abbrev E3 := Held g [(5, .int .i64 x5)]
def D3 (K : T3) (g : Env) (h : H) : Prop := nilDs g.ds (vInt .i64 (g.v 5) fun i7 => K i7 h)
abbrev n4 (Kn Kr : T0) (h : H) : Prop :=
  Kr x5 h
abbrev Q1 (Kn : T3) (Kr : T0) := QX (D3 Kn) (D0 Kr) noX
noncomputable def c7 := cFst c5
noncomputable def c8 := cSnd c5
abbrev T4 := (Option Addr) → Nat → Nat → Int → Int → Int → H → Prop
abbrev E4 := Held g [(0, .slice x0b x0n x0c), (1, .int .i64 x1), (5, .int .i64 x5), (6, .int .i64 x6)]
def D4 (K : T4) (g : Env) (h : H) : Prop := nilDs g.ds (vSlice (g.v 0) fun s8b s8n s8c => vInt .i64 (g.v 1) fun i9 => vInt .i64 (g.v 5) fun i10 => vInt .i64 (g.v 6) fun i11 => K s8b s8n s8c i9 i10 i11 h)
noncomputable def c9 := cFst c8
abbrev Q2 (Kn Ke0 : T3) (Kr : T0) := QX (D3 Kn) (D0 Kr) (exX 0 (D3 Ke0) noX)
noncomputable def c10 := cFst c9
abbrev Q3 (Kn : T4) (Ke0 : T3) (Kr : T0) := QX (D4 Kn) (D0 Kr) (exX 0 (D3 Ke0) noX)
noncomputable def c11 := cFst c10
noncomputable def c12 := cSnd c10
noncomputable def c13 := cFst c12
noncomputable def c14 := cSnd c12
abbrev n10 (Kn : T4) (Ke0 : T3) (Kr : T0) (h : H) : Prop :=
  Rng .i64 (x6 + (1 : Int)) ∧ (Kn x0b x0n x0c x1 x5 (x6 + (1 : Int)) h)
noncomputable def c15 := cFst c13
abbrev Q4 (Kn Ke1 : T4) (Ke0 : T3) (Kr : T0) := QX (D4 Kn) (D0 Kr) (exX 1 (D4 Ke1) (exX 0 (D3 Ke0) noX))
noncomputable def c16 := cFst c15
noncomputable def c17 := cSnd c15
noncomputable def c18 := cFst c17
noncomputable def c19 := cSnd c17
abbrev T5 := (Option Addr) → Nat → Nat → Int → Int → Int → Int → H → Prop
abbrev E5 := Held g [(0, .slice x0b x0n x0c), (1, .int .i64 x1), (5, .int .i64 x5), (6, .int .i64 x6), (7, .int .i64 x7)]
def D5 (K : T5) (g : Env) (h : H) : Prop := nilDs g.ds (vSlice (g.v 0) fun s12b s12n s12c => vInt .i64 (g.v 1) fun i13 => vInt .i64 (g.v 5) fun i14 => vInt .i64 (g.v 6) fun i15 => vInt .i64 (g.v 7) fun i16 => K s12b s12n s12c i13 i14 i15 i16 h)
noncomputable def c20 := cFst c19
abbrev Q5 (Kn Ke2 Ke1 : T4) (Ke0 : T3) (Kr : T0) := QX (D4 Kn) (D0 Kr) (exX 2 (D4 Ke2) (exX 1 (D4 Ke1) (exX 0 (D3 Ke0) noX)))
noncomputable def c21 := cFst c20
abbrev Q6 (Kn : T5) (Ke2 Ke1 : T4) (Ke0 : T3) (Kr : T0) := QX (D5 Kn) (D0 Kr) (exX 2 (D4 Ke2) (exX 1 (D4 Ke1) (exX 0 (D3 Ke0) noX)))
def n15_L (Kn Ke2 Ke1 : T4) (Ke0 : T3) (Kr : T0) : Nat → T5
  | 0 => fun _ _ _ _ _ _ _ _ => False
  | N + 1 => fun x0b x0n x0c x1 x5 x6 x7 h => (0 ≤ x6 ∧ x6 < (x0n : Int)) ∧ (vSome x0b fun a17 => ∃ s18b s18n s18c, cell h ((a17.add (Int.toNat x6 * 5)).add 2) = some (.slice s18b s18n s18c) ∧ (Spl (x7 < (s18n : Int)) (Spl (x5 ≤ x1) ((0 ≤ x6 ∧ x6 < (x0n : Int)) ∧ (vSome x0b fun a19 => ∃ s20b s20n s20c, cell h ((a19.add (Int.toNat x6 * 5)).add 2) = some (.slice s20b s20n s20c) ∧ ((0 ≤ x7 ∧ x7 < (s20n : Int)) ∧ (vSome s20b fun a21 => ∃ s22, cell h ((a21.add (Int.toNat x7 * 2)).add 0) = some (S s22) ∧ ((8 : Int) ≠ 0 ∧ (Rng .i64 (Int.tdiv (s22.length : Int) (8 : Int)) ∧ (Rng .i64 ((1 : Int) + (Int.tdiv (s22.length : Int) (8 : Int))) ∧ ((0 ≤ x6 ∧ x6 < (x0n : Int)) ∧ (vSome x0b fun a23 => ∃ s24b s24n s24c, cell h ((a23.add (Int.toNat x6 * 5)).add 2) = some (.slice s24b s24n s24c) ∧ ((0 ≤ x7 ∧ x7 < (s24n : Int)) ∧ (vSome s24b fun a25 => ∃ s26, cell h ((a25.add (Int.toNat x7 * 2)).add 1) = some (S s26) ∧ ((8 : Int) ≠ 0 ∧ (Rng .i64 (Int.tdiv (s26.length : Int) (8 : Int)) ∧ (Rng .i64 (((1 : Int) + (Int.tdiv (s22.length : Int) (8 : Int))) + (Int.tdiv (s26.length : Int) (8 : Int))) ∧ (Rng .i64 (x5 + (((1 : Int) + (Int.tdiv (s22.length : Int) (8 : Int))) + (Int.tdiv (s26.length : Int) (8 : Int)))) ∧ (Rng .i64 (x7 + (1 : Int)) ∧ (n15_L Kn Ke2 Ke1 Ke0 Kr N x0b x0n x0c x1 (x5 + (((1 : Int) + (Int.tdiv (s22.length : Int) (8 : Int))) + (Int.tdiv (s26.length : Int) (8 : Int)))) x6 (x7 + (1 : Int)) h))))))))))))))))) (Ke2 x0b x0n x0c x1 x5 x6 h)) (Ke2 x0b x0n x0c x1 x5 x6 h)))
abbrev n15 (Kn Ke2 Ke1 : T4) (Ke0 : T3) (Kr : T0) (h : H) : Prop :=
  ∃ N, n15_L Kn Ke2 Ke1 Ke0 Kr N x0b x0n x0c x1 x5 x6 x7 h
abbrev n14 (Kn Ke1 : T4) (Ke0 : T3) (Kr : T0) (h : H) : Prop :=
  n15 x0b x0n x0c x1 x5 x6 x7 Kn Kn Ke1 Ke0 Kr h
abbrev Q7 (Kn : T5) (Ke1 : T4) (Ke0 : T3) (Kr : T0) := QX (D5 Kn) (D0 Kr) (exX 1 (D4 Ke1) (exX 0 (D3 Ke0) noX))
abbrev n13 (Kn Ke1 : T4) (Ke0 : T3) (Kr : T0) (h : H) : Prop :=
  n14 x0b x0n x0c x1 x5 x6 (0 : Int) Kn Ke1 Ke0 Kr h
abbrev n12 (Kn Ke1 : T4) (Ke0 : T3) (Kr : T0) (h : H) : Prop :=
  (0 ≤ x6 ∧ x6 < (x0n : Int)) ∧ (vSome x0b fun a27 => ∃ s28, cell h ((a27.add (Int.toNat x6 * 5)).add 4) = some (S s28) ∧ ((8 : Int) ≠ 0 ∧ (Rng .i64 (Int.tdiv (s28.length : Int) (8 : Int)) ∧ (Rng .i64 ((1 : Int) + (Int.tdiv (s28.length : Int) (8 : Int))) ∧ ((0 ≤ x6 ∧ x6 < (x0n : Int)) ∧ (vSome x0b fun a29 => ∃ s30, cell h ((a29.add (Int.toNat x6 * 5)).add 1) = some (S s30) ∧ ((8 : Int) ≠ 0 ∧ (Rng .i64 (Int.tdiv (s30.length : Int) (8 : Int)) ∧ (Rng .i64 (((1 : Int) + (Int.tdiv (s28.length : Int) (8 : Int))) + (Int.tdiv (s30.length : Int) (8 : Int))) ∧ (Rng .i64 (x5 + (((1 : Int) + (Int.tdiv (s28.length : Int) (8 : Int))) + (Int.tdiv (s30.length : Int) (8 : Int)))) ∧ (n13 x0b x0n x0c x1 (x5 + (((1 : Int) + (Int.tdiv (s28.length : Int) (8 : Int))) + (Int.tdiv (s30.length : Int) (8 : Int)))) x6 Kn Ke1 Ke0 Kr h)))))))))))
abbrev n11 (Kn : T4) (Ke0 : T3) (Kr : T0) (h : H) : Prop :=
  n12 x0b x0n x0c x1 x5 x6 Kn Kn Ke0 Kr h
abbrev n9 (Kn : T4) (Ke0 : T3) (Kr : T0) (h : H) : Prop :=
  n11 x0b x0n x0c x1 x5 x6 (fun z0b z0n z0c z1 z5 z6 h => n10 z0b z0n z0c z1 z5 z6 Kn Ke0 Kr h) Ke0 Kr h
abbrev n8 (Kn : T4) (Ke0 : T3) (Kr : T0) (h : H) : Prop :=
  Spl (x6 < (x0n : Int)) (Spl (x5 ≤ x1) (n9 x0b x0n x0c x1 x5 x6 Kn Ke0 Kr h) (Ke0 x5 h)) (Ke0 x5 h)
def n7_L (Kn Ke0 : T3) (Kr : T0) : Nat → T4
  | 0 => fun _ _ _ _ _ _ _ => False
  | N + 1 => fun x0b x0n x0c x1 x5 x6 h => n8 x0b x0n x0c x1 x5 x6 (fun z0b z0n z0c z1 z5 z6 h => n7_L Kn Ke0 Kr N z0b z0n z0c z1 z5 z6 h) Ke0 Kr h
abbrev n7 (Kn Ke0 : T3) (Kr : T0) (h : H) : Prop :=
  ∃ N, n7_L Kn Ke0 Kr N x0b x0n x0c x1 x5 x6 h
abbrev n6 (Kn : T3) (Kr : T0) (h : H) : Prop :=
  n7 x0b x0n x0c x1 x5 x6 Kn Kn Kr h
abbrev Q8 (Kn : T4) (Kr : T0) := QX (D4 Kn) (D0 Kr) noX
abbrev n5 (Kn : T3) (Kr : T0) (h : H) : Prop :=
  n6 x0b x0n x0c x1 x5 (0 : Int) Kn Kr h
abbrev n3 (Kn Kr : T0) (h : H) : Prop :=
  n5 x0b x0n x0c x1 x5 (fun z5 h => n4 z5 Kn Kr h) Kr h
abbrev Q9 (Kn : T2) (Kr : T0) := QX (D2 Kn) (D0 Kr) noX
abbrev n2 (Kn Kr : T0) (h : H) : Prop :=
  n3 x0b x0n x0c x1 (0 : Int) Kn Kr h
abbrev Q10 (Kn : T1) (Kr : T0) := QX (D1 Kn) (D0 Kr) noX
abbrev n1 (Kn Kr : T0) (h : H) : Prop :=
  n2 x0b x0n x0c x1 Kn Kr h
variable {g} {h : H} {p : Prop}
variable {x0b x0n x0c x1 x4 x5 x6 x7}
theorem D4_mk {K : T4} (hg : E4 g x0b x0n x0c x1 x5 x6) (hk : K x0b x0n x0c x1 x5 x6 h) : D4 K g h := by
  obtain ⟨e0, e1, e5, e6, d⟩ := hg
  unfold D4
  rw [e0, e1, e5, e6, d]
  exact hk
theorem D5_mk {K : T5} (hg : E5 g x0b x0n x0c x1 x5 x6 x7) (hk : K x0b x0n x0c x1 x5 x6 x7 h) : D5 K g h := by
  obtain ⟨e0, e1, e5, e6, e7, d⟩ := hg
  unfold D5
  rw [e0, e1, e5, e6, e7, d]
  exact hk
theorem D0_el {K : T0} (hq : D0 K g h) (f : ∀ {x4}, E0 g x4 → K x4 h → p) : p := nilDs_el hq fun d q => vInt_el q fun _ e4 q => f ⟨e4, d⟩ q
theorem D1_el {K : T1} (hq : D1 K g h) (f : ∀ {x0b x0n x0c x1}, E1 g x0b x0n x0c x1 → K x0b x0n x0c x1 h → p) : p := nilDs_el hq fun d q => vSlice_el q fun _ _ _ e0 q => vInt_el q fun _ e1 q => f ⟨e0, e1, d⟩ q
theorem D2_el {K : T2} (hq : D2 K g h) (f : ∀ {x0b x0n x0c x1 x5}, E2 g x0b x0n x0c x1 x5 → K x0b x0n x0c x1 x5 h → p) : p := nilDs_el hq fun d q => vSlice_el q fun _ _ _ e0 q => vInt_el q fun _ e1 q => vInt_el q fun _ e5 q => f ⟨e0, e1, e5, d⟩ q
theorem D3_el {K : T3} (hq : D3 K g h) (f : ∀ {x5}, E3 g x5 → K x5 h → p) : p := nilDs_el hq fun d q => vInt_el q fun _ e5 q => f ⟨e5, d⟩ q
theorem n4_ok {Kn Kr : T0} (hg : E3 g x5) (hS : n4 x5 Kn Kr h) : W c6 (Q0 Kn Kr) g h :=
  leafN (by kernel_rfl) (by kernel_rfl) hg hS (by kernel_rfl)
theorem D4_el {K : T4} (hq : D4 K g h) (f : ∀ {x0b x0n x0c x1 x5 x6}, E4 g x0b x0n x0c x1 x5 x6 → K x0b x0n x0c x1 x5 x6 h → p) : p := nilDs_el hq fun d q => vSlice_el q fun _ _ _ e0 q => vInt_el q fun _ e1 q => vInt_el q fun _ e5 q => vInt_el q fun _ e6 q => f ⟨e0, e1, e5, e6, d⟩ q
theorem n10_ok {Kn : T4} {Ke0 : T3} {Kr : T0} (hg : E4 g x0b x0n x0c x1 x5 x6) (hS : n10 x0b x0n x0c x1 x5 x6 Kn Ke0 Kr h) : W c14 (Q3 Kn Ke0 Kr) g h :=
  leafN (by kernel_rfl) (by kernel_rfl) hg hS (by kernel_rfl)
theorem D5_el {K : T5} (hq : D5 K g h) (f : ∀ {x0b x0n x0c x1 x5 x6 x7}, E5 g x0b x0n x0c x1 x5 x6 x7 → K x0b x0n x0c x1 x5 x6 x7 h → p) : p := nilDs_el hq fun d q => vSlice_el q fun _ _ _ e0 q => vInt_el q fun _ e1 q => vInt_el q fun _ e5 q => vInt_el q fun _ e6 q => vInt_el q fun _ e7 q => f ⟨e0, e1, e5, e6, e7, d⟩ q
theorem n15_ok {Kn Ke2 Ke1 : T4} {Ke0 : T3} {Kr : T0} (hg : E5 g x0b x0n x0c x1 x5 x6 x7) (hS : n15 x0b x0n x0c x1 x5 x6 x7 Kn Ke2 Ke1 Ke0 Kr h) : W c20 (Q5 Kn Ke2 Ke1 Ke0 Kr) g h :=
  let ⟨N, hS⟩ := hS
  loopN (x := c21) (I := fun N => D5 (n15_L Kn Ke2 Ke1 Ke0 Kr N)) (by kernel_rfl) (fun hq => D5_el hq fun _ hq => hq) (fun hq => D5_el hq fun hg hq => leafN (by kernel_rfl) (by kernel_rfl) hg hq (by kernel_rfl)) N (D5_mk hg hS)
theorem n14_ok {Kn Ke1 : T4} {Ke0 : T3} {Kr : T0} (hg : E5 g x0b x0n x0c x1 x5 x6 x7) (hS : n14 x0b x0n x0c x1 x5 x6 x7 Kn Ke1 Ke0 Kr h) : W c19 (Q4 Kn Ke1 Ke0 Kr) g h := blockN (by kernel_rfl) (n15_ok hg hS)
theorem n13_ok {Kn Ke1 : T4} {Ke0 : T3} {Kr : T0} (hg : E4 g x0b x0n x0c x1 x5 x6) (hS : n13 x0b x0n x0c x1 x5 x6 Kn Ke1 Ke0 Kr h) : W c17 (Q4 Kn Ke1 Ke0 Kr) g h :=
  seqN (x := c18) (N' := D5 (fun z0b z0n z0c z1 z5 z6 z7 h => n14 z0b z0n z0c z1 z5 z6 z7 Kn Ke1 Ke0 Kr h)) (by kernel_rfl) (leafN (by kernel_rfl) (by kernel_rfl) hg hS (by kernel_rfl)) fun hq => D5_el hq n14_ok
theorem n12_ok {Kn Ke1 : T4} {Ke0 : T3} {Kr : T0} (hg : E4 g x0b x0n x0c x1 x5 x6) (hS : n12 x0b x0n x0c x1 x5 x6 Kn Ke1 Ke0 Kr h) : W c15 (Q4 Kn Ke1 Ke0 Kr) g h :=
  seqN (x := c16) (N' := D4 (fun z0b z0n z0c z1 z5 z6 h => n13 z0b z0n z0c z1 z5 z6 Kn Ke1 Ke0 Kr h)) (by kernel_rfl) (leafN (by kernel_rfl) (by kernel_rfl) hg hS (by kernel_rfl)) fun hq => D4_el hq n13_ok
theorem n11_ok {Kn : T4} {Ke0 : T3} {Kr : T0} (hg : E4 g x0b x0n x0c x1 x5 x6) (hS : n11 x0b x0n x0c x1 x5 x6 Kn Ke0 Kr h) : W c13 (Q3 Kn Ke0 Kr) g h := blockN (by kernel_rfl) (n12_ok hg hS)
theorem n9_ok {Kn : T4} {Ke0 : T3} {Kr : T0} (hg : E4 g x0b x0n x0c x1 x5 x6) (hS : n9 x0b x0n x0c x1 x5 x6 Kn Ke0 Kr h) : W c12 (Q3 Kn Ke0 Kr) g h :=
  seqN (by kernel_rfl) (n11_ok hg hS) fun hq => D4_el hq n10_ok
theorem n8_ok {Kn : T4} {Ke0 : T3} {Kr : T0} (hg : E4 g x0b x0n x0c x1 x5 x6) (hS : n8 x0b x0n x0c x1 x5 x6 Kn Ke0 Kr h) : W c10 (Q3 Kn Ke0 Kr) g h :=
  seqN (x := c11) (N' := D4 (fun z0b z0n z0c z1 z5 z6 h => n9 z0b z0n z0c z1 z5 z6 Kn Ke0 Kr h)) (by kernel_rfl) (leafN (by kernel_rfl) (by kernel_rfl) hg hS (by kernel_rfl)) fun hq => D4_el hq n9_ok
theorem n7_ok {Kn Ke0 : T3} {Kr : T0} (hg : E4 g x0b x0n x0c x1 x5 x6) (hS : n7 x0b x0n x0c x1 x5 x6 Kn Ke0 Kr h) : W c9 (Q2 Kn Ke0 Kr) g h :=
  let ⟨N, hS⟩ := hS
  loopN (x := c10) (I := fun N => D4 (n7_L Kn Ke0 Kr N)) (by kernel_rfl) (fun hq => D4_el hq fun _ hq => hq) (fun hq => D4_el hq fun hg hq => n8_ok hg hq) N (D4_mk hg hS)
theorem n6_ok {Kn : T3} {Kr : T0} (hg : E4 g x0b x0n x0c x1 x5 x6) (hS : n6 x0b x0n x0c x1 x5 x6 Kn Kr h) : W c8 (Q1 Kn Kr) g h := blockN (by kernel_rfl) (n7_ok hg hS)
theorem n5_ok {Kn : T3} {Kr : T0} (hg : E2 g x0b x0n x0c x1 x5) (hS : n5 x0b x0n x0c x1 x5 Kn Kr h) : W c5 (Q1 Kn Kr) g h :=
  seqN (x := c7) (N' := D4 (fun z0b z0n z0c z1 z5 z6 h => n6 z0b z0n z0c z1 z5 z6 Kn Kr h)) (by kernel_rfl) (leafN (by kernel_rfl) (by kernel_rfl) hg hS (by kernel_rfl)) fun hq => D4_el hq n6_ok
theorem n3_ok {Kn Kr : T0} (hg : E2 g x0b x0n x0c x1 x5) (hS : n3 x0b x0n x0c x1 x5 Kn Kr h) : W c4 (Q0 Kn Kr) g h :=
  seqN (by kernel_rfl) (n5_ok hg hS) fun hq => D3_el hq n4_ok
theorem n2_ok {Kn Kr : T0} (hg : E1 g x0b x0n x0c x1) (hS : n2 x0b x0n x0c x1 Kn Kr h) : W c2 (Q0 Kn Kr) g h :=
  seqN (x := c3) (N' := D2 (fun z0b z0n z0c z1 z5 h => n3 z0b z0n z0c z1 z5 Kn Kr h)) (by kernel_rfl) (leafN (by kernel_rfl) (by kernel_rfl) hg hS (by kernel_rfl)) fun hq => D2_el hq n3_ok
theorem n1_ok {Kn Kr : T0} (hg : E1 g x0b x0n x0c x1) (hS : n1 x0b x0n x0c x1 Kn Kr h) : W code (Q0 Kn Kr) g h :=
  seqN (x := c1) (N' := D1 (fun z0b z0n z0c z1 h => n2 z0b z0n z0c z1 Kn Kr h)) (by kernel_rfl) (leafN (by kernel_rfl) (by kernel_rfl) hg hS (by kernel_rfl)) fun hq => D1_el hq n2_ok
/-- WHAT tympan/tympanref00.Tokens ASKS -/
abbrev asks (x0b : Option Addr) (x0n : Nat) (x0c : Nat) (x1 : Int) (K : Value → H → Prop) (h : H) : Prop := n1 x0b x0n x0c x1 (fun y4 h => K (.int .i64 y4) h) (fun y4 h => K (.int .i64 y4) h) h
theorem ok (x0b : Option Addr) (x0n : Nat) (x0c : Nat) (x1 : Int) (K : Value → H → Prop) (h : H) (hS : asks x0b x0n x0c x1 K h) : HCalls Tryz.prog 23 ⟨[(.slice x0b x0n x0c), (.int .i64 x1)]⟩ h K :=
  callsN (c := code) Tryz.func23 (by kernel_rfl) (by kernel_rfl) (n1_ok ⟨rfl, rfl, rfl⟩ hS) fun hq => D0_el hq fun hg hq => retN hg hq (by kernel_rfl)
end Sx.r00_Tokens

/-! ### tympan/tympanref12.behind -/
namespace Sx.r12_behind
noncomputable def code : Code := bodyOf Tryz.f36
abbrev W := wpC none Tryz.prog 19
variable (g : Env) (x0b : Option Addr) (x0n x0c : Nat) (x2 x3 : Int)
abbrev T0 := Int → H → Prop
abbrev E0 := Held g [(2, .int .i64 x2)]
def D0 (K : T0) (g : Env) (h : H) : Prop := nilDs g.ds (vInt .i64 (g.v 2) fun i1 => K i1 h)
abbrev Q0 (Kn Kr : T0) := QX (D0 Kn) (D0 Kr) noX
abbrev T1 := (Option Addr) → Nat → Nat → H → Prop
abbrev E1 := Held g [(0, .slice x0b x0n x0c)]
def D1 (K : T1) (g : Env) (h : H) : Prop := nilDs g.ds (vSlice (g.v 0) fun s2b s2n s2c => K s2b s2n s2c h)
noncomputable def c1 := cFst code
noncomputable def c2 := cSnd code
noncomputable def c3 := cFst c2
noncomputable def c4 := cSnd c2
abbrev T2 := H → Prop
abbrev E2 := Held g []
def D2 (K : T2) (g : Env) (h : H) : Prop := nilDs g.ds (K h)
abbrev n3 (Kn Kr : T0) (h : H) : Prop :=
  Kr (0 : Int) h
abbrev Q1 (Kn : T2) (Kr : T0) := QX (D2 Kn) (D0 Kr) noX
noncomputable def c5 := cFst c3
noncomputable def c6 := cSnd c3
abbrev T3 := (Option Addr) → Nat → Nat → Int → H → Prop
abbrev E3 := Held g [(0, .slice x0b x0n x0c), (3, .int .i64 x3)]
def D3 (K : T3) (g : Env) (h : H) : Prop := nilDs g.ds (vSlice (g.v 0) fun s3b s3n s3c => vInt .i64 (g.v 3) fun i4 => K s3b s3n s3c i4 h)
noncomputable def c7 := cFst c6
abbrev Q2 (Kn Ke0 : T2) (Kr : T0) := QX (D2 Kn) (D0 Kr) (exX 0 (D2 Ke0) noX)
noncomputable def c8 := cFst c7
abbrev Q3 (Kn : T3) (Ke0 : T2) (Kr : T0) := QX (D3 Kn) (D0 Kr) (exX 0 (D2 Ke0) noX)
def n6_L (Kn Ke0 : T2) (Kr : T0) : Nat → T3
  | 0 => fun _ _ _ _ _ => False
  | N + 1 => fun x0b x0n x0c x3 h => Spl (x3 ≥ (0 : Int)) ((0 ≤ x3 ∧ x3 < (x0n : Int)) ∧ (vSome x0b fun a5 => ∃ i6, cell h ((a5.add (Int.toNat x3 * 3)).add 0) = some (.int .i64 i6) ∧ (Spl (i6 < (0 : Int)) (Rng .i64 (x3 + (1 : Int)) ∧ (Kr (x3 + (1 : Int)) h)) (Rng .i64 (x3 - (1 : Int)) ∧ (n6_L Kn Ke0 Kr N x0b x0n x0c (x3 - (1 : Int)) h))))) (Ke0 h)
abbrev n6 (Kn Ke0 : T2) (Kr : T0) (h : H) : Prop :=
  ∃ N, n6_L Kn Ke0 Kr N x0b x0n x0c x3 h
abbrev n5 (Kn : T2) (Kr : T0) (h : H) : Prop :=
  n6 x0b x0n x0c x3 Kn Kn Kr h
abbrev Q4 (Kn : T3) (Kr : T0) := QX (D3 Kn) (D0 Kr) noX
abbrev n4 (Kn : T2) (Kr : T0) (h : H) : Prop :=
  Rng .i64 ((x0n : Int) - (1 : Int)) ∧ (n5 x0b x0n x0c ((x0n : Int) - (1 : Int)) Kn Kr h)
abbrev n2 (Kn Kr : T0) (h : H) : Prop :=
  n4 x0b x0n x0c (fun  h => n3 Kn Kr h) Kr h
abbrev Q5 (Kn : T1) (Kr : T0) := QX (D1 Kn) (D0 Kr) noX
abbrev n1 (Kn Kr : T0) (h : H) : Prop :=
  n2 x0b x0n x0c Kn Kr h
variable {g} {h : H} {p : Prop}
variable {x0b x0n x0c x2 x3}
theorem D3_mk {K : T3} (hg : E3 g x0b x0n x0c x3) (hk : K x0b x0n x0c x3 h) : D3 K g h := by
  obtain ⟨e0, e3, d⟩ := hg
  unfold D3
  rw [e0, e3, d]
  exact hk
theorem D0_el {K : T0} (hq : D0 K g h) (f : ∀ {x2}, E0 g x2 → K x2 h → p) : p := nilDs_el hq fun d q => vInt_el q fun _ e2 q => f ⟨e2, d⟩ q
theorem D1_el {K : T1} (hq : D1 K g h) (f : ∀ {x0b x0n x0c}, E1 g x0b x0n x0c → K x0b x0n x0c h → p) : p := nilDs_el hq fun d q => vSlice_el q fun _ _ _ e0 q => f ⟨e0, d⟩ q
theorem D2_el {K : T2} (hq : D2 K g h) (f : E2 g → K  h → p) : p := nilDs_el hq fun d q => f d q
theorem n3_ok {Kn Kr : T0} (hg : E2 g) (hS : n3 Kn Kr h) : W c4 (Q0 Kn Kr) g h :=
  leafN (by kernel_rfl) (by kernel_rfl) hg hS (by kernel_rfl)
theorem D3_el {K : T3} (hq : D3 K g h) (f : ∀ {x0b x0n x0c x3}, E3 g x0b x0n x0c x3 → K x0b x0n x0c x3 h → p) : p := nilDs_el hq fun d q => vSlice_el q fun _ _ _ e0 q => vInt_el q fun _ e3 q => f ⟨e0, e3, d⟩ q
theorem n6_ok {Kn Ke0 : T2} {Kr : T0} (hg : E3 g x0b x0n x0c x3) (hS : n6 x0b x0n x0c x3 Kn Ke0 Kr h) : W c7 (Q2 Kn Ke0 Kr) g h :=
  let ⟨N, hS⟩ := hS
  loopN (x := c8) (I := fun N => D3 (n6_L Kn Ke0 Kr N)) (by kernel_rfl) (fun hq => D3_el hq fun _ hq => hq) (fun hq => D3_el hq fun hg hq => leafN (by kernel_rfl) (by kernel_rfl) hg hq (by kernel_rfl)) N (D3_mk hg hS)
theorem n5_ok {Kn : T2} {Kr : T0} (hg : E3 g x0b x0n x0c x3) (hS : n5 x0b x0n x0c x3 Kn Kr h) : W c6 (Q1 Kn Kr) g h := blockN (by kernel_rfl) (n6_ok hg hS)
theorem n4_ok {Kn : T2} {Kr : T0} (hg : E1 g x0b x0n x0c) (hS : n4 x0b x0n x0c Kn Kr h) : W c3 (Q1 Kn Kr) g h :=
  seqN (x := c5) (N' := D3 (fun z0b z0n z0c z3 h => n5 z0b z0n z0c z3 Kn Kr h)) (by kernel_rfl) (leafN (by kernel_rfl) (by kernel_rfl) hg hS (by kernel_rfl)) fun hq => D3_el hq n5_ok
theorem n2_ok {Kn Kr : T0} (hg : E1 g x0b x0n x0c) (hS : n2 x0b x0n x0c Kn Kr h) : W c2 (Q0 Kn Kr) g h :=
  seqN (by kernel_rfl) (n4_ok hg hS) fun hq => D2_el hq n3_ok
theorem n1_ok {Kn Kr : T0} (hg : E1 g x0b x0n x0c) (hS : n1 x0b x0n x0c Kn Kr h) : W code (Q0 Kn Kr) g h :=
  seqN (x := c1) (N' := D1 (fun z0b z0n z0c h => n2 z0b z0n z0c Kn Kr h)) (by kernel_rfl) (leafN (by kernel_rfl) (by kernel_rfl) hg hS (by kernel_rfl)) fun hq => D1_el hq n2_ok
/-- WHAT tympan/tympanref12.behind ASKS -/
abbrev asks (x0b : Option Addr) (x0n : Nat) (x0c : Nat) (K : Value → H → Prop) (h : H) : Prop := n1 x0b x0n x0c (fun y2 h => K (.int .i64 y2) h) (fun y2 h => K (.int .i64 y2) h) h
theorem ok (x0b : Option Addr) (x0n : Nat) (x0c : Nat) (K : Value → H → Prop) (h : H) (hS : asks x0b x0n x0c K h) : HCalls Tryz.prog 36 ⟨[(.slice x0b x0n x0c)]⟩ h K :=
  callsN (c := code) Tryz.func36 (by kernel_rfl) (by kernel_rfl) (n1_ok ⟨rfl, rfl⟩ hS) fun hq => D0_el hq fun hg hq => retN hg hq (by kernel_rfl)
end Sx.r12_behind

/-! ### tympan/tympanref12.alike -/
namespace Sx.r12_alike
noncomputable def code : Code := bodyOf Tryz.f37
abbrev W := wpC none Tryz.prog 52
variable (g : Env) (x0_0 : Int) (x0_1 : List UInt8) (x0_2b : Option Addr) (x0_2n x0_2c : Nat) (x1_0 : Int) (x1_1 : List UInt8) (x1_2b : Option Addr) (x1_2n x1_2c : Nat) (x2 x3 : Addr) (x4 : Bool) (x5 : Int) (x6 : Bool) (x7 : Int)
abbrev T0 := Bool → H → Prop
abbrev E0 := Held g [(4, .bool x4)]
def D0 (K : T0) (g : Env) (h : H) : Prop := nilDs g.ds (vBool (g.v 4) fun b1 => K b1 h)
abbrev Q0 (Kn Kr : T0) := QX (D0 Kn) (D0 Kr) noX
abbrev T1 := Int → (List UInt8) → (Option Addr) → Nat → Nat → Int → (List UInt8) → (Option Addr) → Nat → Nat → H → Prop
abbrev E1 := Held g [(0, .agg ⟨[(.int .i64 x0_0), (S x0_1), (.slice x0_2b x0_2n x0_2c)]⟩), (1, .agg ⟨[(.int .i64 x1_0), (S x1_1), (.slice x1_2b x1_2n x1_2c)]⟩)]
def D1 (K : T1) (g : Env) (h : H) : Prop := nilDs g.ds (vAgg (g.v 0) fun l2 => uncons l2 fun e3 l4 => vInt .i64 e3 fun i5 => uncons l4 fun e6 l7 => vStr e6 fun s8 => uncons l7 fun e9 l10 => vSlice e9 fun s11b s11n s11c => unnil l10 (vAgg (g.v 1) fun l12 => uncons l12 fun e13 l14 => vInt .i64 e13 fun i15 => uncons l14 fun e16 l17 => vStr e16 fun s18 => uncons l17 fun e19 l20 => vSlice e19 fun s21b s21n s21c => unnil l20 (K i5 s8 s11b s11n s11c i15 s18 s21b s21n s21c h)))
noncomputable def c1 := cFst code
noncomputable def c2 := cSnd code
abbrev T2 := Addr → Addr → H → Prop
abbrev E2 := Held g [(2, .pointer (some x2)), (3, .pointer (some x3))]
def D2 (K : T2) (g : Env) (h : H) : Prop := nilDs g.ds (vAddr (g.v 2) fun a22 => vAddr (g.v 3) fun a23 => K a22 a23 h)
noncomputable def c3 := cFst c2
noncomputable def c4 := cSnd c2
noncomputable def c5 := cFst c4
noncomputable def c6 := cSnd c4
abbrev T3 := H → Prop
abbrev E3 := Held g []
def D3 (K : T3) (g : Env) (h : H) : Prop := nilDs g.ds (K h)
abbrev n4 (Kn Kr : T0) (h : H) : Prop :=
  Kr true h
abbrev Q1 (Kn : T3) (Kr : T0) := QX (D3 Kn) (D0 Kr) noX
noncomputable def c7 := cFst c5
noncomputable def c8 := cSnd c5
abbrev T4 := Addr → Addr → Int → H → Prop
abbrev E4 := Held g [(2, .pointer (some x2)), (3, .pointer (some x3)), (5, .int .i64 x5)]
def D4 (K : T4) (g : Env) (h : H) : Prop := nilDs g.ds (vAddr (g.v 2) fun a24 => vAddr (g.v 3) fun a25 => vInt .i64 (g.v 5) fun i26 => K a24 a25 i26 h)
noncomputable def c9 := cFst c8
abbrev Q2 (Kn Ke0 : T3) (Kr : T0) := QX (D3 Kn) (D0 Kr) (exX 0 (D3 Ke0) noX)
noncomputable def c10 := cFst c9
abbrev Q3 (Kn : T4) (Ke0 : T3) (Kr : T0) := QX (D4 Kn) (D0 Kr) (exX 0 (D3 Ke0) noX)
noncomputable def c11 := cFst c10
noncomputable def c12 := cSnd c10
noncomputable def c13 := cFst c12
noncomputable def c14 := cSnd c12
abbrev n10 (Kn : T4) (Ke0 : T3) (Kr : T0) (h : H) : Prop :=
  Rng .i64 (x5 + (1 : Int)) ∧ (Kn x2 x3 (x5 + (1 : Int)) h)
noncomputable def c15 := cFst c13
abbrev Q4 (Kn Ke1 : T4) (Ke0 : T3) (Kr : T0) := QX (D4 Kn) (D0 Kr) (exX 1 (D4 Ke1) (exX 0 (D3 Ke0) noX))
noncomputable def c16 := cFst c15
noncomputable def c17 := cSnd c15
abbrev T5 := Addr → Addr → Int → Bool → H → Prop
abbrev E5 := Held g [(2, .pointer (some x2)), (3, .pointer (some x3)), (5, .int .i64 x5), (6, .bool x6)]
def D5 (K : T5) (g : Env) (h : H) : Prop := nilDs g.ds (vAddr (g.v 2) fun a27 => vAddr (g.v 3) fun a28 => vInt .i64 (g.v 5) fun i29 => vBool (g.v 6) fun b30 => K a27 a28 i29 b30 h)
noncomputable def c18 := cFst c17
noncomputable def c19 := cSnd c17
abbrev n14 (Kn Ke1 : T4) (Ke0 : T3) (Kr : T0) (h : H) : Prop :=
  cond x6 (Kn x2 x3 x5 h) (Kr false h)
abbrev Q5 (Kn : T5) (Ke1 : T4) (Ke0 : T3) (Kr : T0) := QX (D5 Kn) (D0 Kr) (exX 1 (D4 Ke1) (exX 0 (D3 Ke0) noX))
noncomputable def c20 := cFst c18
noncomputable def c21 := cSnd c18
abbrev T6 := Addr → Addr → Int → Bool → Int → H → Prop
abbrev E6 := Held g [(2, .pointer (some x2)), (3, .pointer (some x3)), (5, .int .i64 x5), (6, .bool x6), (7, .int .i64 x7)]
def D6 (K : T6) (g : Env) (h : H) : Prop := nilDs g.ds (vAddr (g.v 2) fun a31 => vAddr (g.v 3) fun a32 => vInt .i64 (g.v 5) fun i33 => vBool (g.v 6) fun b34 => vInt .i64 (g.v 7) fun i35 => K a31 a32 i33 b34 i35 h)
noncomputable def c22 := cFst c21
abbrev Q6 (Kn Ke2 : T5) (Ke1 : T4) (Ke0 : T3) (Kr : T0) := QX (D5 Kn) (D0 Kr) (exX 2 (D5 Ke2) (exX 1 (D4 Ke1) (exX 0 (D3 Ke0) noX)))
noncomputable def c23 := cFst c22
abbrev Q7 (Kn : T6) (Ke2 : T5) (Ke1 : T4) (Ke0 : T3) (Kr : T0) := QX (D6 Kn) (D0 Kr) (exX 2 (D5 Ke2) (exX 1 (D4 Ke1) (exX 0 (D3 Ke0) noX)))
def n17_L (Kn Ke2 : T5) (Ke1 : T4) (Ke0 : T3) (Kr : T0) : Nat → T6
  | 0 => fun _ _ _ _ _ _ => False
  | N + 1 => fun x2 x3 x5 x6 x7 h => ∃ s36b s36n s36c, cell h (x3.add 2) = some (.slice s36b s36n s36c) ∧ (Spl (x7 < (s36n : Int)) (cond x6 (Rng .i64 (x7 + (1 : Int)) ∧ (n17_L Kn Ke2 Ke1 Ke0 Kr N x2 x3 x5 true (x7 + (1 : Int)) h)) (∃ s37b s37n s37c, cell h (x2.add 2) = some (.slice s37b s37n s37c) ∧ ((0 ≤ x5 ∧ x5 < (s37n : Int)) ∧ (vSome s37b fun a38 => ∃ s39, cell h (((a38.add (Int.toNat x5 * 2))).add 0) = some (S s39) ∧ (∃ s40, cell h (((a38.add (Int.toNat x5 * 2))).add 1) = some (S s40) ∧ (∃ s41b s41n s41c, cell h (x3.add 2) = some (.slice s41b s41n s41c) ∧ ((0 ≤ x7 ∧ x7 < (s41n : Int)) ∧ (vSome s41b fun a42 => ∃ s43, cell h (((a42.add (Int.toNat x7 * 2))).add 0) = some (S s43) ∧ (∃ s44, cell h (((a42.add (Int.toNat x7 * 2))).add 1) = some (S s44) ∧ (SemR Tryz.prog (binS .eql 79 (.tmp 42) (.tmp 47) (.agg ⟨[(S s39), (S s40)]⟩) (.agg ⟨[(S s43), (S s44)]⟩)) h fun v45 => vBool v45 fun b46 => cond b46 (Rng .i64 (x7 + (1 : Int)) ∧ (n17_L Kn Ke2 Ke1 Ke0 Kr N x2 x3 x5 true (x7 + (1 : Int)) h)) (Rng .i64 (x7 + (1 : Int)) ∧ (n17_L Kn Ke2 Ke1 Ke0 Kr N x2 x3 x5 false (x7 + (1 : Int)) h)))))))))))) (Ke2 x2 x3 x5 x6 h))
abbrev n17 (Kn Ke2 : T5) (Ke1 : T4) (Ke0 : T3) (Kr : T0) (h : H) : Prop :=
  ∃ N, n17_L Kn Ke2 Ke1 Ke0 Kr N x2 x3 x5 x6 x7 h
abbrev n16 (Kn : T5) (Ke1 : T4) (Ke0 : T3) (Kr : T0) (h : H) : Prop :=
  n17 x2 x3 x5 x6 x7 Kn Kn Ke1 Ke0 Kr h
abbrev Q8 (Kn : T6) (Ke1 : T4) (Ke0 : T3) (Kr : T0) := QX (D6 Kn) (D0 Kr) (exX 1 (D4 Ke1) (exX 0 (D3 Ke0) noX))
abbrev n15 (Kn : T5) (Ke1 : T4) (Ke0 : T3) (Kr : T0) (h : H) : Prop :=
  n16 x2 x3 x5 x6 (0 : Int) Kn Ke1 Ke0 Kr h
abbrev n13 (Kn Ke1 : T4) (Ke0 : T3) (Kr : T0) (h : H) : Prop :=
  n15 x2 x3 x5 x6 (fun z2 z3 z5 z6 h => n14 z2 z3 z5 z6 Kn Ke1 Ke0 Kr h) Ke1 Ke0 Kr h
abbrev n12 (Kn Ke1 : T4) (Ke0 : T3) (Kr : T0) (h : H) : Prop :=
  n13 x2 x3 x5 false Kn Ke1 Ke0 Kr h
abbrev n11 (Kn : T4) (Ke0 : T3) (Kr : T0) (h : H) : Prop :=
  n12 x2 x3 x5 Kn Kn Ke0 Kr h
abbrev n9 (Kn : T4) (Ke0 : T3) (Kr : T0) (h : H) : Prop :=
  n11 x2 x3 x5 (fun z2 z3 z5 h => n10 z2 z3 z5 Kn Ke0 Kr h) Ke0 Kr h
abbrev n8 (Kn : T4) (Ke0 : T3) (Kr : T0) (h : H) : Prop :=
  ∃ s47b s47n s47c, cell h (x2.add 2) = some (.slice s47b s47n s47c) ∧ (Spl (x5 < (s47n : Int)) (n9 x2 x3 x5 Kn Ke0 Kr h) (Ke0 h))
def n7_L (Kn Ke0 : T3) (Kr : T0) : Nat → T4
  | 0 => fun _ _ _ _ => False
  | N + 1 => fun x2 x3 x5 h => n8 x2 x3 x5 (fun z2 z3 z5 h => n7_L Kn Ke0 Kr N z2 z3 z5 h) Ke0 Kr h
abbrev n7 (Kn Ke0 : T3) (Kr : T0) (h : H) : Prop :=
  ∃ N, n7_L Kn Ke0 Kr N x2 x3 x5 h
abbrev n6 (Kn : T3) (Kr : T0) (h : H) : Prop :=
  n7 x2 x3 x5 Kn Kn Kr h
abbrev Q9 (Kn : T4) (Kr : T0) := QX (D4 Kn) (D0 Kr) noX
abbrev n5 (Kn : T3) (Kr : T0) (h : H) : Prop :=
  n6 x2 x3 (0 : Int) Kn Kr h
abbrev n3 (Kn Kr : T0) (h : H) : Prop :=
  n5 x2 x3 (fun  h => n4 Kn Kr h) Kr h
abbrev Q10 (Kn : T2) (Kr : T0) := QX (D2 Kn) (D0 Kr) noX
abbrev n2 (Kn Kr : T0) (h : H) : Prop :=
  ∃ s48, cell h (x2.add 1) = some (S s48) ∧ (∃ s49, cell h (x3.add 1) = some (S s49) ∧ (Spl (s48 = s49) (∃ s50b s50n s50c, cell h (x2.add 2) = some (.slice s50b s50n s50c) ∧ (∃ s51b s51n s51c, cell h (x3.add 2) = some (.slice s51b s51n s51c) ∧ (Spl ((s50n : Int) = (s51n : Int)) (n3 x2 x3 Kn Kr h) (Kr false h)))) (Kr false h)))
abbrev n1 (Kn Kr : T0) (h : H) : Prop :=
  newx h ⟨[(.int .i64 x0_0), (S x0_1), (.slice x0_2b x0_2n x0_2c)]⟩ 39 fun a52 h53 => newx h53 ⟨[(.int .i64 x1_0), (S x1_1), (.slice x1_2b x1_2n x1_2c)]⟩ 39 fun a54 h55 => n2 a52 a54 Kn Kr h55
variable {g} {h : H} {p : Prop}
variable {x0_0 x0_1 x0_2b x0_2n x0_2c x1_0 x1_1 x1_2b x1_2n x1_2c x2 x3 x4 x5 x6 x7}
theorem D4_mk {K : T4} (hg : E4 g x2 x3 x5) (hk : K x2 x3 x5 h) : D4 K g h := by
  obtain ⟨e2, e3, e5, d⟩ := hg
  unfold D4
  rw [e2, e3, e5, d]
  exact hk
theorem D6_mk {K : T6} (hg : E6 g x2 x3 x5 x6 x7) (hk : K x2 x3 x5 x6 x7 h) : D6 K g h := by
  obtain ⟨e2, e3, e5, e6, e7, d⟩ := hg
  unfold D6
  rw [e2, e3, e5, e6, e7, d]
  exact hk
theorem D0_el {K : T0} (hq : D0 K g h) (f : ∀ {x4}, E0 g x4 → K x4 h → p) : p := nilDs_el hq fun d q => vBool_el q fun _ e4 q => f ⟨e4, d⟩ q
theorem D1_el {K : T1} (hq : D1 K g h) (f : ∀ {x0_0 x0_1 x0_2b x0_2n x0_2c x1_0 x1_1 x1_2b x1_2n x1_2c}, E1 g x0_0 x0_1 x0_2b x0_2n x0_2c x1_0 x1_1 x1_2b x1_2n x1_2c → K x0_0 x0_1 x0_2b x0_2n x0_2c x1_0 x1_1 x1_2b x1_2n x1_2c h → p) : p := by
  obtain ⟨d, q0⟩ := nilDs_ok hq
  obtain ⟨l, e0, q1⟩ := vAgg_ok q0
  obtain ⟨_, l, rfl, q2⟩ := uncI q1
  obtain ⟨_, l, rfl, q3⟩ := uncS q2
  obtain ⟨_, _, _, l, rfl, q4⟩ := uncL q3
  obtain ⟨rfl, q5⟩ := unnil_ok q4
  obtain ⟨l, e1, q6⟩ := vAgg_ok q5
  obtain ⟨_, l, rfl, q7⟩ := uncI q6
  obtain ⟨_, l, rfl, q8⟩ := uncS q7
  obtain ⟨_, _, _, l, rfl, q9⟩ := uncL q8
  obtain ⟨rfl, q10⟩ := unnil_ok q9
  exact f ⟨e0, e1, d⟩ q10
theorem D2_el {K : T2} (hq : D2 K g h) (f : ∀ {x2 x3}, E2 g x2 x3 → K x2 x3 h → p) : p := nilDs_el hq fun d q => vAddr_el q fun _ e2 q => vAddr_el q fun _ e3 q => f ⟨e2, e3, d⟩ q
theorem D3_el {K : T3} (hq : D3 K g h) (f : E3 g → K  h → p) : p := nilDs_el hq fun d q => f d q
theorem n4_ok {Kn Kr : T0} (hg : E3 g) (hS : n4 Kn Kr h) : W c6 (Q0 Kn Kr) g h :=
  leafN (by kernel_rfl) (by kernel_rfl) hg hS (by kernel_rfl)
theorem D4_el {K : T4} (hq : D4 K g h) (f : ∀ {x2 x3 x5}, E4 g x2 x3 x5 → K x2 x3 x5 h → p) : p := nilDs_el hq fun d q => vAddr_el q fun _ e2 q => vAddr_el q fun _ e3 q => vInt_el q fun _ e5 q => f ⟨e2, e3, e5, d⟩ q
theorem n10_ok {Kn : T4} {Ke0 : T3} {Kr : T0} (hg : E4 g x2 x3 x5) (hS : n10 x2 x3 x5 Kn Ke0 Kr h) : W c14 (Q3 Kn Ke0 Kr) g h :=
  leafN (by kernel_rfl) (by kernel_rfl) hg hS (by kernel_rfl)
theorem D5_el {K : T5} (hq : D5 K g h) (f : ∀ {x2 x3 x5 x6}, E5 g x2 x3 x5 x6 → K x2 x3 x5 x6 h → p) : p := nilDs_el hq fun d q => vAddr_el q fun _ e2 q => vAddr_el q fun _ e3 q => vInt_el q fun _ e5 q => vBool_el q fun _ e6 q => f ⟨e2, e3, e5, e6, d⟩ q
theorem n14_ok {Kn Ke1 : T4} {Ke0 : T3} {Kr : T0} (hg : E5 g x2 x3 x5 x6) (hS : n14 x2 x3 x5 x6 Kn Ke1 Ke0 Kr h) : W c19 (Q4 Kn Ke1 Ke0 Kr) g h :=
  leafN (by kernel_rfl) (by kernel_rfl) hg hS (by kernel_rfl)
theorem D6_el {K : T6} (hq : D6 K g h) (f : ∀ {x2 x3 x5 x6 x7}, E6 g x2 x3 x5 x6 x7 → K x2 x3 x5 x6 x7 h → p) : p := nilDs_el hq fun d q => vAddr_el q fun _ e2 q => vAddr_el q fun _ e3 q => vInt_el q fun _ e5 q => vBool_el q fun _ e6 q => vInt_el q fun _ e7 q => f ⟨e2, e3, e5, e6, e7, d⟩ q
theorem n17_ok {Kn Ke2 : T5} {Ke1 : T4} {Ke0 : T3} {Kr : T0} (hg : E6 g x2 x3 x5 x6 x7) (hS : n17 x2 x3 x5 x6 x7 Kn Ke2 Ke1 Ke0 Kr h) : W c22 (Q6 Kn Ke2 Ke1 Ke0 Kr) g h :=
  let ⟨N, hS⟩ := hS
  loopN (x := c23) (I := fun N => D6 (n17_L Kn Ke2 Ke1 Ke0 Kr N)) (by kernel_rfl) (fun hq => D6_el hq fun _ hq => hq) (fun hq => D6_el hq fun hg hq => leafN (by kernel_rfl) (by kernel_rfl) hg hq (by kernel_rfl)) N (D6_mk hg hS)
theorem n16_ok {Kn : T5} {Ke1 : T4} {Ke0 : T3} {Kr : T0} (hg : E6 g x2 x3 x5 x6 x7) (hS : n16 x2 x3 x5 x6 x7 Kn Ke1 Ke0 Kr h) : W c21 (Q5 Kn Ke1 Ke0 Kr) g h := blockN (by kernel_rfl) (n17_ok hg hS)
theorem n15_ok {Kn : T5} {Ke1 : T4} {Ke0 : T3} {Kr : T0} (hg : E5 g x2 x3 x5 x6) (hS : n15 x2 x3 x5 x6 Kn Ke1 Ke0 Kr h) : W c18 (Q5 Kn Ke1 Ke0 Kr) g h :=
  seqN (x := c20) (N' := D6 (fun z2 z3 z5 z6 z7 h => n16 z2 z3 z5 z6 z7 Kn Ke1 Ke0 Kr h)) (by kernel_rfl) (leafN (by kernel_rfl) (by kernel_rfl) hg hS (by kernel_rfl)) fun hq => D6_el hq n16_ok
theorem n13_ok {Kn Ke1 : T4} {Ke0 : T3} {Kr : T0} (hg : E5 g x2 x3 x5 x6) (hS : n13 x2 x3 x5 x6 Kn Ke1 Ke0 Kr h) : W c17 (Q4 Kn Ke1 Ke0 Kr) g h :=
  seqN (by kernel_rfl) (n15_ok hg hS) fun hq => D5_el hq n14_ok
theorem n12_ok {Kn Ke1 : T4} {Ke0 : T3} {Kr : T0} (hg : E4 g x2 x3 x5) (hS : n12 x2 x3 x5 Kn Ke1 Ke0 Kr h) : W c15 (Q4 Kn Ke1 Ke0 Kr) g h :=
  seqN (x := c16) (N' := D5 (fun z2 z3 z5 z6 h => n13 z2 z3 z5 z6 Kn Ke1 Ke0 Kr h)) (by kernel_rfl) (leafN (by kernel_rfl) (by kernel_rfl) hg hS (by kernel_rfl)) fun hq => D5_el hq n13_ok
theorem n11_ok {Kn : T4} {Ke0 : T3} {Kr : T0} (hg : E4 g x2 x3 x5) (hS : n11 x2 x3 x5 Kn Ke0 Kr h) : W c13 (Q3 Kn Ke0 Kr) g h := blockN (by kernel_rfl) (n12_ok hg hS)
theorem n9_ok {Kn : T4} {Ke0 : T3} {Kr : T0} (hg : E4 g x2 x3 x5) (hS : n9 x2 x3 x5 Kn Ke0 Kr h) : W c12 (Q3 Kn Ke0 Kr) g h :=
  seqN (by kernel_rfl) (n11_ok hg hS) fun hq => D4_el hq n10_ok
theorem n8_ok {Kn : T4} {Ke0 : T3} {Kr : T0} (hg : E4 g x2 x3 x5) (hS : n8 x2 x3 x5 Kn Ke0 Kr h) : W c10 (Q3 Kn Ke0 Kr) g h :=
  seqN (x := c11) (N' := D4 (fun z2 z3 z5 h => n9 z2 z3 z5 Kn Ke0 Kr h)) (by kernel_rfl) (leafN (by kernel_rfl) (by kernel_rfl) hg hS (by kernel_rfl)) fun hq => D4_el hq n9_ok
theorem n7_ok {Kn Ke0 : T3} {Kr : T0} (hg : E4 g x2 x3 x5) (hS : n7 x2 x3 x5 Kn Ke0 Kr h) : W c9 (Q2 Kn Ke0 Kr) g h :=
  let ⟨N, hS⟩ := hS
  loopN (x := c10) (I := fun N => D4 (n7_L Kn Ke0 Kr N)) (by kernel_rfl) (fun hq => D4_el hq fun _ hq => hq) (fun hq => D4_el hq fun hg hq => n8_ok hg hq) N (D4_mk hg hS)
theorem n6_ok {Kn : T3} {Kr : T0} (hg : E4 g x2 x3 x5) (hS : n6 x2 x3 x5 Kn Kr h) : W c8 (Q1 Kn Kr) g h := blockN (by kernel_rfl) (n7_ok hg hS)
theorem n5_ok {Kn : T3} {Kr : T0} (hg : E2 g x2 x3) (hS : n5 x2 x3 Kn Kr h) : W c5 (Q1 Kn Kr) g h :=
  seqN (x := c7) (N' := D4 (fun z2 z3 z5 h => n6 z2 z3 z5 Kn Kr h)) (by kernel_rfl) (leafN (by kernel_rfl) (by kernel_rfl) hg hS (by kernel_rfl)) fun hq => D4_el hq n6_ok
theorem n3_ok {Kn Kr : T0} (hg : E2 g x2 x3) (hS : n3 x2 x3 Kn Kr h) : W c4 (Q0 Kn Kr) g h :=
  seqN (by kernel_rfl) (n5_ok hg hS) fun hq => D3_el hq n4_ok
theorem n2_ok {Kn Kr : T0} (hg : E2 g x2 x3) (hS : n2 x2 x3 Kn Kr h) : W c2 (Q0 Kn Kr) g h :=
  seqN (x := c3) (N' := D2 (fun z2 z3 h => n3 z2 z3 Kn Kr h)) (by kernel_rfl) (leafN (by kernel_rfl) (by kernel_rfl) hg hS (by kernel_rfl)) fun hq => D2_el hq n3_ok
theorem n1_ok {Kn Kr : T0} (hg : E1 g x0_0 x0_1 x0_2b x0_2n x0_2c x1_0 x1_1 x1_2b x1_2n x1_2c) (hS : n1 x0_0 x0_1 x0_2b x0_2n x0_2c x1_0 x1_1 x1_2b x1_2n x1_2c Kn Kr h) : W code (Q0 Kn Kr) g h :=
  seqN (x := c1) (N' := D2 (fun z2 z3 h => n2 z2 z3 Kn Kr h)) (by kernel_rfl) (leafN (by kernel_rfl) (by kernel_rfl) hg hS (by kernel_rfl)) fun hq => D2_el hq n2_ok
/-- WHAT tympan/tympanref12.alike ASKS -/
abbrev asks (x0_0 : Int) (x0_1 : List UInt8) (x0_2b : Option Addr) (x0_2n : Nat) (x0_2c : Nat) (x1_0 : Int) (x1_1 : List UInt8) (x1_2b : Option Addr) (x1_2n : Nat) (x1_2c : Nat) (K : Value → H → Prop) (h : H) : Prop := n1 x0_0 x0_1 x0_2b x0_2n x0_2c x1_0 x1_1 x1_2b x1_2n x1_2c (fun y4 h => K (.bool y4) h) (fun y4 h => K (.bool y4) h) h
theorem ok (x0_0 : Int) (x0_1 : List UInt8) (x0_2b : Option Addr) (x0_2n : Nat) (x0_2c : Nat) (x1_0 : Int) (x1_1 : List UInt8) (x1_2b : Option Addr) (x1_2n : Nat) (x1_2c : Nat) (K : Value → H → Prop) (h : H) (hS : asks x0_0 x0_1 x0_2b x0_2n x0_2c x1_0 x1_1 x1_2b x1_2n x1_2c K h) : HCalls Tryz.prog 37 ⟨[(.agg ⟨[(.int .i64 x0_0), (S x0_1), (.slice x0_2b x0_2n x0_2c)]⟩), (.agg ⟨[(.int .i64 x1_0), (S x1_1), (.slice x1_2b x1_2n x1_2c)]⟩)]⟩ h K :=
  callsN (c := code) Tryz.func37 (by kernel_rfl) (by kernel_rfl) (n1_ok ⟨rfl, rfl, rfl⟩ hS) fun hq => D0_el hq fun hg hq => retN hg hq (by kernel_rfl)
end Sx.r12_alike

/-! ### tympan/tympanref12.Push -/
namespace Sx.r12_Push
noncomputable def code : Code := bodyOf Tryz.f11
abbrev W := wpC none Tryz.prog 60
variable (g : Env) (x0b : Option Addr) (x0n x0c : Nat) (x1_0 : Int) (x1_1 : List UInt8) (x1_2b : Option Addr) (x1_2n x1_2c : Nat) (x3 : Addr) (x4b : Option Addr) (x4n x4c : Nat) (x5 x6 x7 : Int) (x9b : Option Addr) (x9n x9c : Nat) (x10 : Int) (x48 : Bool)
abbrev T0 := (Option Addr) → Nat → Nat → H → Prop
abbrev E0 := Held g [(4, .slice x4b x4n x4c)]
def D0 (K : T0) (g : Env) (h : H) : Prop := nilDs g.ds (vSlice (g.v 4) fun s1b s1n s1c => K s1b s1n s1c h)
abbrev Q0 (Kn Kr : T0) := QX (D0 Kn) (D0 Kr) noX
abbrev T1 := (Option Addr) → Nat → Nat → Int → (List UInt8) → (Option Addr) → Nat → Nat → H → Prop
abbrev E1 := Held g [(0, .slice x0b x0n x0c), (1, .agg ⟨[(.int .i64 x1_0), (S x1_1), (.slice x1_2b x1_2n x1_2c)]⟩)]
def D1 (K : T1) (g : Env) (h : H) : Prop := nilDs g.ds (vSlice (g.v 0) fun s2b s2n s2c => vAgg (g.v 1) fun l3 => uncons l3 fun e4 l5 => vInt .i64 e4 fun i6 => uncons l5 fun e7 l8 => vStr e7 fun s9 => uncons l8 fun e10 l11 => vSlice e10 fun s12b s12n s12c => unnil l11 (K s2b s2n s2c i6 s9 s12b s12n s12c h))
noncomputable def c1 := cFst code
noncomputable def c2 := cSnd code
abbrev T2 := (Option Addr) → Nat → Nat → Addr → H → Prop
abbrev E2 := Held g [(0, .slice x0b x0n x0c), (3, .pointer (some x3))]
def D2 (K : T2) (g : Env) (h : H) : Prop := nilDs g.ds (vSlice (g.v 0) fun s13b s13n s13c => vAddr (g.v 3) fun a14 => K s13b s13n s13c a14 h)
noncomputable def c3 := cFst c2
noncomputable def c4 := cSnd c2
abbrev T3 := (Option Addr) → Nat → Nat → Addr → Int → H → Prop
abbrev E3 := Held g [(0, .slice x0b x0n x0c), (3, .pointer (some x3)), (5, .int .i64 x5)]
def D3 (K : T3) (g : Env) (h : H) : Prop := nilDs g.ds (vSlice (g.v 0) fun s15b s15n s15c => vAddr (g.v 3) fun a16 => vInt .i64 (g.v 5) fun i17 => K s15b s15n s15c a16 i17 h)
noncomputable def c5 := cFst c4
noncomputable def c6 := cSnd c4
abbrev T4 := (Option Addr) → Nat → Nat → Addr → Int → Int → H → Prop
abbrev E4 := Held g [(0, .slice x0b x0n x0c), (3, .pointer (some x3)), (5, .int .i64 x5), (6, .int .i64 x6)]
def D4 (K : T4) (g : Env) (h : H) : Prop := nilDs g.ds (vSlice (g.v 0) fun s18b s18n s18c => vAddr (g.v 3) fun a19 => vInt .i64 (g.v 5) fun i20 => vInt .i64 (g.v 6) fun i21 => K s18b s18n s18c a19 i20 i21 h)
noncomputable def c7 := cFst c6
noncomputable def c8 := cSnd c6
noncomputable def c9 := cFst c8
noncomputable def c10 := cSnd c8
abbrev T5 := (Option Addr) → Nat → Nat → Addr → Int → Int → (Option Addr) → Nat → Nat → H → Prop
abbrev E5 := Held g [(0, .slice x0b x0n x0c), (3, .pointer (some x3)), (5, .int .i64 x5), (6, .int .i64 x6), (9, .slice x9b x9n x9c)]
def D5 (K : T5) (g : Env) (h : H) : Prop := nilDs g.ds (vSlice (g.v 0) fun s22b s22n s22c => vAddr (g.v 3) fun a23 => vInt .i64 (g.v 5) fun i24 => vInt .i64 (g.v 6) fun i25 => vSlice (g.v 9) fun s26b s26n s26c => K s22b s22n s22c a23 i24 i25 s26b s26n s26c h)
noncomputable def c11 := cFst c10
noncomputable def c12 := cSnd c10
abbrev T6 := Addr → (Option Addr) → Nat → Nat → H → Prop
abbrev E6 := Held g [(3, .pointer (some x3)), (9, .slice x9b x9n x9c)]
def D6 (K : T6) (g : Env) (h : H) : Prop := nilDs g.ds (vAddr (g.v 3) fun a27 => vSlice (g.v 9) fun s28b s28n s28c => K a27 s28b s28n s28c h)
abbrev n7 (Kn Kr : T0) (h : H) : Prop :=
  ∃ i29, cell h ((x3).add 0) = some (.int .i64 i29) ∧ (∃ s30, cell h ((x3).add 1) = some (S s30) ∧ (∃ s31b s31n s31c, cell h ((x3).add 2) = some (.slice s31b s31n s31c) ∧ (newx h #[(.int .i64 i29), (S s30), (.slice s31b s31n s31c)] 39 fun a32 h33 => SemH Tryz.prog (Builtin.append_ #[40, 40] 40 ⟨[(.slice x9b x9n x9c), (.slice (some a32) 1 1)]⟩) h33 fun v34 h35 => vSlice v34 fun s36b s36n s36c => Kr s36b s36n s36c h35)))
abbrev Q1 (Kn : T6) (Kr : T0) := QX (D6 Kn) (D0 Kr) noX
noncomputable def c13 := cFst c11
noncomputable def c14 := cSnd c11
abbrev T7 := (Option Addr) → Nat → Nat → Addr → Int → Int → (Option Addr) → Nat → Nat → Int → H → Prop
abbrev E7 := Held g [(0, .slice x0b x0n x0c), (3, .pointer (some x3)), (5, .int .i64 x5), (6, .int .i64 x6), (9, .slice x9b x9n x9c), (10, .int .i64 x10)]
def D7 (K : T7) (g : Env) (h : H) : Prop := nilDs g.ds (vSlice (g.v 0) fun s37b s37n s37c => vAddr (g.v 3) fun a38 => vInt .i64 (g.v 5) fun i39 => vInt .i64 (g.v 6) fun i40 => vSlice (g.v 9) fun s41b s41n s41c => vInt .i64 (g.v 10) fun i42 => K s37b s37n s37c a38 i39 i40 s41b s41n s41c i42 h)
noncomputable def c15 := cFst c14
abbrev Q2 (Kn Ke2 : T6) (Kr : T0) := QX (D6 Kn) (D0 Kr) (exX 2 (D6 Ke2) noX)
noncomputable def c16 := cFst c15
abbrev Q3 (Kn : T7) (Ke2 : T6) (Kr : T0) := QX (D7 Kn) (D0 Kr) (exX 2 (D6 Ke2) noX)
noncomputable def c17 := cFst c16
noncomputable def c18 := cSnd c16
noncomputable def c19 := cFst c18
noncomputable def c20 := cSnd c18
abbrev n13 (Kn : T7) (Ke2 : T6) (Kr : T0) (h : H) : Prop :=
  Rng .i64 (x10 + (1 : Int)) ∧ (Kn x0b x0n x0c x3 x5 x6 x9b x9n x9c (x10 + (1 : Int)) h)
noncomputable def c21 := cFst c19
abbrev Q4 (Kn Ke3 : T7) (Ke2 : T6) (Kr : T0) := QX (D7 Kn) (D0 Kr) (exX 3 (D7 Ke3) (exX 2 (D6 Ke2) noX))
noncomputable def c22 := cFst c21
noncomputable def c23 := cSnd c21
abbrev T8 := (Option Addr) → Nat → Nat → Addr → Int → Int → (Option Addr) → Nat → Nat → Int → Bool → H → Prop
abbrev E8 := Held g [(0, .slice x0b x0n x0c), (3, .pointer (some x3)), (5, .int .i64 x5), (6, .int .i64 x6), (9, .slice x9b x9n x9c), (10, .int .i64 x10), (48, .bool x48)]
def D8 (K : T8) (g : Env) (h : H) : Prop := nilDs g.ds (vSlice (g.v 0) fun s43b s43n s43c => vAddr (g.v 3) fun a44 => vInt .i64 (g.v 5) fun i45 => vInt .i64 (g.v 6) fun i46 => vSlice (g.v 9) fun s47b s47n s47c => vInt .i64 (g.v 10) fun i48 => vBool (g.v 48) fun b49 => K s43b s43n s43c a44 i45 i46 s47b s47n s47c i48 b49 h)
abbrev n16 (Kn Ke3 : T7) (Ke2 : T6) (Kr : T0) (h : H) : Prop :=
  cond x48 ((0 ≤ x10 ∧ x10 < (x0n : Int)) ∧ (vSome x0b fun a50 => ∃ i51, cell h (((a50.add (Int.toNat x10 * 3))).add 0) = some (.int .i64 i51) ∧ (∃ s52, cell h (((a50.add (Int.toNat x10 * 3))).add 1) = some (S s52) ∧ (∃ s53b s53n s53c, cell h (((a50.add (Int.toNat x10 * 3))).add 2) = some (.slice s53b s53n s53c) ∧ (newx h #[(.int .i64 i51), (S s52), (.slice s53b s53n s53c)] 39 fun a54 h55 => SemH Tryz.prog (Builtin.append_ #[40, 40] 40 ⟨[(.slice x9b x9n x9c), (.slice (some a54) 1 1)]⟩) h55 fun v56 h57 => vSlice v56 fun s58b s58n s58c => Kn x0b x0n x0c x3 x5 x6 s58b s58n s58c x10 h57))))) (Kn x0b x0n x0c x3 x5 x6 x9b x9n x9c x10 h)
abbrev Q5 (Kn : T8) (Ke3 : T7) (Ke2 : T6) (Kr : T0) := QX (D8 Kn) (D0 Kr) (exX 3 (D7 Ke3) (exX 2 (D6 Ke2) noX))
abbrev n15 (Kn Ke3 : T7) (Ke2 : T6) (Kr : T0) (h : H) : Prop :=
  Spl (x5 < (3 : Int)) (n16 x0b x0n x0c x3 x5 x6 x9b x9n x9c x10 true Kn Ke3 Ke2 Kr h) (Spl (x10 = x6) (n16 x0b x0n x0c x3 x5 x6 x9b x9n x9c x10 false Kn Ke3 Ke2 Kr h) (n16 x0b x0n x0c x3 x5 x6 x9b x9n x9c x10 true Kn Ke3 Ke2 Kr h))
abbrev n14 (Kn : T7) (Ke2 : T6) (Kr : T0) (h : H) : Prop :=
  n15 x0b x0n x0c x3 x5 x6 x9b x9n x9c x10 Kn Kn Ke2 Kr h
abbrev n12 (Kn : T7) (Ke2 : T6) (Kr : T0) (h : H) : Prop :=
  n14 x0b x0n x0c x3 x5 x6 x9b x9n x9c x10 (fun z0b z0n z0c z3 z5 z6 z9b z9n z9c z10 h => n13 z0b z0n z0c z3 z5 z6 z9b z9n z9c z10 Kn Ke2 Kr h) Ke2 Kr h
abbrev n11 (Kn : T7) (Ke2 : T6) (Kr : T0) (h : H) : Prop :=
  Spl (x10 < (x0n : Int)) (n12 x0b x0n x0c x3 x5 x6 x9b x9n x9c x10 Kn Ke2 Kr h) (Ke2 x3 x9b x9n x9c h)
def n10_L (Kn Ke2 : T6) (Kr : T0) : Nat → T7
  | 0 => fun _ _ _ _ _ _ _ _ _ _ _ => False
  | N + 1 => fun x0b x0n x0c x3 x5 x6 x9b x9n x9c x10 h => n11 x0b x0n x0c x3 x5 x6 x9b x9n x9c x10 (fun z0b z0n z0c z3 z5 z6 z9b z9n z9c z10 h => n10_L Kn Ke2 Kr N z0b z0n z0c z3 z5 z6 z9b z9n z9c z10 h) Ke2 Kr h
abbrev n10 (Kn Ke2 : T6) (Kr : T0) (h : H) : Prop :=
  ∃ N, n10_L Kn Ke2 Kr N x0b x0n x0c x3 x5 x6 x9b x9n x9c x10 h
abbrev n9 (Kn : T6) (Kr : T0) (h : H) : Prop :=
  n10 x0b x0n x0c x3 x5 x6 x9b x9n x9c x10 Kn Kn Kr h
abbrev Q6 (Kn : T7) (Kr : T0) := QX (D7 Kn) (D0 Kr) noX
abbrev n8 (Kn : T6) (Kr : T0) (h : H) : Prop :=
  n9 x0b x0n x0c x3 x5 x6 x9b x9n x9c (0 : Int) Kn Kr h
abbrev n6 (Kn Kr : T0) (h : H) : Prop :=
  n8 x0b x0n x0c x3 x5 x6 x9b x9n x9c (fun z3 z9b z9n z9c h => n7 z3 z9b z9n z9c Kn Kr h) Kr h
abbrev Q7 (Kn : T5) (Kr : T0) := QX (D5 Kn) (D0 Kr) noX
abbrev n5 (Kn Kr : T0) (h : H) : Prop :=
  n6 x0b x0n x0c x3 x5 x6 none 0 0 Kn Kr h
abbrev Q8 (Kn : T4) (Kr : T0) := QX (D4 Kn) (D0 Kr) noX
noncomputable def c24 := cFst c7
noncomputable def c25 := cSnd c7
abbrev T9 := (Option Addr) → Nat → Nat → Addr → Int → Int → Int → H → Prop
abbrev E9 := Held g [(0, .slice x0b x0n x0c), (3, .pointer (some x3)), (5, .int .i64 x5), (6, .int .i64 x6), (7, .int .i64 x7)]
def D9 (K : T9) (g : Env) (h : H) : Prop := nilDs g.ds (vSlice (g.v 0) fun s59b s59n s59c => vAddr (g.v 3) fun a60 => vInt .i64 (g.v 5) fun i61 => vInt .i64 (g.v 6) fun i62 => vInt .i64 (g.v 7) fun i63 => K s59b s59n s59c a60 i61 i62 i63 h)
noncomputable def c26 := cFst c25
abbrev Q9 (Kn Ke0 : T4) (Kr : T0) := QX (D4 Kn) (D0 Kr) (exX 0 (D4 Ke0) noX)
noncomputable def c27 := cFst c26
abbrev Q10 (Kn : T9) (Ke0 : T4) (Kr : T0) := QX (D9 Kn) (D0 Kr) (exX 0 (D4 Ke0) noX)
noncomputable def c28 := cFst c27
noncomputable def c29 := cSnd c27
noncomputable def c30 := cFst c29
noncomputable def c31 := cSnd c29
abbrev n22 (Kn : T9) (Ke0 : T4) (Kr : T0) (h : H) : Prop :=
  Rng .i64 (x7 + (1 : Int)) ∧ (Kn x0b x0n x0c x3 x5 x6 (x7 + (1 : Int)) h)
abbrev n21 (Kn : T9) (Ke0 : T4) (Kr : T0) (h : H) : Prop :=
  ∃ i64, cell h ((x3).add 0) = some (.int .i64 i64) ∧ (∃ s65, cell h ((x3).add 1) = some (S s65) ∧ (∃ s66b s66n s66c, cell h ((x3).add 2) = some (.slice s66b s66n s66c) ∧ ((0 ≤ x7 ∧ x7 < (x0n : Int)) ∧ (vSome x0b fun a67 => ∃ i68, cell h (((a67.add (Int.toNat x7 * 3))).add 0) = some (.int .i64 i68) ∧ (∃ s69, cell h (((a67.add (Int.toNat x7 * 3))).add 1) = some (S s69) ∧ (∃ s70b s70n s70c, cell h (((a67.add (Int.toNat x7 * 3))).add 2) = some (.slice s70b s70n s70c) ∧ (HCalls Tryz.prog 37 ⟨[(.agg ⟨[(.int .i64 i64), (S s65), (.slice s66b s66n s66c)]⟩), (.agg ⟨[(.int .i64 i68), (S s69), (.slice s70b s70n s70c)]⟩)]⟩ h fun v71 h72 => vBool v71 fun b73 => cond b73 (Rng .i64 (x5 + (1 : Int)) ∧ (Spl (x6 < (0 : Int)) (n22 x0b x0n x0c x3 (x5 + (1 : Int)) x7 x7 Kn Ke0 Kr h72) (n22 x0b x0n x0c x3 (x5 + (1 : Int)) x6 x7 Kn Ke0 Kr h72))) (n22 x0b x0n x0c x3 x5 x6 x7 Kn Ke0 Kr h72))))))))
abbrev n20 (Kn : T9) (Ke0 : T4) (Kr : T0) (h : H) : Prop :=
  Spl (x7 < (x0n : Int)) (∃ i74, cell h (x3.add 0) = some (.int .i64 i74) ∧ (Spl (i74 ≥ (0 : Int)) (n21 x0b x0n x0c x3 x5 x6 x7 Kn Ke0 Kr h) (Ke0 x0b x0n x0c x3 x5 x6 h))) (Ke0 x0b x0n x0c x3 x5 x6 h)
def n19_L (Kn Ke0 : T4) (Kr : T0) : Nat → T9
  | 0 => fun _ _ _ _ _ _ _ _ => False
  | N + 1 => fun x0b x0n x0c x3 x5 x6 x7 h => n20 x0b x0n x0c x3 x5 x6 x7 (fun z0b z0n z0c z3 z5 z6 z7 h => n19_L Kn Ke0 Kr N z0b z0n z0c z3 z5 z6 z7 h) Ke0 Kr h
abbrev n19 (Kn Ke0 : T4) (Kr : T0) (h : H) : Prop :=
  ∃ N, n19_L Kn Ke0 Kr N x0b x0n x0c x3 x5 x6 x7 h
abbrev n18 (Kn : T4) (Kr : T0) (h : H) : Prop :=
  n19 x0b x0n x0c x3 x5 x6 x7 Kn Kn Kr h
abbrev Q11 (Kn : T9) (Kr : T0) := QX (D9 Kn) (D0 Kr) noX
abbrev n17 (Kn : T4) (Kr : T0) (h : H) : Prop :=
  HCalls Tryz.prog 36 ⟨[(.slice x0b x0n x0c)]⟩ h fun v75 h76 => vInt .i64 v75 fun i77 => n18 x0b x0n x0c x3 x5 x6 i77 Kn Kr h76
abbrev n4 (Kn Kr : T0) (h : H) : Prop :=
  n17 x0b x0n x0c x3 x5 x6 (fun z0b z0n z0c z3 z5 z6 h => n5 z0b z0n z0c z3 z5 z6 Kn Kr h) Kr h
abbrev n3 (Kn Kr : T0) (h : H) : Prop :=
  n4 x0b x0n x0c x3 x5 (-1 : Int) Kn Kr h
abbrev Q12 (Kn : T3) (Kr : T0) := QX (D3 Kn) (D0 Kr) noX
abbrev n2 (Kn Kr : T0) (h : H) : Prop :=
  n3 x0b x0n x0c x3 (0 : Int) Kn Kr h
abbrev Q13 (Kn : T2) (Kr : T0) := QX (D2 Kn) (D0 Kr) noX
abbrev n1 (Kn Kr : T0) (h : H) : Prop :=
  newx h ⟨[(.int .i64 x1_0), (S x1_1), (.slice x1_2b x1_2n x1_2c)]⟩ 39 fun a78 h79 => n2 x0b x0n x0c a78 Kn Kr h79
variable {g} {h : H} {p : Prop}
variable {x0b x0n x0c x1_0 x1_1 x1_2b x1_2n x1_2c x3 x4b x4n x4c x5 x6 x7 x9b x9n x9c x10 x48}
theorem D7_mk {K : T7} (hg : E7 g x0b x0n x0c x3 x5 x6 x9b x9n x9c x10) (hk : K x0b x0n x0c x3 x5 x6 x9b x9n x9c x10 h) : D7 K g h := by
  obtain ⟨e0, e3, e5, e6, e9, e10, d⟩ := hg
  unfold D7
  rw [e0, e3, e5, e6, e9, e10, d]
  exact hk
theorem D9_mk {K : T9} (hg : E9 g x0b x0n x0c x3 x5 x6 x7) (hk : K x0b x0n x0c x3 x5 x6 x7 h) : D9 K g h := by
  obtain ⟨e0, e3, e5, e6, e7, d⟩ := hg
  unfold D9
  rw [e0, e3, e5, e6, e7, d]
  exact hk
theorem D0_el {K : T0} (hq : D0 K g h) (f : ∀ {x4b x4n x4c}, E0 g x4b x4n x4c → K x4b x4n x4c h → p) : p := nilDs_el hq fun d q => vSlice_el q fun _ _ _ e4 q => f ⟨e4, d⟩ q
theorem D1_el {K : T1} (hq : D1 K g h) (f : ∀ {x0b x0n x0c x1_0 x1_1 x1_2b x1_2n x1_2c}, E1 g x0b x0n x0c x1_0 x1_1 x1_2b x1_2n x1_2c → K x0b x0n x0c x1_0 x1_1 x1_2b x1_2n x1_2c h → p) : p := by
  obtain ⟨d, q0⟩ := nilDs_ok hq
  obtain ⟨_, _, _, e0, q1⟩ := vSlice_ok q0
  obtain ⟨l, e1, q2⟩ := vAgg_ok q1
  obtain ⟨_, l, rfl, q3⟩ := uncI q2
  obtain ⟨_, l, rfl, q4⟩ := uncS q3
  obtain ⟨_, _, _, l, rfl, q5⟩ := uncL q4
  obtain ⟨rfl, q6⟩ := unnil_ok q5
  exact f ⟨e0, e1, d⟩ q6
theorem D2_el {K : T2} (hq : D2 K g h) (f : ∀ {x0b x0n x0c x3}, E2 g x0b x0n x0c x3 → K x0b x0n x0c x3 h → p) : p := nilDs_el hq fun d q => vSlice_el q fun _ _ _ e0 q => vAddr_el q fun _ e3 q => f ⟨e0, e3, d⟩ q
theorem D3_el {K : T3} (hq : D3 K g h) (f : ∀ {x0b x0n x0c x3 x5}, E3 g x0b x0n x0c x3 x5 → K x0b x0n x0c x3 x5 h → p) : p := nilDs_el hq fun d q => vSlice_el q fun _ _ _ e0 q => vAddr_el q fun _ e3 q => vInt_el q fun _ e5 q => f ⟨e0, e3, e5, d⟩ q
theorem D4_el {K : T4} (hq : D4 K g h) (f : ∀ {x0b x0n x0c x3 x5 x6}, E4 g x0b x0n x0c x3 x5 x6 → K x0b x0n x0c x3 x5 x6 h → p) : p := nilDs_el hq fun d q => vSlice_el q fun _ _ _ e0 q => vAddr_el q fun _ e3 q => vInt_el q fun _ e5 q => vInt_el q fun _ e6 q => f ⟨e0, e3, e5, e6, d⟩ q
theorem D5_el {K : T5} (hq : D5 K g h) (f : ∀ {x0b x0n x0c x3 x5 x6 x9b x9n x9c}, E5 g x0b x0n x0c x3 x5 x6 x9b x9n x9c → K x0b x0n x0c x3 x5 x6 x9b x9n x9c h → p) : p := nilDs_el hq fun d q => vSlice_el q fun _ _ _ e0 q => vAddr_el q fun _ e3 q => vInt_el q fun _ e5 q => vInt_el q fun _ e6 q => vSlice_el q fun _ _ _ e9 q => f ⟨e0, e3, e5, e6, e9, d⟩ q
theorem D6_el {K : T6} (hq : D6 K g h) (f : ∀ {x3 x9b x9n x9c}, E6 g x3 x9b x9n x9c → K x3 x9b x9n x9c h → p) : p := nilDs_el hq fun d q => vAddr_el q fun _ e3 q => vSlice_el q fun _ _ _ e9 q => f ⟨e3, e9, d⟩ q
theorem n7_ok {Kn Kr : T0} (hg : E6 g x3 x9b x9n x9c) (hS : n7 x3 x9b x9n x9c Kn Kr h) : W c12 (Q0 Kn Kr) g h :=
  leafN (by kernel_rfl) (by kernel_rfl) hg hS (by kernel_rfl)
theorem D7_el {K : T7} (hq : D7 K g h) (f : ∀ {x0b x0n x0c x3 x5 x6 x9b x9n x9c x10}, E7 g x0b x0n x0c x3 x5 x6 x9b x9n x9c x10 → K x0b x0n x0c x3 x5 x6 x9b x9n x9c x10 h → p) : p := nilDs_el hq fun d q => vSlice_el q fun _ _ _ e0 q => vAddr_el q fun _ e3 q => vInt_el q fun _ e5 q => vInt_el q fun _ e6 q => vSlice_el q fun _ _ _ e9 q => vInt_el q fun _ e10 q => f ⟨e0, e3, e5, e6, e9, e10, d⟩ q
theorem n13_ok {Kn : T7} {Ke2 : T6} {Kr : T0} (hg : E7 g x0b x0n x0c x3 x5 x6 x9b x9n x9c x10) (hS : n13 x0b x0n x0c x3 x5 x6 x9b x9n x9c x10 Kn Ke2 Kr h) : W c20 (Q3 Kn Ke2 Kr) g h :=
  leafN (by kernel_rfl) (by kernel_rfl) hg hS (by kernel_rfl)
theorem D8_el {K : T8} (hq : D8 K g h) (f : ∀ {x0b x0n x0c x3 x5 x6 x9b x9n x9c x10 x48}, E8 g x0b x0n x0c x3 x5 x6 x9b x9n x9c x10 x48 → K x0b x0n x0c x3 x5 x6 x9b x9n x9c x10 x48 h → p) : p := nilDs_el hq fun d q => vSlice_el q fun _ _ _ e0 q => vAddr_el q fun _ e3 q => vInt_el q fun _ e5 q => vInt_el q fun _ e6 q => vSlice_el q fun _ _ _ e9 q => vInt_el q fun _ e10 q => vBool_el q fun _ e48 q => f ⟨e0, e3, e5, e6, e9, e10, e48, d⟩ q
theorem n16_ok {Kn Ke3 : T7} {Ke2 : T6} {Kr : T0} (hg : E8 g x0b x0n x0c x3 x5 x6 x9b x9n x9c x10 x48) (hS : n16 x0b x0n x0c x3 x5 x6 x9b x9n x9c x10 x48 Kn Ke3 Ke2 Kr h) : W c23 (Q4 Kn Ke3 Ke2 Kr) g h :=
  leafN (by kernel_rfl) (by kernel_rfl) hg hS (by kernel_rfl)
theorem n15_ok {Kn Ke3 : T7} {Ke2 : T6} {Kr : T0} (hg : E7 g x0b x0n x0c x3 x5 x6 x9b x9n x9c x10) (hS : n15 x0b x0n x0c x3 x5 x6 x9b x9n x9c x10 Kn Ke3 Ke2 Kr h) : W c21 (Q4 Kn Ke3 Ke2 Kr) g h :=
  seqN (x := c22) (N' := D8 (fun z0b z0n z0c z3 z5 z6 z9b z9n z9c z10 z48 h => n16 z0b z0n z0c z3 z5 z6 z9b z9n z9c z10 z48 Kn Ke3 Ke2 Kr h)) (by kernel_rfl) (leafN (by kernel_rfl) (by kernel_rfl) hg hS (by kernel_rfl)) fun hq => D8_el hq n16_ok
theorem n14_ok {Kn : T7} {Ke2 : T6} {Kr : T0} (hg : E7 g x0b x0n x0c x3 x5 x6 x9b x9n x9c x10) (hS : n14 x0b x0n x0c x3 x5 x6 x9b x9n x9c x10 Kn Ke2 Kr h) : W c19 (Q3 Kn Ke2 Kr) g h := blockN (by kernel_rfl) (n15_ok hg hS)
theorem n12_ok {Kn : T7} {Ke2 : T6} {Kr : T0} (hg : E7 g x0b x0n x0c x3 x5 x6 x9b x9n x9c x10) (hS : n12 x0b x0n x0c x3 x5 x6 x9b x9n x9c x10 Kn Ke2 Kr h) : W c18 (Q3 Kn Ke2 Kr) g h :=
  seqN (by kernel_rfl) (n14_ok hg hS) fun hq => D7_el hq n13_ok
theorem n11_ok {Kn : T7} {Ke2 : T6} {Kr : T0} (hg : E7 g x0b x0n x0c x3 x5 x6 x9b x9n x9c x10) (hS : n11 x0b x0n x0c x3 x5 x6 x9b x9n x9c x10 Kn Ke2 Kr h) : W c16 (Q3 Kn Ke2 Kr) g h :=
  seqN (x := c17) (N' := D7 (fun z0b z0n z0c z3 z5 z6 z9b z9n z9c z10 h => n12 z0b z0n z0c z3 z5 z6 z9b z9n z9c z10 Kn Ke2 Kr h)) (by kernel_rfl) (leafN (by kernel_rfl) (by kernel_rfl) hg hS (by kernel_rfl)) fun hq => D7_el hq n12_ok
theorem n10_ok {Kn Ke2 : T6} {Kr : T0} (hg : E7 g x0b x0n x0c x3 x5 x6 x9b x9n x9c x10) (hS : n10 x0b x0n x0c x3 x5 x6 x9b x9n x9c x10 Kn Ke2 Kr h) : W c15 (Q2 Kn Ke2 Kr) g h :=
  let ⟨N, hS⟩ := hS
  loopN (x := c16) (I := fun N => D7 (n10_L Kn Ke2 Kr N)) (by kernel_rfl) (fun hq => D7_el hq fun _ hq => hq) (fun hq => D7_el hq fun hg hq => n11_ok hg hq) N (D7_mk hg hS)
theorem n9_ok {Kn : T6} {Kr : T0} (hg : E7 g x0b x0n x0c x3 x5 x6 x9b x9n x9c x10) (hS : n9 x0b x0n x0c x3 x5 x6 x9b x9n x9c x10 Kn Kr h) : W c14 (Q1 Kn Kr) g h := blockN (by kernel_rfl) (n10_ok hg hS)
theorem n8_ok {Kn : T6} {Kr : T0} (hg : E5 g x0b x0n x0c x3 x5 x6 x9b x9n x9c) (hS : n8 x0b x0n x0c x3 x5 x6 x9b x9n x9c Kn Kr h) : W c11 (Q1 Kn Kr) g h :=
  seqN (x := c13) (N' := D7 (fun z0b z0n z0c z3 z5 z6 z9b z9n z9c z10 h => n9 z0b z0n z0c z3 z5 z6 z9b z9n z9c z10 Kn Kr h)) (by kernel_rfl) (leafN (by kernel_rfl) (by kernel_rfl) hg hS (by kernel_rfl)) fun hq => D7_el hq n9_ok
theorem n6_ok {Kn Kr : T0} (hg : E5 g x0b x0n x0c x3 x5 x6 x9b x9n x9c) (hS : n6 x0b x0n x0c x3 x5 x6 x9b x9n x9c Kn Kr h) : W c10 (Q0 Kn Kr) g h :=
  seqN (by kernel_rfl) (n8_ok hg hS) fun hq => D6_el hq n7_ok
theorem n5_ok {Kn Kr : T0} (hg : E4 g x0b x0n x0c x3 x5 x6) (hS : n5 x0b x0n x0c x3 x5 x6 Kn Kr h) : W c8 (Q0 Kn Kr) g h :=
  seqN (x := c9) (N' := D5 (fun z0b z0n z0c z3 z5 z6 z9b z9n z9c h => n6 z0b z0n z0c z3 z5 z6 z9b z9n z9c Kn Kr h)) (by kernel_rfl) (leafN (by kernel_rfl) (by kernel_rfl) hg hS (by kernel_rfl)) fun hq => D5_el hq n6_ok
theorem D9_el {K : T9} (hq : D9 K g h) (f : ∀ {x0b x0n x0c x3 x5 x6 x7}, E9 g x0b x0n x0c x3 x5 x6 x7 → K x0b x0n x0c x3 x5 x6 x7 h → p) : p := nilDs_el hq fun d q => vSlice_el q fun _ _ _ e0 q => vAddr_el q fun _ e3 q => vInt_el q fun _ e5 q => vInt_el q fun _ e6 q => vInt_el q fun _ e7 q => f ⟨e0, e3, e5, e6, e7, d⟩ q
theorem n22_ok {Kn : T9} {Ke0 : T4} {Kr : T0} (hg : E9 g x0b x0n x0c x3 x5 x6 x7) (hS : n22 x0b x0n x0c x3 x5 x6 x7 Kn Ke0 Kr h) : W c31 (Q10 Kn Ke0 Kr) g h :=
  leafN (by kernel_rfl) (by kernel_rfl) hg hS (by kernel_rfl)
theorem n21_ok {Kn : T9} {Ke0 : T4} {Kr : T0} (hg : E9 g x0b x0n x0c x3 x5 x6 x7) (hS : n21 x0b x0n x0c x3 x5 x6 x7 Kn Ke0 Kr h) : W c29 (Q10 Kn Ke0 Kr) g h :=
  seqN (x := c30) (N' := D9 (fun z0b z0n z0c z3 z5 z6 z7 h => n22 z0b z0n z0c z3 z5 z6 z7 Kn Ke0 Kr h)) (by kernel_rfl) (leafN (by kernel_rfl) (by kernel_rfl) hg hS (by kernel_rfl)) fun hq => D9_el hq n22_ok
theorem n20_ok {Kn : T9} {Ke0 : T4} {Kr : T0} (hg : E9 g x0b x0n x0c x3 x5 x6 x7) (hS : n20 x0b x0n x0c x3 x5 x6 x7 Kn Ke0 Kr h) : W c27 (Q10 Kn Ke0 Kr) g h :=
  seqN (x := c28) (N' := D9 (fun z0b z0n z0c z3 z5 z6 z7 h => n21 z0b z0n z0c z3 z5 z6 z7 Kn Ke0 Kr h)) (by kernel_rfl) (leafN (by kernel_rfl) (by kernel_rfl) hg hS (by kernel_rfl)) fun hq => D9_el hq n21_ok
theorem n19_ok {Kn Ke0 : T4} {Kr : T0} (hg : E9 g x0b x0n x0c x3 x5 x6 x7) (hS : n19 x0b x0n x0c x3 x5 x6 x7 Kn Ke0 Kr h) : W c26 (Q9 Kn Ke0 Kr) g h :=
  let ⟨N, hS⟩ := hS
  loopN (x := c27) (I := fun N => D9 (n19_L Kn Ke0 Kr N)) (by kernel_rfl) (fun hq => D9_el hq fun _ hq => hq) (fun hq => D9_el hq fun hg hq => n20_ok hg hq) N (D9_mk hg hS)
theorem n18_ok {Kn : T4} {Kr : T0} (hg : E9 g x0b x0n x0c x3 x5 x6 x7) (hS : n18 x0b x0n x0c x3 x5 x6 x7 Kn Kr h) : W c25 (Q8 Kn Kr) g h := blockN (by kernel_rfl) (n19_ok hg hS)
theorem n17_ok {Kn : T4} {Kr : T0} (hg : E4 g x0b x0n x0c x3 x5 x6) (hS : n17 x0b x0n x0c x3 x5 x6 Kn Kr h) : W c7 (Q8 Kn Kr) g h :=
  seqN (x := c24) (N' := D9 (fun z0b z0n z0c z3 z5 z6 z7 h => n18 z0b z0n z0c z3 z5 z6 z7 Kn Kr h)) (by kernel_rfl) (leafN (by kernel_rfl) (by kernel_rfl) hg hS (by kernel_rfl)) fun hq => D9_el hq n18_ok
theorem n4_ok {Kn Kr : T0} (hg : E4 g x0b x0n x0c x3 x5 x6) (hS : n4 x0b x0n x0c x3 x5 x6 Kn Kr h) : W c6 (Q0 Kn Kr) g h :=
  seqN (by kernel_rfl) (n17_ok hg hS) fun hq => D4_el hq n5_ok
theorem n3_ok {Kn Kr : T0} (hg : E3 g x0b x0n x0c x3 x5) (hS : n3 x0b x0n x0c x3 x5 Kn Kr h) : W c4 (Q0 Kn Kr) g h :=
  seqN (x := c5) (N' := D4 (fun z0b z0n z0c z3 z5 z6 h => n4 z0b z0n z0c z3 z5 z6 Kn Kr h)) (by kernel_rfl) (leafN (by kernel_rfl) (by kernel_rfl) hg hS (by kernel_rfl)) fun hq => D4_el hq n4_ok
theorem n2_ok {Kn Kr : T0} (hg : E2 g x0b x0n x0c x3) (hS : n2 x0b x0n x0c x3 Kn Kr h) : W c2 (Q0 Kn Kr) g h :=
  seqN (x := c3) (N' := D3 (fun z0b z0n z0c z3 z5 h => n3 z0b z0n z0c z3 z5 Kn Kr h)) (by kernel_rfl) (leafN (by kernel_rfl) (by kernel_rfl) hg hS (by kernel_rfl)) fun hq => D3_el hq n3_ok
theorem n1_ok {Kn Kr : T0} (hg : E1 g x0b x0n x0c x1_0 x1_1 x1_2b x1_2n x1_2c) (hS : n1 x0b x0n x0c x1_0 x1_1 x1_2b x1_2n x1_2c Kn Kr h) : W code (Q0 Kn Kr) g h :=
  seqN (x := c1) (N' := D2 (fun z0b z0n z0c z3 h => n2 z0b z0n z0c z3 Kn Kr h)) (by kernel_rfl) (leafN (by kernel_rfl) (by kernel_rfl) hg hS (by kernel_rfl)) fun hq => D2_el hq n2_ok
/-- WHAT tympan/tympanref12.Push ASKS -/
abbrev asks (x0b : Option Addr) (x0n : Nat) (x0c : Nat) (x1_0 : Int) (x1_1 : List UInt8) (x1_2b : Option Addr) (x1_2n : Nat) (x1_2c : Nat) (K : Value → H → Prop) (h : H) : Prop := n1 x0b x0n x0c x1_0 x1_1 x1_2b x1_2n x1_2c (fun y4b y4n y4c h => K (.slice y4b y4n y4c) h) (fun y4b y4n y4c h => K (.slice y4b y4n y4c) h) h
theorem ok (x0b : Option Addr) (x0n : Nat) (x0c : Nat) (x1_0 : Int) (x1_1 : List UInt8) (x1_2b : Option Addr) (x1_2n : Nat) (x1_2c : Nat) (K : Value → H → Prop) (h : H) (hS : asks x0b x0n x0c x1_0 x1_1 x1_2b x1_2n x1_2c K h) : HCalls Tryz.prog 11 ⟨[(.slice x0b x0n x0c), (.agg ⟨[(.int .i64 x1_0), (S x1_1), (.slice x1_2b x1_2n x1_2c)]⟩)]⟩ h K :=
  callsN (c := code) Tryz.func11 (by kernel_rfl) (by kernel_rfl) (n1_ok ⟨rfl, rfl, rfl⟩ hS) fun hq => D0_el hq fun hg hq => retN hg hq (by kernel_rfl)
end Sx.r12_Push

/-! ### tympan/marks.Lost -/
namespace Sx.marks_Lost
noncomputable def code : Code := bodyOf Tryz.f40
abbrev T0 := Addr → (List Deferred) → H → Prop
def E0 (g : Env) (x4 : Addr) (ds : List Deferred) : Prop := g.v 4 = (.pointer (some x4)) ∧ g.ds = ds
def D0 (K : T0) (g : Env) (h : H) : Prop := vAddr (g.v 4) fun a1 => K a1 g.ds h
theorem D0_ok {K : T0} {g : Env} {h : H} (hq : D0 K g h) : ∃ (x4 : Addr) (ds : List Deferred), E0 g x4 ds ∧ K x4 ds h := by
  obtain ⟨y3, e2, q4⟩ := vAddr_ok hq
  exact ⟨y3, g.ds, ⟨e2, rfl⟩, q4⟩
theorem D0_mk {K : T0} {g : Env} {h : H} {x4 : Addr} {ds : List Deferred} (hg : E0 g x4 ds) (hk : K x4 ds h) : D0 K g h := by
  obtain ⟨hg4, hds⟩ := hg
  unfold D0
  rw [hg4, hds]
  exact hk
def Q0 (Kn : T0) (Kr : T0) : XPost
  | .normal, g, h => D0 Kn g h
  | .ret, g, h => D0 Kr g h
  | _, _, _ => False
abbrev T1 := (Option Addr) → Nat → Nat → (Option Addr) → Nat → Nat → (List Deferred) → H → Prop
def E1 (g : Env) (x0b : Option Addr) (x0n : Nat) (x0c : Nat) (x1b : Option Addr) (x1n : Nat) (x1c : Nat) (ds : List Deferred) : Prop := g.v 0 = (.slice x0b x0n x0c) ∧ g.v 1 = (.slice x1b x1n x1c) ∧ g.ds = ds
def D1 (K : T1) (g : Env) (h : H) : Prop := vSlice (g.v 0) fun s5b s5n s5c => vSlice (g.v 1) fun s6b s6n s6c => K s5b s5n s5c s6b s6n s6c g.ds h
theorem D1_ok {K : T1} {g : Env} {h : H} (hq : D1 K g h) : ∃ (x0b : Option Addr) (x0n : Nat) (x0c : Nat) (x1b : Option Addr) (x1n : Nat) (x1c : Nat) (ds : List Deferred), E1 g x0b x0n x0c x1b x1n x1c ds ∧ K x0b x0n x0c x1b x1n x1c ds h := by
  obtain ⟨y8b, y8n, y8c, e7, q9⟩ := vSlice_ok hq
  obtain ⟨y11b, y11n, y11c, e10, q12⟩ := vSlice_ok q9
  exact ⟨y8b, y8n, y8c, y11b, y11n, y11c, g.ds, ⟨e7, e10, rfl⟩, q12⟩
theorem D1_mk {K : T1} {g : Env} {h : H} {x0b : Option Addr} {x0n : Nat} {x0c : Nat} {x1b : Option Addr} {x1n : Nat} {x1c : Nat} {ds : List Deferred} (hg : E1 g x0b x0n x0c x1b x1n x1c ds) (hk : K x0b x0n x0c x1b x1n x1c ds h) : D1 K g h := by
  obtain ⟨hg0, hg1, hds⟩ := hg
  unfold D1
  rw [hg0, hg1, hds]
  exact hk
noncomputable def n1_c1 : Code := cFst code
noncomputable def n1_c2 : Code := cSnd code
abbrev T2 := (Option Addr) → Nat → Nat → Addr → Addr → (List Deferred) → H → Prop
def E2 (g : Env) (x0b : Option Addr) (x0n : Nat) (x0c : Nat) (x3 : Addr) (x4 : Addr) (ds : List Deferred) : Prop := g.v 0 = (.slice x0b x0n x0c) ∧ g.v 3 = (.pointer (some x3)) ∧ g.v 4 = (.pointer (some x4)) ∧ g.ds = ds
def D2 (K : T2) (g : Env) (h : H) : Prop := vSlice (g.v 0) fun s13b s13n s13c => vAddr (g.v 3) fun a14 => vAddr (g.v 4) fun a15 => K s13b s13n s13c a14 a15 g.ds h
theorem D2_ok {K : T2} {g : Env} {h : H} (hq : D2 K g h) : ∃ (x0b : Option Addr) (x0n : Nat) (x0c : Nat) (x3 : Addr) (x4 : Addr) (ds : List Deferred), E2 g x0b x0n x0c x3 x4 ds ∧ K x0b x0n x0c x3 x4 ds h := by
  obtain ⟨y17b, y17n, y17c, e16, q18⟩ := vSlice_ok hq
  obtain ⟨y20, e19, q21⟩ := vAddr_ok q18
  obtain ⟨y23, e22, q24⟩ := vAddr_ok q21
  exact ⟨y17b, y17n, y17c, y20, y23, g.ds, ⟨e16, e19, e22, rfl⟩, q24⟩
theorem D2_mk {K : T2} {g : Env} {h : H} {x0b : Option Addr} {x0n : Nat} {x0c : Nat} {x3 : Addr} {x4 : Addr} {ds : List Deferred} (hg : E2 g x0b x0n x0c x3 x4 ds) (hk : K x0b x0n x0c x3 x4 ds h) : D2 K g h := by
  obtain ⟨hg0, hg3, hg4, hds⟩ := hg
  unfold D2
  rw [hg0, hg3, hg4, hds]
  exact hk
noncomputable def n2_c1 : Code := cFst n1_c2
noncomputable def n2_c2 : Code := cSnd n1_c2
abbrev n3 (x4 : Addr) (ds : List Deferred) (Kn : T0) (Kr : T0) (h : H) : Prop :=
  stL x4 [(.int .i64 (0 : Int))] 0 h fun h25 => Kr x4 ds h25
theorem n3_ok (x4 : Addr) (ds : List Deferred) (Kn : T0) (Kr : T0) (g : Env) (hg : E0 g x4 ds) (h : H) (hS : n3 x4 ds Kn Kr h) : wpC none Tryz.prog 21 n2_c2 (Q0 Kn Kr) g h := by
  obtain ⟨hg4, hds⟩ := hg
  refine wpC_of_wpx (by kernel_rfl) (by kernel_rfl) (g' := (⟨g.v, ds⟩ : Env).upd (some 4) (.pointer (some x4))) (by rw [env_ds hds, upd_self hg4]) ?_
  have e : (n3 x4 ds Kn Kr h) = wpx none Tryz.prog 21 n2_c2 (Q0 Kn Kr) ((⟨g.v, ds⟩ : Env).upd (some 4) (.pointer (some x4))) h := by kernel_rfl
  exact e ▸ hS
noncomputable def n4_c1 : Code := cFst n2_c1
noncomputable def n4_c2 : Code := cSnd n2_c1
abbrev T3 := Addr → Addr → Value → (List Deferred) → H → Prop
def E3 (g : Env) (x3 : Addr) (x4 : Addr) (x8 : Value) (ds : List Deferred) : Prop := g.v 3 = (.pointer (some x3)) ∧ g.v 4 = (.pointer (some x4)) ∧ g.v 8 = x8 ∧ g.ds = ds
def D3 (K : T3) (g : Env) (h : H) : Prop := vAddr (g.v 3) fun a26 => vAddr (g.v 4) fun a27 => K a26 a27 (g.v 8) g.ds h
theorem D3_ok {K : T3} {g : Env} {h : H} (hq : D3 K g h) : ∃ (x3 : Addr) (x4 : Addr) (x8 : Value) (ds : List Deferred), E3 g x3 x4 x8 ds ∧ K x3 x4 x8 ds h := by
  obtain ⟨y29, e28, q30⟩ := vAddr_ok hq
  obtain ⟨y32, e31, q33⟩ := vAddr_ok q30
  exact ⟨y29, y32, (g.v 8), g.ds, ⟨e28, e31, rfl, rfl⟩, q33⟩
theorem D3_mk {K : T3} {g : Env} {h : H} {x3 : Addr} {x4 : Addr} {x8 : Value} {ds : List Deferred} (hg : E3 g x3 x4 x8 ds) (hk : K x3 x4 x8 ds h) : D3 K g h := by
  obtain ⟨hg3, hg4, hg8, hds⟩ := hg
  unfold D3
  rw [hg3, hg4, hg8, hds]
  exact hk
noncomputable def n5_c1 : Code := cFst n4_c2
def Q1 (Kn : T0) (Ke0 : T0) (Kr : T0) : XPost
  | .normal, g, h => D0 Kn g h
  | .ret, g, h => D0 Kr g h
  | .exit id, g, h => cond (Nat.beq id 0) (D0 Ke0 g h) (False)
  | _, _, _ => False
noncomputable def n6_c1 : Code := cFst n5_c1
noncomputable def n6_c2 : Code := cSnd n5_c1
def n6_rd (x3 : Addr) (x4 : Addr) (x8 : Value) (ds : List Deferred) (Kn : T0) (Ke0 : T0) (Kr : T0) (h : H) (p9 : Int) (p10_0 : Int) (p10_1 : List UInt8) (p10_2b : Option Addr) (p10_2n : Nat) (p10_2c : Nat) (Mid : H → (H → Prop) → Prop) (Kc : H → H → Prop) (Fin : H → H → (H → Prop) → Prop) (h1 : H) : Prop :=
  newx h1 ⟨[(.int .i64 (0 : Int)), (S ([] : List UInt8)), (.slice none 0 0)]⟩ 39 fun a34 h35 => stL a34 [(.int .i64 p10_0), (S p10_1), (.slice p10_2b p10_2n p10_2c)] 0 h35 fun h36 => Mid h36 fun hb37 => ∃ i38, cell hb37 (a34.add 0) = some (.int .i64 i38) ∧ (Spl (i38 < (0 : Int)) (Rng .i64 (p9 + (1 : Int)) ∧ (stL x4 [(.int .i64 (p9 + (1 : Int)))] 0 hb37 fun h39 => Fin hb37 h39 fun h40 => Kr x4 (markD h.size :: ds) h40)) (∃ s41b s41n s41c, cell hb37 x3 = some (.slice s41b s41n s41c) ∧ (HCalls Tryz.prog 73 ⟨[(.slice s41b s41n s41c), (.func (.func 74) ⟨[]⟩ ⟨[(.pointer (some a34))]⟩)]⟩ hb37 fun v42 h43 => vBool v42 fun b44 => cond b44 (Rng .i64 (p9 + (1 : Int)) ∧ (stL x4 [(.int .i64 (p9 + (1 : Int)))] 0 h43 fun h45 => Fin hb37 h45 fun h46 => Kr x4 (markD h.size :: ds) h46)) (Kc hb37 h43))))
abbrev n6 (x3 : Addr) (x4 : Addr) (x8 : Value) (ds : List Deferred) (Kn : T0) (Ke0 : T0) (Kr : T0) (h : H) : Prop := Ranges Tryz.prog x8 2 h (fun l47 Mid Kc Fin h1 => uncons l47 fun e48 l49 => vInt .i64 e48 fun i50 => uncons l49 fun e51 l52 => vAgg e51 fun l53 => uncons l53 fun e54 l55 => vInt .i64 e54 fun i56 => uncons l55 fun e57 l58 => vStr e57 fun s59 => uncons l58 fun e60 l61 => vSlice e60 fun s62b s62n s62c => unnil l61 (unnil l52 (n6_rd x3 x4 x8 ds Kn Ke0 Kr h i50 i56 s59 s62b s62n s62c Mid Kc Fin h1))) (fun h4 => Kn x4 (markD h.size :: ds) h4)
theorem n6_ok (x3 : Addr) (x4 : Addr) (x8 : Value) (ds : List Deferred) (Kn : T0) (Ke0 : T0) (Kr : T0) (g : Env) (hg : E3 g x3 x4 x8 ds) (h : H) (hS : n6 x3 x4 x8 ds Kn Ke0 Kr h) : wpC none Tryz.prog 21 n5_c1 (Q1 Kn Ke0 Kr) g h := by
  obtain ⟨hg3, hg4, hg8, hds⟩ := hg
  subst hds
  have ho : ((((⟨g.v, g.ds⟩ : Env).upd (some 3) (.pointer (some x3))).upd (some 4) (.pointer (some x4))).upd (some 8) x8 : Env) = g := by rw [env_ds rfl, upd_self hg3, upd_self hg4, upd_self hg8]
  have hc : n5_c1 = .rangeFunc (.tmp 8) #[9, 10] n6_c1 n6_c2 := by kernel_rfl
  rw [hc]
  refine wpC_range (f := x8) (rd := (fun l47 Mid Kc Fin h1 => uncons l47 fun e48 l49 => vInt .i64 e48 fun i50 => uncons l49 fun e51 l52 => vAgg e51 fun l53 => uncons l53 fun e54 l55 => vInt .i64 e54 fun i56 => uncons l55 fun e57 l58 => vStr e57 fun s59 => uncons l58 fun e60 l61 => vSlice e60 fun s62b s62n s62c => unnil l61 (unnil l52 (n6_rd x3 x4 x8 g.ds Kn Ke0 Kr h i50 i56 s59 s62b s62n s62c Mid Kc Fin h1)))) (done := (fun h4 => Kn x4 (markD h.size :: g.ds) h4)) ?_ hS ?_ ?_
  · rw [← ho]; kernel_rfl
  · intro h4 hd
    have e : (Kn x4 (markD h.size :: g.ds) h4) = (Q1 Kn Ke0 Kr) .normal ⟨((((⟨g.v, g.ds⟩ : Env).upd (some 3) (.pointer (some x3))).upd (some 4) (.pointer (some x4))).upd (some 8) x8).v, markD h.size :: g.ds⟩ h4 := by kernel_rfl
    rw [ho] at e
    exact e ▸ hd
  · intro L x Mid Kc Fin h1 hM hx
    obtain ⟨u63, l64, rfl, q65⟩ := uncons_ok hx
    obtain ⟨y66, rfl, q67⟩ := vInt_ok q65
    obtain ⟨u68, l69, rfl, q70⟩ := uncons_ok q67
    obtain ⟨l71, rfl, q72⟩ := vAgg_ok q70
    obtain ⟨u73, l74, rfl, q75⟩ := uncons_ok q72
    obtain ⟨y76, rfl, q77⟩ := vInt_ok q75
    obtain ⟨u78, l79, rfl, q80⟩ := uncons_ok q77
    obtain ⟨y81, rfl, q82⟩ := vStr_ok q80
    obtain ⟨u83, l84, rfl, q85⟩ := uncons_ok q82
    obtain ⟨y86b, y86n, y86c, rfl, q87⟩ := vSlice_ok q85
    obtain ⟨rfl, q88⟩ := unnil_ok q87
    obtain ⟨rfl, q89⟩ := unnil_ok q88
    have e : (n6_rd x3 x4 x8 g.ds Kn Ke0 Kr h y66 y76 y81 y86b y86n y86c Mid Kc Fin h1) = wpx (some L) Tryz.prog 21 n6_c1 (thenX (fun g1 he => Mid he fun hb => wpx (some L) Tryz.prog 21 n6_c2 (rpost Kc Fin (Q1 Kn Ke0 Kr) ⟨((((⟨g.v, g.ds⟩ : Env).upd (some 3) (.pointer (some x3))).upd (some 4) (.pointer (some x4))).upd (some 8) x8).v, markD h.size :: g.ds⟩ hb) g1 hb) fun _ _ _ => False) (setps ((((⟨g.v, g.ds⟩ : Env).upd (some 3) (.pointer (some x3))).upd (some 4) (.pointer (some x4))).upd (some 8) x8) [9, 10] [(.int .i64 y66), (.agg ⟨[(.int .i64 y76), (S y81), (.slice y86b y86n y86c)]⟩)]) h1 := by kernel_rfl
    rw [ho] at e
    exact (wpx_ok (by kernel_rfl) _ _ _ _ (by kernel_rfl) (e ▸ q89)).mono (thenX_mono fun g1 he hm => hM he _ _ (fun hb => wpx_ok (by kernel_rfl) _ _ _ _ (by kernel_rfl)) hm)
abbrev n5 (x3 : Addr) (x4 : Addr) (x8 : Value) (ds : List Deferred) (Kn : T0) (Kr : T0) (h : H) : Prop := n6 x3 x4 x8 ds Kn Kn Kr h
theorem n5_ok (x3 : Addr) (x4 : Addr) (x8 : Value) (ds : List Deferred) (Kn : T0) (Kr : T0) (g : Env) (hg : E3 g x3 x4 x8 ds) (h : H) (hS : n5 x3 x4 x8 ds Kn Kr h) : wpC none Tryz.prog 21 n4_c2 (Q0 Kn Kr) g h := by
  refine wpC_block' (id := 0) (x := n5_c1) (by kernel_rfl) (n6_ok x3 x4 x8 ds Kn Kn Kr g hg h hS) ?_
  intro e g' h' hq
  cases e <;> exact hq
def Q2 (Kn : T3) (Kr : T0) : XPost
  | .normal, g, h => D3 Kn g h
  | .ret, g, h => D0 Kr g h
  | _, _, _ => False
abbrev n4 (x0b : Option Addr) (x0n : Nat) (x0c : Nat) (x3 : Addr) (x4 : Addr) (ds : List Deferred) (Kn : T0) (Kr : T0) (h : H) : Prop :=
  HCalls Tryz.prog 72 ⟨[(.slice x0b x0n x0c)]⟩ h fun v90 h91 => n5 x3 x4 v90 ds Kn Kr h91
theorem n4_ok (x0b : Option Addr) (x0n : Nat) (x0c : Nat) (x3 : Addr) (x4 : Addr) (ds : List Deferred) (Kn : T0) (Kr : T0) (g : Env) (hg : E2 g x0b x0n x0c x3 x4 ds) (h : H) (hS : n4 x0b x0n x0c x3 x4 ds Kn Kr h) : wpC none Tryz.prog 21 n2_c1 (Q0 Kn Kr) g h := by
  obtain ⟨hg0, hg3, hg4, hds⟩ := hg
  refine wpC_seq' (x := n4_c1) (y := n4_c2) (Q' := (Q2 (fun z3 z4 z8 zds h => n5 z3 z4 z8 zds Kn Kr h) Kr)) (by kernel_rfl) ?_ ?_
  · refine wpC_of_wpx (by kernel_rfl) (by kernel_rfl) (g' := (((⟨g.v, ds⟩ : Env).upd (some 0) (.slice x0b x0n x0c)).upd (some 3) (.pointer (some x3))).upd (some 4) (.pointer (some x4))) (by rw [env_ds hds, upd_self hg0, upd_self hg3, upd_self hg4]) ?_
    have e : (n4 x0b x0n x0c x3 x4 ds Kn Kr h) = wpx none Tryz.prog 21 n4_c1 (Q2 (fun z3 z4 z8 zds h => n5 z3 z4 z8 zds Kn Kr h) Kr) ((((⟨g.v, ds⟩ : Env).upd (some 0) (.slice x0b x0n x0c)).upd (some 3) (.pointer (some x3))).upd (some 4) (.pointer (some x4))) h := by kernel_rfl
    exact e ▸ hS
  · intro e g' h' hq
    cases e with
    | normal =>
      have hq : D3 (fun z3 z4 z8 zds h => n5 z3 z4 z8 zds Kn Kr h) g' h' := hq
      obtain ⟨y3, y4, y8, yds, hg', hq⟩ := D3_ok hq
      exact n5_ok y3 y4 y8 yds Kn Kr g' hg' h' hq
    | _ => exact hq
abbrev n2 (x0b : Option Addr) (x0n : Nat) (x0c : Nat) (x3 : Addr) (x4 : Addr) (ds : List Deferred) (Kn : T0) (Kr : T0) (h : H) : Prop := n4 x0b x0n x0c x3 x4 ds (fun z4 zds h => n3 z4 zds Kn Kr h) Kr h
theorem n2_ok (x0b : Option Addr) (x0n : Nat) (x0c : Nat) (x3 : Addr) (x4 : Addr) (ds : List Deferred) (Kn : T0) (Kr : T0) (g : Env) (hg : E2 g x0b x0n x0c x3 x4 ds) (h : H) (hS : n2 x0b x0n x0c x3 x4 ds Kn Kr h) : wpC none Tryz.prog 21 n1_c2 (Q0 Kn Kr) g h := by
  refine wpC_seq' (x := n2_c1) (y := n2_c2) (by kernel_rfl) (n4_ok x0b x0n x0c x3 x4 ds (fun z4 zds h => n3 z4 zds Kn Kr h) Kr g hg h hS) ?_
  intro e g' h' hq
  cases e with
  | normal =>
    have hq : D0 (fun z4 zds h => n3 z4 zds Kn Kr h) g' h' := hq
    obtain ⟨y4, yds, hg', hq⟩ := D0_ok hq
    exact n3_ok y4 yds Kn Kr g' hg' h' hq
  | _ => exact hq
def Q3 (Kn : T2) (Kr : T0) : XPost
  | .normal, g, h => D2 Kn g h
  | .ret, g, h => D0 Kr g h
  | _, _, _ => False
abbrev n1 (x0b : Option Addr) (x0n : Nat) (x0c : Nat) (x1b : Option Addr) (x1n : Nat) (x1c : Nat) (ds : List Deferred) (Kn : T0) (Kr : T0) (h : H) : Prop :=
  newx h #[(.slice x1b x1n x1c)] 43 fun a92 h93 => newx h93 #[(.int .i64 (0 : Int))] 3 fun a94 h95 => n2 x0b x0n x0c a92 a94 ds Kn Kr h95
theorem n1_ok (x0b : Option Addr) (x0n : Nat) (x0c : Nat) (x1b : Option Addr) (x1n : Nat) (x1c : Nat) (ds : List Deferred) (Kn : T0) (Kr : T0) (g : Env) (hg : E1 g x0b x0n x0c x1b x1n x1c ds) (h : H) (hS : n1 x0b x0n x0c x1b x1n x1c ds Kn Kr h) : wpC none Tryz.prog 21 code (Q0 Kn Kr) g h := by
  obtain ⟨hg0, hg1, hds⟩ := hg
  refine wpC_seq' (x := n1_c1) (y := n1_c2) (Q' := (Q3 (fun z0b z0n z0c z3 z4 zds h => n2 z0b z0n z0c z3 z4 zds Kn Kr h) Kr)) (by kernel_rfl) ?_ ?_
  · refine wpC_of_wpx (by kernel_rfl) (by kernel_rfl) (g' := ((⟨g.v, ds⟩ : Env).upd (some 0) (.slice x0b x0n x0c)).upd (some 1) (.slice x1b x1n x1c)) (by rw [env_ds hds, upd_self hg0, upd_self hg1]) ?_
    have e : (n1 x0b x0n x0c x1b x1n x1c ds Kn Kr h) = wpx none Tryz.prog 21 n1_c1 (Q3 (fun z0b z0n z0c z3 z4 zds h => n2 z0b z0n z0c z3 z4 zds Kn Kr h) Kr) (((⟨g.v, ds⟩ : Env).upd (some 0) (.slice x0b x0n x0c)).upd (some 1) (.slice x1b x1n x1c)) h := by kernel_rfl
    exact e ▸ hS
  · intro e g' h' hq
    cases e with
    | normal =>
      have hq : D2 (fun z0b z0n z0c z3 z4 zds h => n2 z0b z0n z0c z3 z4 zds Kn Kr h) g' h' := hq
      obtain ⟨y0b, y0n, y0c, y3, y4, yds, hg', hq⟩ := D2_ok hq
      exact n2_ok y0b y0n y0c y3 y4 yds Kn Kr g' hg' h' hq
    | _ => exact hq
/-- WHAT tympan/marks.Lost ASKS -/
abbrev asks (x0b : Option Addr) (x0n : Nat) (x0c : Nat) (x1b : Option Addr) (x1n : Nat) (x1c : Nat) (K : Value → H → Prop) (h : H) : Prop := n1 x0b x0n x0c x1b x1n x1c [] (fun y4 ds h => leaveX ds h fun h => ∃ i96, cell h y4 = some (.int .i64 i96) ∧ (K (.int .i64 i96) h)) (fun y4 ds h => leaveX ds h fun h => ∃ i96, cell h y4 = some (.int .i64 i96) ∧ (K (.int .i64 i96) h)) h
theorem ok (x0b : Option Addr) (x0n : Nat) (x0c : Nat) (x1b : Option Addr) (x1n : Nat) (x1c : Nat) (K : Value → H → Prop) (h : H) (hS : asks x0b x0n x0c x1b x1n x1c K h) : HCalls Tryz.prog 40 ⟨[(.slice x0b x0n x0c), (.slice x1b x1n x1c)]⟩ h K := by
  refine calls_of_wpC (c := code) Tryz.func40 (by kernel_rfl) (Nat.le_of_ble_eq_true (by kernel_rfl)) ?_
  refine (n1_ok x0b x0n x0c x1b x1n x1c [] (fun y4 ds h => leaveX ds h fun h => ∃ i96, cell h y4 = some (.int .i64 i96) ∧ (K (.int .i64 i96) h)) (fun y4 ds h => leaveX ds h fun h => ∃ i96, cell h y4 = some (.int .i64 i96) ∧ (K (.int .i64 i96) h)) (env0 [(.slice x0b x0n x0c), (.slice x1b x1n x1c)]) ⟨rfl, rfl, rfl⟩ h hS).mono ?_
  intro e g' h' hq
  cases e with
  | normal =>
    have hq : D0 (fun y4 ds h => leaveX ds h fun h => ∃ i96, cell h y4 = some (.int .i64 i96) ∧ (K (.int .i64 i96) h)) g' h' := hq
    obtain ⟨y4, ds, ⟨hg4, hd⟩, hq⟩ := D0_ok hq
    show leaveX g'.ds h' _
    rw [hd]
    show leaveX ds h' fun h => vAddr (g'.v 4) fun a97 => ldx Tryz.prog 3 a97 h fun v98 => K v98 h
    rw [hg4]
    exact hq
  | ret =>
    have hq : D0 (fun y4 ds h => leaveX ds h fun h => ∃ i96, cell h y4 = some (.int .i64 i96) ∧ (K (.int .i64 i96) h)) g' h' := hq
    obtain ⟨y4, ds, ⟨hg4, hd⟩, hq⟩ := D0_ok hq
    show leaveX g'.ds h' _
    rw [hd]
    show leaveX ds h' fun h => vAddr (g'.v 4) fun a97 => ldx Tryz.prog 3 a97 h fun v98 => K v98 h
    rw [hg4]
    exact hq
  | _ => exact hq
end Sx.marks_Lost

/-! ### tympan/tympanref12.Lost -/
namespace Sx.r12_Lost
noncomputable def code : Code := bodyOf Tryz.f42
abbrev W := wpC none Tryz.prog 44
variable (g : Env) (x0b : Option Addr) (x0n x0c : Nat) (x1b : Option Addr) (x1n x1c : Nat) (x4 x5 : Int) (x6 : Bool) (x7 : Int)
abbrev T0 := Int → H → Prop
abbrev E0 := Held g [(4, .int .i64 x4)]
def D0 (K : T0) (g : Env) (h : H) : Prop := nilDs g.ds (vInt .i64 (g.v 4) fun i1 => K i1 h)
abbrev Q0 (Kn Kr : T0) := QX (D0 Kn) (D0 Kr) noX
abbrev T1 := (Option Addr) → Nat → Nat → (Option Addr) → Nat → Nat → H → Prop
abbrev E1 := Held g [(0, .slice x0b x0n x0c), (1, .slice x1b x1n x1c)]
def D1 (K : T1) (g : Env) (h : H) : Prop := nilDs g.ds (vSlice (g.v 0) fun s2b s2n s2c => vSlice (g.v 1) fun s3b s3n s3c => K s2b s2n s2c s3b s3n s3c h)
noncomputable def c1 := cFst code
noncomputable def c2 := cSnd code
noncomputable def c3 := cFst c2
noncomputable def c4 := cSnd c2
abbrev T2 := H → Prop
abbrev E2 := Held g []
def D2 (K : T2) (g : Env) (h : H) : Prop := nilDs g.ds (K h)
abbrev n3 (Kn Kr : T0) (h : H) : Prop :=
  Kr (0 : Int) h
abbrev Q1 (Kn : T2) (Kr : T0) := QX (D2 Kn) (D0 Kr) noX
noncomputable def c5 := cFst c3
noncomputable def c6 := cSnd c3
abbrev T3 := (Option Addr) → Nat → Nat → (Option Addr) → Nat → Nat → Int → H → Prop
abbrev E3 := Held g [(0, .slice x0b x0n x0c), (1, .slice x1b x1n x1c), (5, .int .i64 x5)]
def D3 (K : T3) (g : Env) (h : H) : Prop := nilDs g.ds (vSlice (g.v 0) fun s4b s4n s4c => vSlice (g.v 1) fun s5b s5n s5c => vInt .i64 (g.v 5) fun i6 => K s4b s4n s4c s5b s5n s5c i6 h)
noncomputable def c7 := cFst c6
abbrev Q2 (Kn Ke0 : T2) (Kr : T0) := QX (D2 Kn) (D0 Kr) (exX 0 (D2 Ke0) noX)
noncomputable def c8 := cFst c7
abbrev Q3 (Kn : T3) (Ke0 : T2) (Kr : T0) := QX (D3 Kn) (D0 Kr) (exX 0 (D2 Ke0) noX)
noncomputable def c9 := cFst c8
noncomputable def c10 := cSnd c8
noncomputable def c11 := cFst c10
noncomputable def c12 := cSnd c10
abbrev n9 (Kn : T3) (Ke0 : T2) (Kr : T0) (h : H) : Prop :=
  Rng .i64 (x5 - (1 : Int)) ∧ (Kn x0b x0n x0c x1b x1n x1c (x5 - (1 : Int)) h)
noncomputable def c13 := cFst c11
abbrev Q4 (Kn Ke1 : T3) (Ke0 : T2) (Kr : T0) := QX (D3 Kn) (D0 Kr) (exX 1 (D3 Ke1) (exX 0 (D2 Ke0) noX))
noncomputable def c14 := cFst c13
noncomputable def c15 := cSnd c13
abbrev T4 := (Option Addr) → Nat → Nat → (Option Addr) → Nat → Nat → Int → Bool → H → Prop
abbrev E4 := Held g [(0, .slice x0b x0n x0c), (1, .slice x1b x1n x1c), (5, .int .i64 x5), (6, .bool x6)]
def D4 (K : T4) (g : Env) (h : H) : Prop := nilDs g.ds (vSlice (g.v 0) fun s7b s7n s7c => vSlice (g.v 1) fun s8b s8n s8c => vInt .i64 (g.v 5) fun i9 => vBool (g.v 6) fun b10 => K s7b s7n s7c s8b s8n s8c i9 b10 h)
noncomputable def c16 := cFst c15
noncomputable def c17 := cSnd c15
abbrev n13 (Kn Ke1 : T3) (Ke0 : T2) (Kr : T0) (h : H) : Prop :=
  cond x6 (Rng .i64 (x5 + (1 : Int)) ∧ (Kr (x5 + (1 : Int)) h)) (Kn x0b x0n x0c x1b x1n x1c x5 h)
abbrev Q5 (Kn : T4) (Ke1 : T3) (Ke0 : T2) (Kr : T0) := QX (D4 Kn) (D0 Kr) (exX 1 (D3 Ke1) (exX 0 (D2 Ke0) noX))
noncomputable def c18 := cFst c16
noncomputable def c19 := cSnd c16
abbrev T5 := (Option Addr) → Nat → Nat → (Option Addr) → Nat → Nat → Int → Bool → Int → H → Prop
abbrev E5 := Held g [(0, .slice x0b x0n x0c), (1, .slice x1b x1n x1c), (5, .int .i64 x5), (6, .bool x6), (7, .int .i64 x7)]
def D5 (K : T5) (g : Env) (h : H) : Prop := nilDs g.ds (vSlice (g.v 0) fun s11b s11n s11c => vSlice (g.v 1) fun s12b s12n s12c => vInt .i64 (g.v 5) fun i13 => vBool (g.v 6) fun b14 => vInt .i64 (g.v 7) fun i15 => K s11b s11n s11c s12b s12n s12c i13 b14 i15 h)
noncomputable def c20 := cFst c19
abbrev Q6 (Kn Ke2 : T4) (Ke1 : T3) (Ke0 : T2) (Kr : T0) := QX (D4 Kn) (D0 Kr) (exX 2 (D4 Ke2) (exX 1 (D3 Ke1) (exX 0 (D2 Ke0) noX)))
noncomputable def c21 := cFst c20
abbrev Q7 (Kn : T5) (Ke2 : T4) (Ke1 : T3) (Ke0 : T2) (Kr : T0) := QX (D5 Kn) (D0 Kr) (exX 2 (D4 Ke2) (exX 1 (D3 Ke1) (exX 0 (D2 Ke0) noX)))
def n16_L (Kn Ke2 : T4) (Ke1 : T3) (Ke0 : T2) (Kr : T0) : Nat → T5
  | 0 => fun _ _ _ _ _ _ _ _ _ _ => False
  | N + 1 => fun x0b x0n x0c x1b x1n x1c x5 x6 x7 h => Spl (x7 < (x1n : Int)) (cond x6 (Rng .i64 (x7 + (1 : Int)) ∧ (n16_L Kn Ke2 Ke1 Ke0 Kr N x0b x0n x0c x1b x1n x1c x5 true (x7 + (1 : Int)) h)) ((0 ≤ x7 ∧ x7 < (x1n : Int)) ∧ (vSome x1b fun a16 => ∃ i17, cell h ((a16.add (Int.toNat x7 * 4)).add 0) = some (.int .i64 i17) ∧ ((0 ≤ x5 ∧ x5 < (x0n : Int)) ∧ (vSome x0b fun a18 => ∃ i19, cell h ((a18.add (Int.toNat x5 * 3)).add 0) = some (.int .i64 i19) ∧ (Spl (i17 = i19) (Rng .i64 (x7 + (1 : Int)) ∧ (n16_L Kn Ke2 Ke1 Ke0 Kr N x0b x0n x0c x1b x1n x1c x5 true (x7 + (1 : Int)) h)) (Rng .i64 (x7 + (1 : Int)) ∧ (n16_L Kn Ke2 Ke1 Ke0 Kr N x0b x0n x0c x1b x1n x1c x5 false (x7 + (1 : Int)) h)))))))) (Ke2 x0b x0n x0c x1b x1n x1c x5 x6 h)
abbrev n16 (Kn Ke2 : T4) (Ke1 : T3) (Ke0 : T2) (Kr : T0) (h : H) : Prop :=
  ∃ N, n16_L Kn Ke2 Ke1 Ke0 Kr N x0b x0n x0c x1b x1n x1c x5 x6 x7 h
abbrev n15 (Kn : T4) (Ke1 : T3) (Ke0 : T2) (Kr : T0) (h : H) : Prop :=
  n16 x0b x0n x0c x1b x1n x1c x5 x6 x7 Kn Kn Ke1 Ke0 Kr h
abbrev Q8 (Kn : T5) (Ke1 : T3) (Ke0 : T2) (Kr : T0) := QX (D5 Kn) (D0 Kr) (exX 1 (D3 Ke1) (exX 0 (D2 Ke0) noX))
abbrev n14 (Kn : T4) (Ke1 : T3) (Ke0 : T2) (Kr : T0) (h : H) : Prop :=
  n15 x0b x0n x0c x1b x1n x1c x5 x6 (0 : Int) Kn Ke1 Ke0 Kr h
abbrev n12 (Kn Ke1 : T3) (Ke0 : T2) (Kr : T0) (h : H) : Prop :=
  n14 x0b x0n x0c x1b x1n x1c x5 x6 (fun z0b z0n z0c z1b z1n z1c z5 z6 h => n13 z0b z0n z0c z1b z1n z1c z5 z6 Kn Ke1 Ke0 Kr h) Ke1 Ke0 Kr h
abbrev n11 (Kn Ke1 : T3) (Ke0 : T2) (Kr : T0) (h : H) : Prop :=
  (0 ≤ x5 ∧ x5 < (x0n : Int)) ∧ (vSome x0b fun a20 => ∃ i21, cell h ((a20.add (Int.toNat x5 * 3)).add 0) = some (.int .i64 i21) ∧ (Spl (i21 < (0 : Int)) (n12 x0b x0n x0c x1b x1n x1c x5 true Kn Ke1 Ke0 Kr h) (n12 x0b x0n x0c x1b x1n x1c x5 false Kn Ke1 Ke0 Kr h)))
abbrev n10 (Kn : T3) (Ke0 : T2) (Kr : T0) (h : H) : Prop :=
  n11 x0b x0n x0c x1b x1n x1c x5 Kn Kn Ke0 Kr h
abbrev n8 (Kn : T3) (Ke0 : T2) (Kr : T0) (h : H) : Prop :=
  n10 x0b x0n x0c x1b x1n x1c x5 (fun z0b z0n z0c z1b z1n z1c z5 h => n9 z0b z0n z0c z1b z1n z1c z5 Kn Ke0 Kr h) Ke0 Kr h
abbrev n7 (Kn : T3) (Ke0 : T2) (Kr : T0) (h : H) : Prop :=
  Spl (x5 ≥ (0 : Int)) (n8 x0b x0n x0c x1b x1n x1c x5 Kn Ke0 Kr h) (Ke0 h)
def n6_L (Kn Ke0 : T2) (Kr : T0) : Nat → T3
  | 0 => fun _ _ _ _ _ _ _ _ => False
  | N + 1 => fun x0b x0n x0c x1b x1n x1c x5 h => n7 x0b x0n x0c x1b x1n x1c x5 (fun z0b z0n z0c z1b z1n z1c z5 h => n6_L Kn Ke0 Kr N z0b z0n z0c z1b z1n z1c z5 h) Ke0 Kr h
abbrev n6 (Kn Ke0 : T2) (Kr : T0) (h : H) : Prop :=
  ∃ N, n6_L Kn Ke0 Kr N x0b x0n x0c x1b x1n x1c x5 h
abbrev n5 (Kn : T2) (Kr : T0) (h : H) : Prop :=
  n6 x0b x0n x0c x1b x1n x1c x5 Kn Kn Kr h
abbrev Q9 (Kn : T3) (Kr : T0) := QX (D3 Kn) (D0 Kr) noX
abbrev n4 (Kn : T2) (Kr : T0) (h : H) : Prop :=
  Rng .i64 ((x0n : Int) - (1 : Int)) ∧ (n5 x0b x0n x0c x1b x1n x1c ((x0n : Int) - (1 : Int)) Kn Kr h)
abbrev n2 (Kn Kr : T0) (h : H) : Prop :=
  n4 x0b x0n x0c x1b x1n x1c (fun  h => n3 Kn Kr h) Kr h
abbrev Q10 (Kn : T1) (Kr : T0) := QX (D1 Kn) (D0 Kr) noX
abbrev n1 (Kn Kr : T0) (h : H) : Prop :=
  n2 x0b x0n x0c x1b x1n x1c Kn Kr h
variable {g} {h : H} {p : Prop}
variable {x0b x0n x0c x1b x1n x1c x4 x5 x6 x7}
theorem D3_mk {K : T3} (hg : E3 g x0b x0n x0c x1b x1n x1c x5) (hk : K x0b x0n x0c x1b x1n x1c x5 h) : D3 K g h := by
  obtain ⟨e0, e1, e5, d⟩ := hg
  unfold D3
  rw [e0, e1, e5, d]
  exact hk
theorem D5_mk {K : T5} (hg : E5 g x0b x0n x0c x1b x1n x1c x5 x6 x7) (hk : K x0b x0n x0c x1b x1n x1c x5 x6 x7 h) : D5 K g h := by
  obtain ⟨e0, e1, e5, e6, e7, d⟩ := hg
  unfold D5
  rw [e0, e1, e5, e6, e7, d]
  exact hk
theorem D0_el {K : T0} (hq : D0 K g h) (f : ∀ {x4}, E0 g x4 → K x4 h → p) : p := nilDs_el hq fun d q => vInt_el q fun _ e4 q => f ⟨e4, d⟩ q
theorem D1_el {K : T1} (hq : D1 K g h) (f : ∀ {x0b x0n x0c x1b x1n x1c}, E1 g x0b x0n x0c x1b x1n x1c → K x0b x0n x0c x1b x1n x1c h → p) : p := nilDs_el hq fun d q => vSlice_el q fun _ _ _ e0 q => vSlice_el q fun _ _ _ e1 q => f ⟨e0, e1, d⟩ q
theorem D2_el {K : T2} (hq : D2 K g h) (f : E2 g → K  h → p) : p := nilDs_el hq fun d q => f d q
theorem n3_ok {Kn Kr : T0} (hg : E2 g) (hS : n3 Kn Kr h) : W c4 (Q0 Kn Kr) g h :=
  leafN (by kernel_rfl) (by kernel_rfl) hg hS (by kernel_rfl)
theorem D3_el {K : T3} (hq : D3 K g h) (f : ∀ {x0b x0n x0c x1b x1n x1c x5}, E3 g x0b x0n x0c x1b x1n x1c x5 → K x0b x0n x0c x1b x1n x1c x5 h → p) : p := nilDs_el hq fun d q => vSlice_el q fun _ _ _ e0 q => vSlice_el q fun _ _ _ e1 q => vInt_el q fun _ e5 q => f ⟨e0, e1, e5, d⟩ q
theorem n9_ok {Kn : T3} {Ke0 : T2} {Kr : T0} (hg : E3 g x0b x0n x0c x1b x1n x1c x5) (hS : n9 x0b x0n x0c x1b x1n x1c x5 Kn Ke0 Kr h) : W c12 (Q3 Kn Ke0 Kr) g h :=
  leafN (by kernel_rfl) (by kernel_rfl) hg hS (by kernel_rfl)
theorem D4_el {K : T4} (hq : D4 K g h) (f : ∀ {x0b x0n x0c x1b x1n x1c x5 x6}, E4 g x0b x0n x0c x1b x1n x1c x5 x6 → K x0b x0n x0c x1b x1n x1c x5 x6 h → p) : p := nilDs_el hq fun d q => vSlice_el q fun _ _ _ e0 q => vSlice_el q fun _ _ _ e1 q => vInt_el q fun _ e5 q => vBool_el q fun _ e6 q => f ⟨e0, e1, e5, e6, d⟩ q
theorem n13_ok {Kn Ke1 : T3} {Ke0 : T2} {Kr : T0} (hg : E4 g x0b x0n x0c x1b x1n x1c x5 x6) (hS : n13 x0b x0n x0c x1b x1n x1c x5 x6 Kn Ke1 Ke0 Kr h) : W c17 (Q4 Kn Ke1 Ke0 Kr) g h :=
  leafN (by kernel_rfl) (by kernel_rfl) hg hS (by kernel_rfl)
theorem D5_el {K : T5} (hq : D5 K g h) (f : ∀ {x0b x0n x0c x1b x1n x1c x5 x6 x7}, E5 g x0b x0n x0c x1b x1n x1c x5 x6 x7 → K x0b x0n x0c x1b x1n x1c x5 x6 x7 h → p) : p := nilDs_el hq fun d q => vSlice_el q fun _ _ _ e0 q => vSlice_el q fun _ _ _ e1 q => vInt_el q fun _ e5 q => vBool_el q fun _ e6 q => vInt_el q fun _ e7 q => f ⟨e0, e1, e5, e6, e7, d⟩ q
theorem n16_ok {Kn Ke2 : T4} {Ke1 : T3} {Ke0 : T2} {Kr : T0} (hg : E5 g x0b x0n x0c x1b x1n x1c x5 x6 x7) (hS : n16 x0b x0n x0c x1b x1n x1c x5 x6 x7 Kn Ke2 Ke1 Ke0 Kr h) : W c20 (Q6 Kn Ke2 Ke1 Ke0 Kr) g h :=
  let ⟨N, hS⟩ := hS
  loopN (x := c21) (I := fun N => D5 (n16_L Kn Ke2 Ke1 Ke0 Kr N)) (by kernel_rfl) (fun hq => D5_el hq fun _ hq => hq) (fun hq => D5_el hq fun hg hq => leafN (by kernel_rfl) (by kernel_rfl) hg hq (by kernel_rfl)) N (D5_mk hg hS)
theorem n15_ok {Kn : T4} {Ke1 : T3} {Ke0 : T2} {Kr : T0} (hg : E5 g x0b x0n x0c x1b x1n x1c x5 x6 x7) (hS : n15 x0b x0n x0c x1b x1n x1c x5 x6 x7 Kn Ke1 Ke0 Kr h) : W c19 (Q5 Kn Ke1 Ke0 Kr) g h := blockN (by kernel_rfl) (n16_ok hg hS)
theorem n14_ok {Kn : T4} {Ke1 : T3} {Ke0 : T2} {Kr : T0} (hg : E4 g x0b x0n x0c x1b x1n x1c x5 x6) (hS : n14 x0b x0n x0c x1b x1n x1c x5 x6 Kn Ke1 Ke0 Kr h) : W c16 (Q5 Kn Ke1 Ke0 Kr) g h :=
  seqN (x := c18) (N' := D5 (fun z0b z0n z0c z1b z1n z1c z5 z6 z7 h => n15 z0b z0n z0c z1b z1n z1c z5 z6 z7 Kn Ke1 Ke0 Kr h)) (by kernel_rfl) (leafN (by kernel_rfl) (by kernel_rfl) hg hS (by kernel_rfl)) fun hq => D5_el hq n15_ok
theorem n12_ok {Kn Ke1 : T3} {Ke0 : T2} {Kr : T0} (hg : E4 g x0b x0n x0c x1b x1n x1c x5 x6) (hS : n12 x0b x0n x0c x1b x1n x1c x5 x6 Kn Ke1 Ke0 Kr h) : W c15 (Q4 Kn Ke1 Ke0 Kr) g h :=
  seqN (by kernel_rfl) (n14_ok hg hS) fun hq => D4_el hq n13_ok
theorem n11_ok {Kn Ke1 : T3} {Ke0 : T2} {Kr : T0} (hg : E3 g x0b x0n x0c x1b x1n x1c x5) (hS : n11 x0b x0n x0c x1b x1n x1c x5 Kn Ke1 Ke0 Kr h) : W c13 (Q4 Kn Ke1 Ke0 Kr) g h :=
  seqN (x := c14) (N' := D4 (fun z0b z0n z0c z1b z1n z1c z5 z6 h => n12 z0b z0n z0c z1b z1n z1c z5 z6 Kn Ke1 Ke0 Kr h)) (by kernel_rfl) (leafN (by kernel_rfl) (by kernel_rfl) hg hS (by kernel_rfl)) fun hq => D4_el hq n12_ok
theorem n10_ok {Kn : T3} {Ke0 : T2} {Kr : T0} (hg : E3 g x0b x0n x0c x1b x1n x1c x5) (hS : n10 x0b x0n x0c x1b x1n x1c x5 Kn Ke0 Kr h) : W c11 (Q3 Kn Ke0 Kr) g h := blockN (by kernel_rfl) (n11_ok hg hS)
theorem n8_ok {Kn : T3} {Ke0 : T2} {Kr : T0} (hg : E3 g x0b x0n x0c x1b x1n x1c x5) (hS : n8 x0b x0n x0c x1b x1n x1c x5 Kn Ke0 Kr h) : W c10 (Q3 Kn Ke0 Kr) g h :=
  seqN (by kernel_rfl) (n10_ok hg hS) fun hq => D3_el hq n9_ok
theorem n7_ok {Kn : T3} {Ke0 : T2} {Kr : T0} (hg : E3 g x0b x0n x0c x1b x1n x1c x5) (hS : n7 x0b x0n x0c x1b x1n x1c x5 Kn Ke0 Kr h) : W c8 (Q3 Kn Ke0 Kr) g h :=
  seqN (x := c9) (N' := D3 (fun z0b z0n z0c z1b z1n z1c z5 h => n8 z0b z0n z0c z1b z1n z1c z5 Kn Ke0 Kr h)) (by kernel_rfl) (leafN (by kernel_rfl) (by kernel_rfl) hg hS (by kernel_rfl)) fun hq => D3_el hq n8_ok
theorem n6_ok {Kn Ke0 : T2} {Kr : T0} (hg : E3 g x0b x0n x0c x1b x1n x1c x5) (hS : n6 x0b x0n x0c x1b x1n x1c x5 Kn Ke0 Kr h) : W c7 (Q2 Kn Ke0 Kr) g h :=
  let ⟨N, hS⟩ := hS
  loopN (x := c8) (I := fun N => D3 (n6_L Kn Ke0 Kr N)) (by kernel_rfl) (fun hq => D3_el hq fun _ hq => hq) (fun hq => D3_el hq fun hg hq => n7_ok hg hq) N (D3_mk hg hS)
theorem n5_ok {Kn : T2} {Kr : T0} (hg : E3 g x0b x0n x0c x1b x1n x1c x5) (hS : n5 x0b x0n x0c x1b x1n x1c x5 Kn Kr h) : W c6 (Q1 Kn Kr) g h := blockN (by kernel_rfl) (n6_ok hg hS)
theorem n4_ok {Kn : T2} {Kr : T0} (hg : E1 g x0b x0n x0c x1b x1n x1c) (hS : n4 x0b x0n x0c x1b x1n x1c Kn Kr h) : W c3 (Q1 Kn Kr) g h :=
  seqN (x := c5) (N' := D3 (fun z0b z0n z0c z1b z1n z1c z5 h => n5 z0b z0n z0c z1b z1n z1c z5 Kn Kr h)) (by kernel_rfl) (leafN (by kernel_rfl) (by kernel_rfl) hg hS (by kernel_rfl)) fun hq => D3_el hq n5_ok
theorem n2_ok {Kn Kr : T0} (hg : E1 g x0b x0n x0c x1b x1n x1c) (hS : n2 x0b x0n x0c x1b x1n x1c Kn Kr h) : W c2 (Q0 Kn Kr) g h :=
  seqN (by kernel_rfl) (n4_ok hg hS) fun hq => D2_el hq n3_ok
theorem n1_ok {Kn Kr : T0} (hg : E1 g x0b x0n x0c x1b x1n x1c) (hS : n1 x0b x0n x0c x1b x1n x1c Kn Kr h) : W code (Q0 Kn Kr) g h :=
  seqN (x := c1) (N' := D1 (fun z0b z0n z0c z1b z1n z1c h => n2 z0b z0n z0c z1b z1n z1c Kn Kr h)) (by kernel_rfl) (leafN (by kernel_rfl) (by kernel_rfl) hg hS (by kernel_rfl)) fun hq => D1_el hq n2_ok
/-- WHAT tympan/tympanref12.Lost ASKS -/
abbrev asks (x0b : Option Addr) (x0n : Nat) (x0c : Nat) (x1b : Option Addr) (x1n : Nat) (x1c : Nat) (K : Value → H → Prop) (h : H) : Prop := n1 x0b x0n x0c x1b x1n x1c (fun y4 h => K (.int .i64 y4) h) (fun y4 h => K (.int .i64 y4) h) h
theorem ok (x0b : Option Addr) (x0n : Nat) (x0c : Nat) (x1b : Option Addr) (x1n : Nat) (x1c : Nat) (K : Value → H → Prop) (h : H) (hS : asks x0b x0n x0c x1b x1n x1c K h) : HCalls Tryz.prog 42 ⟨[(.slice x0b x0n x0c), (.slice x1b x1n x1c)]⟩ h K :=
  callsN (c := code) Tryz.func42 (by kernel_rfl) (by kernel_rfl) (n1_ok ⟨rfl, rfl, rfl⟩ hS) fun hq => D0_el hq fun hg hq => retN hg hq (by kernel_rfl)
end Sx.r12_Lost

/-! ### slices.Backward[[]tympan/api.Mark,tympan/api.Mark] -/
namespace Sx.slices_Backward_apiMark
noncomputable def code : Code := bodyOf Tryz.f72
abbrev W := wpC none Tryz.prog 4
variable (g : Env) (x0b : Option Addr) (x0n x0c : Nat) (x2 : Value)
abbrev T0 := Value → H → Prop
abbrev E0 := Held g [(2, x2)]
def D0 (K : T0) (g : Env) (h : H) : Prop := nilDs g.ds (K (g.v 2) h)
abbrev Q0 (Kn Kr : T0) := QX (D0 Kn) (D0 Kr) noX
abbrev T1 := (Option Addr) → Nat → Nat → H → Prop
abbrev E1 := Held g [(0, .slice x0b x0n x0c)]
def D1 (K : T1) (g : Env) (h : H) : Prop := nilDs g.ds (vSlice (g.v 0) fun s1b s1n s1c => K s1b s1n s1c h)
abbrev n1 (Kn Kr : T0) (h : H) : Prop :=
  newx h #[(.slice x0b x0n x0c)] 40 fun a2 h3 => Kr (.func (.func 86) ⟨[]⟩ ⟨[(.pointer (some a2))]⟩) h3
variable {g} {h : H} {p : Prop}
variable {x0b x0n x0c x2}
theorem D0_el {K : T0} (hq : D0 K g h) (f : ∀ {x2}, E0 g x2 → K x2 h → p) : p := nilDs_el hq fun d q => f ⟨rfl, d⟩ q
theorem D1_el {K : T1} (hq : D1 K g h) (f : ∀ {x0b x0n x0c}, E1 g x0b x0n x0c → K x0b x0n x0c h → p) : p := nilDs_el hq fun d q => vSlice_el q fun _ _ _ e0 q => f ⟨e0, d⟩ q
theorem n1_ok {Kn Kr : T0} (hg : E1 g x0b x0n x0c) (hS : n1 x0b x0n x0c Kn Kr h) : W code (Q0 Kn Kr) g h :=
  leafN (by kernel_rfl) (by kernel_rfl) hg hS (by kernel_rfl)
/-- WHAT slices.Backward[[]tympan/api.Mark,tympan/api.Mark] ASKS -/
abbrev asks (x0b : Option Addr) (x0n : Nat) (x0c : Nat) (K : Value → H → Prop) (h : H) : Prop := n1 x0b x0n x0c (fun y2 h => K y2 h) (fun y2 h => K y2 h) h
theorem ok (x0b : Option Addr) (x0n : Nat) (x0c : Nat) (K : Value → H → Prop) (h : H) (hS : asks x0b x0n x0c K h) : HCalls Tryz.prog 72 ⟨[(.slice x0b x0n x0c)]⟩ h K :=
  callsN (c := code) Tryz.func72 (by kernel_rfl) (by kernel_rfl) (n1_ok ⟨rfl, rfl⟩ hS) fun hq => D0_el hq fun hg hq => retN hg hq (by kernel_rfl)
end Sx.slices_Backward_apiMark

/-! ### slices.ContainsFunc[[]tympan/api.Open,tympan/api.Open] -/
namespace Sx.slices_ContainsFunc_apiOpen
noncomputable def code : Code := bodyOf Tryz.f73
abbrev W := wpC none Tryz.prog 9
variable (g : Env) (x0b : Option Addr) (x0n x0c : Nat) (x1 : Value) (x4 : Bool)
abbrev T0 := Bool → H → Prop
abbrev E0 := Held g [(4, .bool x4)]
def D0 (K : T0) (g : Env) (h : H) : Prop := nilDs g.ds (vBool (g.v 4) fun b1 => K b1 h)
abbrev Q0 (Kn Kr : T0) := QX (D0 Kn) (D0 Kr) noX
abbrev T1 := (Option Addr) → Nat → Nat → Value → H → Prop
abbrev E1 := Held g [(0, .slice x0b x0n x0c), (1, x1)]
def D1 (K : T1) (g : Env) (h : H) : Prop := nilDs g.ds (vSlice (g.v 0) fun s2b s2n s2c => K s2b s2n s2c (g.v 1) h)
abbrev n1 (Kn Kr : T0) (h : H) : Prop :=
  HCalls Tryz.prog 43 ⟨[(.slice x0b x0n x0c), x1]⟩ h fun v3 h4 => vInt .i64 v3 fun i5 => Spl (i5 ≥ (0 : Int)) (Kr true h4) (Kr false h4)
variable {g} {h : H} {p : Prop}
variable {x0b x0n x0c x1 x4}
theorem D0_el {K : T0} (hq : D0 K g h) (f : ∀ {x4}, E0 g x4 → K x4 h → p) : p := nilDs_el hq fun d q => vBool_el q fun _ e4 q => f ⟨e4, d⟩ q
theorem D1_el {K : T1} (hq : D1 K g h) (f : ∀ {x0b x0n x0c x1}, E1 g x0b x0n x0c x1 → K x0b x0n x0c x1 h → p) : p := nilDs_el hq fun d q => vSlice_el q fun _ _ _ e0 q => f ⟨e0, rfl, d⟩ q
theorem n1_ok {Kn Kr : T0} (hg : E1 g x0b x0n x0c x1) (hS : n1 x0b x0n x0c x1 Kn Kr h) : W code (Q0 Kn Kr) g h :=
  leafN (by kernel_rfl) (by kernel_rfl) hg hS (by kernel_rfl)
/-- WHAT slices.ContainsFunc[[]tympan/api.Open,tympan/api.Open] ASKS -/
abbrev asks (x0b : Option Addr) (x0n : Nat) (x0c : Nat) (x1 : Value) (K : Value → H → Prop) (h : H) : Prop := n1 x0b x0n x0c x1 (fun y4 h => K (.bool y4) h) (fun y4 h => K (.bool y4) h) h
theorem ok (x0b : Option Addr) (x0n : Nat) (x0c : Nat) (x1 : Value) (K : Value → H → Prop) (h : H) (hS : asks x0b x0n x0c x1 K h) : HCalls Tryz.prog 73 ⟨[(.slice x0b x0n x0c), x1]⟩ h K :=
  callsN (c := code) Tryz.func73 (by kernel_rfl) (by kernel_rfl) (n1_ok ⟨rfl, rfl, rfl⟩ hS) fun hq => D0_el hq fun hg hq => retN hg hq (by kernel_rfl)
end Sx.slices_ContainsFunc_apiOpen

/-! ### tympan/marks.Lost$1 -/
namespace Sx.marks_Lost_1
noncomputable def code : Code := bodyOf Tryz.f74
abbrev W := wpC none Tryz.prog 9
variable (g : Env) (x0_0 x0_1 : Int) (x0_2 : List UInt8) (x0_3 : Int) (x1 : Addr) (x3 : Bool)
abbrev T0 := Bool → H → Prop
abbrev E0 := Held g [(3, .bool x3)]
def D0 (K : T0) (g : Env) (h : H) : Prop := nilDs g.ds (vBool (g.v 3) fun b1 => K b1 h)
abbrev Q0 (Kn Kr : T0) := QX (D0 Kn) (D0 Kr) noX
abbrev T1 := Int → Int → (List UInt8) → Int → Addr → H → Prop
abbrev E1 := Held g [(0, .agg ⟨[(.int .i64 x0_0), (.int .u8 x0_1), (S x0_2), (.int .u8 x0_3)]⟩), (1, .pointer (some x1))]
def D1 (K : T1) (g : Env) (h : H) : Prop := nilDs g.ds (vAgg (g.v 0) fun l2 => uncons l2 fun e3 l4 => vInt .i64 e3 fun i5 => uncons l4 fun e6 l7 => vInt .u8 e6 fun i8 => uncons l7 fun e9 l10 => vStr e9 fun s11 => uncons l10 fun e12 l13 => vInt .u8 e12 fun i14 => unnil l13 (vAddr (g.v 1) fun a15 => K i5 i8 s11 i14 a15 h))
abbrev n1 (Kn Kr : T0) (h : H) : Prop :=
  newx h ⟨[(.int .i64 x0_0), (.int .u8 x0_1), (S x0_2), (.int .u8 x0_3)]⟩ 36 fun a16 h17 => ∃ i18, cell h17 (a16.add 0) = some (.int .i64 i18) ∧ (∃ i19, cell h17 (x1.add 0) = some (.int .i64 i19) ∧ (Spl (i18 = i19) (Kr true h17) (Kr false h17)))
variable {g} {h : H} {p : Prop}
variable {x0_0 x0_1 x0_2 x0_3 x1 x3}
theorem D0_el {K : T0} (hq : D0 K g h) (f : ∀ {x3}, E0 g x3 → K x3 h → p) : p := nilDs_el hq fun d q => vBool_el q fun _ e3 q => f ⟨e3, d⟩ q
theorem D1_el {K : T1} (hq : D1 K g h) (f : ∀ {x0_0 x0_1 x0_2 x0_3 x1}, E1 g x0_0 x0_1 x0_2 x0_3 x1 → K x0_0 x0_1 x0_2 x0_3 x1 h → p) : p := by
  obtain ⟨d, q0⟩ := nilDs_ok hq
  obtain ⟨l, e0, q1⟩ := vAgg_ok q0
  obtain ⟨_, l, rfl, q2⟩ := uncI q1
  obtain ⟨_, l, rfl, q3⟩ := uncI q2
  obtain ⟨_, l, rfl, q4⟩ := uncS q3
  obtain ⟨_, l, rfl, q5⟩ := uncI q4
  obtain ⟨rfl, q6⟩ := unnil_ok q5
  obtain ⟨_, e1, q7⟩ := vAddr_ok q6
  exact f ⟨e0, e1, d⟩ q7
theorem n1_ok {Kn Kr : T0} (hg : E1 g x0_0 x0_1 x0_2 x0_3 x1) (hS : n1 x0_0 x0_1 x0_2 x0_3 x1 Kn Kr h) : W code (Q0 Kn Kr) g h :=
  leafN (by kernel_rfl) (by kernel_rfl) hg hS (by kernel_rfl)
/-- WHAT tympan/marks.Lost$1 ASKS -/
abbrev asks (x0_0 : Int) (x0_1 : Int) (x0_2 : List UInt8) (x0_3 : Int) (x1 : Addr) (K : Value → H → Prop) (h : H) : Prop := n1 x0_0 x0_1 x0_2 x0_3 x1 (fun y3 h => K (.bool y3) h) (fun y3 h => K (.bool y3) h) h
theorem ok (x0_0 : Int) (x0_1 : Int) (x0_2 : List UInt8) (x0_3 : Int) (x1 : Addr) (K : Value → H → Prop) (h : H) (hS : asks x0_0 x0_1 x0_2 x0_3 x1 K h) : HCalls Tryz.prog 74 ⟨[(.agg ⟨[(.int .i64 x0_0), (.int .u8 x0_1), (S x0_2), (.int .u8 x0_3)]⟩), (.pointer (some x1))]⟩ h K :=
  callsN (c := code) Tryz.func74 (by kernel_rfl) (by kernel_rfl) (n1_ok ⟨rfl, rfl, rfl⟩ hS) fun hq => D0_el hq fun hg hq => retN hg hq (by kernel_rfl)
end Sx.marks_Lost_1

/-! ### slices.Backward[[]tympan/api.Mark,tympan/api.Mark]$1 -/
namespace Sx.slices_Backward_1_apiMark1
noncomputable def code : Code := bodyOf Tryz.f86
abbrev W := wpC none Tryz.prog 19
variable (g : Env) (x0 : Value) (x1 : Addr) (x3 : Int)
abbrev T0 := H → Prop
abbrev E0 := Held g []
def D0 (K : T0) (g : Env) (h : H) : Prop := nilDs g.ds (K h)
abbrev Q0 (Kn Kr : T0) := QX (D0 Kn) (D0 Kr) noX
abbrev T1 := Value → Addr → H → Prop
abbrev E1 := Held g [(0, x0), (1, .pointer (some x1))]
def D1 (K : T1) (g : Env) (h : H) : Prop := nilDs g.ds (vAddr (g.v 1) fun a1 => K (g.v 0) a1 h)
noncomputable def c1 := cFst code
noncomputable def c2 := cSnd code
abbrev T2 := Value → Addr → Int → H → Prop
abbrev E2 := Held g [(0, x0), (1, .pointer (some x1)), (3, .int .i64 x3)]
def D2 (K : T2) (g : Env) (h : H) : Prop := nilDs g.ds (vAddr (g.v 1) fun a2 => vInt .i64 (g.v 3) fun i3 => K (g.v 0) a2 i3 h)
noncomputable def c3 := cFst c2
abbrev Q1 (Kn Ke0 Kr : T0) := QX (D0 Kn) (D0 Kr) (exX 0 (D0 Ke0) noX)
noncomputable def c4 := cFst c3
abbrev Q2 (Kn : T2) (Ke0 Kr : T0) := QX (D2 Kn) (D0 Kr) (exX 0 (D0 Ke0) noX)
def n3_L (Kn Ke0 Kr : T0) : Nat → T2
  | 0 => fun _ _ _ _ => False
  | N + 1 => fun x0 x1 x3 h => Spl (x3 ≥ (0 : Int)) (∃ s4b s4n s4c, cell h x1 = some (.slice s4b s4n s4c) ∧ ((0 ≤ x3 ∧ x3 < (s4n : Int)) ∧ (vSome s4b fun a5 => ∃ i6, cell h (((a5.add (Int.toNat x3 * 3))).add 0) = some (.int .i64 i6) ∧ (∃ s7, cell h (((a5.add (Int.toNat x3 * 3))).add 1) = some (S s7) ∧ (∃ s8b s8n s8c, cell h (((a5.add (Int.toNat x3 * 3))).add 2) = some (.slice s8b s8n s8c) ∧ (CallV Tryz.prog 4 x0 ⟨[(.int .i64 x3), (.agg ⟨[(.int .i64 i6), (S s7), (.slice s8b s8n s8c)]⟩)]⟩ h fun v9 h10 => vBool v9 fun b11 => cond b11 (Rng .i64 (x3 - (1 : Int)) ∧ (n3_L Kn Ke0 Kr N x0 x1 (x3 - (1 : Int)) h10)) (Kr h10))))))) (Ke0 h)
abbrev n3 (Kn Ke0 Kr : T0) (h : H) : Prop :=
  ∃ N, n3_L Kn Ke0 Kr N x0 x1 x3 h
abbrev n2 (Kn Kr : T0) (h : H) : Prop :=
  n3 x0 x1 x3 Kn Kn Kr h
abbrev Q3 (Kn : T2) (Kr : T0) := QX (D2 Kn) (D0 Kr) noX
abbrev n1 (Kn Kr : T0) (h : H) : Prop :=
  ∃ s12b s12n s12c, cell h x1 = some (.slice s12b s12n s12c) ∧ (Rng .i64 ((s12n : Int) - (1 : Int)) ∧ (n2 x0 x1 ((s12n : Int) - (1 : Int)) Kn Kr h))
variable {g} {h : H} {p : Prop}
variable {x0 x1 x3}
theorem D2_mk {K : T2} (hg : E2 g x0 x1 x3) (hk : K x0 x1 x3 h) : D2 K g h := by
  obtain ⟨e0, e1, e3, d⟩ := hg
  unfold D2
  rw [e0, e1, e3, d]
  exact hk
theorem D0_el {K : T0} (hq : D0 K g h) (f : E0 g → K  h → p) : p := nilDs_el hq fun d q => f d q
theorem D1_el {K : T1} (hq : D1 K g h) (f : ∀ {x0 x1}, E1 g x0 x1 → K x0 x1 h → p) : p := nilDs_el hq fun d q => vAddr_el q fun _ e1 q => f ⟨rfl, e1, d⟩ q
theorem D2_el {K : T2} (hq : D2 K g h) (f : ∀ {x0 x1 x3}, E2 g x0 x1 x3 → K x0 x1 x3 h → p) : p := nilDs_el hq fun d q => vAddr_el q fun _ e1 q => vInt_el q fun _ e3 q => f ⟨rfl, e1, e3, d⟩ q
theorem n3_ok {Kn Ke0 Kr : T0} (hg : E2 g x0 x1 x3) (hS : n3 x0 x1 x3 Kn Ke0 Kr h) : W c3 (Q1 Kn Ke0 Kr) g h :=
  let ⟨N, hS⟩ := hS
  loopN (x := c4) (I := fun N => D2 (n3_L Kn Ke0 Kr N)) (by kernel_rfl) (fun hq => D2_el hq fun _ hq => hq) (fun hq => D2_el hq fun hg hq => leafN (by kernel_rfl) (by kernel_rfl) hg hq (by kernel_rfl)) N (D2_mk hg hS)
theorem n2_ok {Kn Kr : T0} (hg : E2 g x0 x1 x3) (hS : n2 x0 x1 x3 Kn Kr h) : W c2 (Q0 Kn Kr) g h := blockN (by kernel_rfl) (n3_ok hg hS)
theorem n1_ok {Kn Kr : T0} (hg : E1 g x0 x1) (hS : n1 x0 x1 Kn Kr h) : W code (Q0 Kn Kr) g h :=
  seqN (x := c1) (N' := D2 (fun z0 z1 z3 h => n2 z0 z1 z3 Kn Kr h)) (by kernel_rfl) (leafN (by kernel_rfl) (by kernel_rfl) hg hS (by kernel_rfl)) fun hq => D2_el hq n2_ok
/-- WHAT slices.Backward[[]tympan/api.Mark,tympan/api.Mark]$1 ASKS -/
abbrev asks (x0 : Value) (x1 : Addr) (K : Value → H → Prop) (h : H) : Prop := n1 x0 x1 (fun h => K (.tuple ⟨[]⟩) h) (fun h => K (.tuple ⟨[]⟩) h) h
theorem ok (x0 : Value) (x1 : Addr) (K : Value → H → Prop) (h : H) (hS : asks x0 x1 K h) : HCalls Tryz.prog 86 ⟨[x0, (.pointer (some x1))]⟩ h K :=
  callsN (c := code) Tryz.func86 (by kernel_rfl) (by kernel_rfl) (n1_ok ⟨rfl, rfl, rfl⟩ hS) fun hq => D0_el hq fun hg hq => retN hg hq (by kernel_rfl)
end Sx.slices_Backward_1_apiMark1

/-! ### slices.Clone[[]tympan/api.Mark,tympan/api.Mark] -/
namespace Sx.slices_Clone_apiMark
noncomputable def code : Code := bodyOf Tryz.f41
abbrev W := wpC none Tryz.prog 8
variable (g : Env) (x0b : Option Addr) (x0n x0c : Nat) (x2b : Option Addr) (x2n x2c : Nat)
abbrev T0 := (Option Addr) → Nat → Nat → H → Prop
abbrev E0 := Held g [(2, .slice x2b x2n x2c)]
def D0 (K : T0) (g : Env) (h : H) : Prop := nilDs g.ds (vSlice (g.v 2) fun s1b s1n s1c => K s1b s1n s1c h)
abbrev Q0 (Kn Kr : T0) := QX (D0 Kn) (D0 Kr) noX
abbrev T1 := (Option Addr) → Nat → Nat → H → Prop
abbrev E1 := Held g [(0, .slice x0b x0n x0c)]
def D1 (K : T1) (g : Env) (h : H) : Prop := nilDs g.ds (vSlice (g.v 0) fun s2b s2n s2c => K s2b s2n s2c h)
abbrev n1 (Kn Kr : T0) (h : H) : Prop :=
  SemH Tryz.prog (binS .eql 40 (.tmp 3) (.const (.slice none 0 0)) (.slice x0b x0n x0c) (.slice none 0 0)) h fun v3 h4 => vBool v3 fun b5 => cond b5 (Kr none 0 0 h4) (newx h4 #[] 39 fun a6 h7 => SemH Tryz.prog (Builtin.append_ #[40, 40] 40 ⟨[(.slice (some a6) 0 0), (.slice x0b x0n x0c)]⟩) h7 fun v8 h9 => vSlice v8 fun s10b s10n s10c => Kr s10b s10n s10c h9)
variable {g} {h : H} {p : Prop}
variable {x0b x0n x0c x2b x2n x2c}
theorem D0_el {K : T0} (hq : D0 K g h) (f : ∀ {x2b x2n x2c}, E0 g x2b x2n x2c → K x2b x2n x2c h → p) : p := nilDs_el hq fun d q => vSlice_el q fun _ _ _ e2 q => f ⟨e2, d⟩ q
theorem D1_el {K : T1} (hq : D1 K g h) (f : ∀ {x0b x0n x0c}, E1 g x0b x0n x0c → K x0b x0n x0c h → p) : p := nilDs_el hq fun d q => vSlice_el q fun _ _ _ e0 q => f ⟨e0, d⟩ q
theorem n1_ok {Kn Kr : T0} (hg : E1 g x0b x0n x0c) (hS : n1 x0b x0n x0c Kn Kr h) : W code (Q0 Kn Kr) g h :=
  leafN (by kernel_rfl) (by kernel_rfl) hg hS (by kernel_rfl)
/-- WHAT slices.Clone[[]tympan/api.Mark,tympan/api.Mark] ASKS -/
abbrev asks (x0b : Option Addr) (x0n : Nat) (x0c : Nat) (K : Value → H → Prop) (h : H) : Prop := n1 x0b x0n x0c (fun y2b y2n y2c h => K (.slice y2b y2n y2c) h) (fun y2b y2n y2c h => K (.slice y2b y2n y2c) h) h
theorem ok (x0b : Option Addr) (x0n : Nat) (x0c : Nat) (K : Value → H → Prop) (h : H) (hS : asks x0b x0n x0c K h) : HCalls Tryz.prog 41 ⟨[(.slice x0b x0n x0c)]⟩ h K :=
  callsN (c := code) Tryz.func41 (by kernel_rfl) (by kernel_rfl) (n1_ok ⟨rfl, rfl⟩ hS) fun hq => D0_el hq fun hg hq => retN hg hq (by kernel_rfl)
end Sx.slices_Clone_apiMark

/-! ### tympan/tympanref00.SameMarks -/
namespace Sx.r00_SameMarks
noncomputable def code : Code := bodyOf Tryz.f48
abbrev W := wpC none Tryz.prog 55
variable (g : Env) (x0b : Option Addr) (x0n x0c : Nat) (x1b : Option Addr) (x1n x1c : Nat) (x4 : Bool) (x5 : Int)
abbrev T0 := Bool → H → Prop
abbrev E0 := Held g [(4, .bool x4)]
def D0 (K : T0) (g : Env) (h : H) : Prop := nilDs g.ds (vBool (g.v 4) fun b1 => K b1 h)
abbrev Q0 (Kn Kr : T0) := QX (D0 Kn) (D0 Kr) noX
abbrev T1 := (Option Addr) → Nat → Nat → (Option Addr) → Nat → Nat → H → Prop
abbrev E1 := Held g [(0, .slice x0b x0n x0c), (1, .slice x1b x1n x1c)]
def D1 (K : T1) (g : Env) (h : H) : Prop := nilDs g.ds (vSlice (g.v 0) fun s2b s2n s2c => vSlice (g.v 1) fun s3b s3n s3c => K s2b s2n s2c s3b s3n s3c h)
noncomputable def c1 := cFst code
noncomputable def c2 := cSnd code
noncomputable def c3 := cFst c2
noncomputable def c4 := cSnd c2
noncomputable def c5 := cFst c4
noncomputable def c6 := cSnd c4
abbrev T2 := H → Prop
abbrev E2 := Held g []
def D2 (K : T2) (g : Env) (h : H) : Prop := nilDs g.ds (K h)
abbrev n4 (Kn Kr : T0) (h : H) : Prop :=
  Kr true h
abbrev Q1 (Kn : T2) (Kr : T0) := QX (D2 Kn) (D0 Kr) noX
noncomputable def c7 := cFst c5
noncomputable def c8 := cSnd c5
abbrev T3 := (Option Addr) → Nat → Nat → (Option Addr) → Nat → Nat → Int → H → Prop
abbrev E3 := Held g [(0, .slice x0b x0n x0c), (1, .slice x1b x1n x1c), (5, .int .i64 x5)]
def D3 (K : T3) (g : Env) (h : H) : Prop := nilDs g.ds (vSlice (g.v 0) fun s4b s4n s4c => vSlice (g.v 1) fun s5b s5n s5c => vInt .i64 (g.v 5) fun i6 => K s4b s4n s4c s5b s5n s5c i6 h)
noncomputable def c9 := cFst c8
abbrev Q2 (Kn Ke0 : T2) (Kr : T0) := QX (D2 Kn) (D0 Kr) (exX 0 (D2 Ke0) noX)
noncomputable def c10 := cFst c9
abbrev Q3 (Kn : T3) (Ke0 : T2) (Kr : T0) := QX (D3 Kn) (D0 Kr) (exX 0 (D2 Ke0) noX)
def n7_L (Kn Ke0 : T2) (Kr : T0) : Nat → T3
  | 0 => fun _ _ _ _ _ _ _ _ => False
  | N + 1 => fun x0b x0n x0c x1b x1n x1c x5 h => Spl (x5 < (x0n : Int)) ((0 ≤ x5 ∧ x5 < (x0n : Int)) ∧ (vSome x0b fun a7 => ∃ i8, cell h ((a7.add (Int.toNat x5 * 3)).add 0) = some (.int .i64 i8) ∧ ((0 ≤ x5 ∧ x5 < (x1n : Int)) ∧ (vSome x1b fun a9 => ∃ i10, cell h ((a9.add (Int.toNat x5 * 3)).add 0) = some (.int .i64 i10) ∧ (Spl (i8 = i10) ((0 ≤ x5 ∧ x5 < (x0n : Int)) ∧ (vSome x0b fun a11 => ∃ s12, cell h ((a11.add (Int.toNat x5 * 3)).add 1) = some (S s12) ∧ ((0 ≤ x5 ∧ x5 < (x1n : Int)) ∧ (vSome x1b fun a13 => ∃ s14, cell h ((a13.add (Int.toNat x5 * 3)).add 1) = some (S s14) ∧ (Spl (s12 = s14) ((0 ≤ x5 ∧ x5 < (x0n : Int)) ∧ (vSome x0b fun a15 => ∃ s16b s16n s16c, cell h ((a15.add (Int.toNat x5 * 3)).add 2) = some (.slice s16b s16n s16c) ∧ ((0 ≤ x5 ∧ x5 < (x1n : Int)) ∧ (vSome x1b fun a17 => ∃ s18b s18n s18c, cell h ((a17.add (Int.toNat x5 * 3)).add 2) = some (.slice s18b s18n s18c) ∧ (HCalls Tryz.prog 75 ⟨[(.slice s16b s16n s16c), (.slice s18b s18n s18c)]⟩ h fun v19 h20 => vBool v19 fun b21 => cond b21 (Rng .i64 (x5 + (1 : Int)) ∧ (n7_L Kn Ke0 Kr N x0b x0n x0c x1b x1n x1c (x5 + (1 : Int)) h20)) (Kr false h20)))))) (Kr false h)))))) (Kr false h)))))) (Ke0 h)
abbrev n7 (Kn Ke0 : T2) (Kr : T0) (h : H) : Prop :=
  ∃ N, n7_L Kn Ke0 Kr N x0b x0n x0c x1b x1n x1c x5 h
abbrev n6 (Kn : T2) (Kr : T0) (h : H) : Prop :=
  n7 x0b x0n x0c x1b x1n x1c x5 Kn Kn Kr h
abbrev Q4 (Kn : T3) (Kr : T0) := QX (D3 Kn) (D0 Kr) noX
abbrev n5 (Kn : T2) (Kr : T0) (h : H) : Prop :=
  n6 x0b x0n x0c x1b x1n x1c (0 : Int) Kn Kr h
abbrev n3 (Kn Kr : T0) (h : H) : Prop :=
  n5 x0b x0n x0c x1b x1n x1c (fun  h => n4 Kn Kr h) Kr h
abbrev Q5 (Kn : T1) (Kr : T0) := QX (D1 Kn) (D0 Kr) noX
abbrev n2 (Kn Kr : T0) (h : H) : Prop :=
  Spl ((x0n : Int) = (x1n : Int)) (n3 x0b x0n x0c x1b x1n x1c Kn Kr h) (Kr false h)
abbrev n1 (Kn Kr : T0) (h : H) : Prop :=
  n2 x0b x0n x0c x1b x1n x1c Kn Kr h
variable {g} {h : H} {p : Prop}
variable {x0b x0n x0c x1b x1n x1c x4 x5}
theorem D3_mk {K : T3} (hg : E3 g x0b x0n x0c x1b x1n x1c x5) (hk : K x0b x0n x0c x1b x1n x1c x5 h) : D3 K g h := by
  obtain ⟨e0, e1, e5, d⟩ := hg
  unfold D3
  rw [e0, e1, e5, d]
  exact hk
theorem D0_el {K : T0} (hq : D0 K g h) (f : ∀ {x4}, E0 g x4 → K x4 h → p) : p := nilDs_el hq fun d q => vBool_el q fun _ e4 q => f ⟨e4, d⟩ q
theorem D1_el {K : T1} (hq : D1 K g h) (f : ∀ {x0b x0n x0c x1b x1n x1c}, E1 g x0b x0n x0c x1b x1n x1c → K x0b x0n x0c x1b x1n x1c h → p) : p := nilDs_el hq fun d q => vSlice_el q fun _ _ _ e0 q => vSlice_el q fun _ _ _ e1 q => f ⟨e0, e1, d⟩ q
theorem D2_el {K : T2} (hq : D2 K g h) (f : E2 g → K  h → p) : p := nilDs_el hq fun d q => f d q
theorem n4_ok {Kn Kr : T0} (hg : E2 g) (hS : n4 Kn Kr h) : W c6 (Q0 Kn Kr) g h :=
  leafN (by kernel_rfl) (by kernel_rfl) hg hS (by kernel_rfl)
theorem D3_el {K : T3} (hq : D3 K g h) (f : ∀ {x0b x0n x0c x1b x1n x1c x5}, E3 g x0b x0n x0c x1b x1n x1c x5 → K x0b x0n x0c x1b x1n x1c x5 h → p) : p := nilDs_el hq fun d q => vSlice_el q fun _ _ _ e0 q => vSlice_el q fun _ _ _ e1 q => vInt_el q fun _ e5 q => f ⟨e0, e1, e5, d⟩ q
theorem n7_ok {Kn Ke0 : T2} {Kr : T0} (hg : E3 g x0b x0n x0c x1b x1n x1c x5) (hS : n7 x0b x0n x0c x1b x1n x1c x5 Kn Ke0 Kr h) : W c9 (Q2 Kn Ke0 Kr) g h :=
  let ⟨N, hS⟩ := hS
  loopN (x := c10) (I := fun N => D3 (n7_L Kn Ke0 Kr N)) (by kernel_rfl) (fun hq => D3_el hq fun _ hq => hq) (fun hq => D3_el hq fun hg hq => leafN (by kernel_rfl) (by kernel_rfl) hg hq (by kernel_rfl)) N (D3_mk hg hS)
theorem n6_ok {Kn : T2} {Kr : T0} (hg : E3 g x0b x0n x0c x1b x1n x1c x5) (hS : n6 x0b x0n x0c x1b x1n x1c x5 Kn Kr h) : W c8 (Q1 Kn Kr) g h := blockN (by kernel_rfl) (n7_ok hg hS)
theorem n5_ok {Kn : T2} {Kr : T0} (hg : E1 g x0b x0n x0c x1b x1n x1c) (hS : n5 x0b x0n x0c x1b x1n x1c Kn Kr h) : W c5 (Q1 Kn Kr) g h :=
  seqN (x := c7) (N' := D3 (fun z0b z0n z0c z1b z1n z1c z5 h => n6 z0b z0n z0c z1b z1n z1c z5 Kn Kr h)) (by kernel_rfl) (leafN (by kernel_rfl) (by kernel_rfl) hg hS (by kernel_rfl)) fun hq => D3_el hq n6_ok
theorem n3_ok {Kn Kr : T0} (hg : E1 g x0b x0n x0c x1b x1n x1c) (hS : n3 x0b x0n x0c x1b x1n x1c Kn Kr h) : W c4 (Q0 Kn Kr) g h :=
  seqN (by kernel_rfl) (n5_ok hg hS) fun hq => D2_el hq n4_ok
theorem n2_ok {Kn Kr : T0} (hg : E1 g x0b x0n x0c x1b x1n x1c) (hS : n2 x0b x0n x0c x1b x1n x1c Kn Kr h) : W c2 (Q0 Kn Kr) g h :=
  seqN (x := c3) (N' := D1 (fun z0b z0n z0c z1b z1n z1c h => n3 z0b z0n z0c z1b z1n z1c Kn Kr h)) (by kernel_rfl) (leafN (by kernel_rfl) (by kernel_rfl) hg hS (by kernel_rfl)) fun hq => D1_el hq n3_ok
theorem n1_ok {Kn Kr : T0} (hg : E1 g x0b x0n x0c x1b x1n x1c) (hS : n1 x0b x0n x0c x1b x1n x1c Kn Kr h) : W code (Q0 Kn Kr) g h :=
  seqN (x := c1) (N' := D1 (fun z0b z0n z0c z1b z1n z1c h => n2 z0b z0n z0c z1b z1n z1c Kn Kr h)) (by kernel_rfl) (leafN (by kernel_rfl) (by kernel_rfl) hg hS (by kernel_rfl)) fun hq => D1_el hq n2_ok
/-- WHAT tympan/tympanref00.SameMarks ASKS -/
abbrev asks (x0b : Option Addr) (x0n : Nat) (x0c : Nat) (x1b : Option Addr) (x1n : Nat) (x1c : Nat) (K : Value → H → Prop) (h : H) : Prop := n1 x0b x0n x0c x1b x1n x1c (fun y4 h => K (.bool y4) h) (fun y4 h => K (.bool y4) h) h
theorem ok (x0b : Option Addr) (x0n : Nat) (x0c : Nat) (x1b : Option Addr) (x1n : Nat) (x1c : Nat) (K : Value → H → Prop) (h : H) (hS : asks x0b x0n x0c x1b x1n x1c K h) : HCalls Tryz.prog 48 ⟨[(.slice x0b x0n x0c), (.slice x1b x1n x1c)]⟩ h K :=
  callsN (c := code) Tryz.func48 (by kernel_rfl) (by kernel_rfl) (n1_ok ⟨rfl, rfl, rfl⟩ hS) fun hq => D0_el hq fun hg hq => retN hg hq (by kernel_rfl)
end Sx.r00_SameMarks

/-! ### tympan/tympanref00.SameOpen -/
namespace Sx.r00_SameOpen
noncomputable def code : Code := bodyOf Tryz.f47
abbrev W := wpC none Tryz.prog 26
variable (g : Env) (x0b : Option Addr) (x0n x0c : Nat) (x1b : Option Addr) (x1n x1c : Nat) (x4 : Bool) (x5 : Int)
abbrev T0 := Bool → H → Prop
abbrev E0 := Held g [(4, .bool x4)]
def D0 (K : T0) (g : Env) (h : H) : Prop := nilDs g.ds (vBool (g.v 4) fun b1 => K b1 h)
abbrev Q0 (Kn Kr : T0) := QX (D0 Kn) (D0 Kr) noX
abbrev T1 := (Option Addr) → Nat → Nat → (Option Addr) → Nat → Nat → H → Prop
abbrev E1 := Held g [(0, .slice x0b x0n x0c), (1, .slice x1b x1n x1c)]
def D1 (K : T1) (g : Env) (h : H) : Prop := nilDs g.ds (vSlice (g.v 0) fun s2b s2n s2c => vSlice (g.v 1) fun s3b s3n s3c => K s2b s2n s2c s3b s3n s3c h)
noncomputable def c1 := cFst code
noncomputable def c2 := cSnd code
noncomputable def c3 := cFst c2
noncomputable def c4 := cSnd c2
noncomputable def c5 := cFst c4
noncomputable def c6 := cSnd c4
abbrev T2 := H → Prop
abbrev E2 := Held g []
def D2 (K : T2) (g : Env) (h : H) : Prop := nilDs g.ds (K h)
abbrev n4 (Kn Kr : T0) (h : H) : Prop :=
  Kr true h
abbrev Q1 (Kn : T2) (Kr : T0) := QX (D2 Kn) (D0 Kr) noX
noncomputable def c7 := cFst c5
noncomputable def c8 := cSnd c5
abbrev T3 := (Option Addr) → Nat → Nat → (Option Addr) → Nat → Nat → Int → H → Prop
abbrev E3 := Held g [(0, .slice x0b x0n x0c), (1, .slice x1b x1n x1c), (5, .int .i64 x5)]
def D3 (K : T3) (g : Env) (h : H) : Prop := nilDs g.ds (vSlice (g.v 0) fun s4b s4n s4c => vSlice (g.v 1) fun s5b s5n s5c => vInt .i64 (g.v 5) fun i6 => K s4b s4n s4c s5b s5n s5c i6 h)
noncomputable def c9 := cFst c8
abbrev Q2 (Kn Ke0 : T2) (Kr : T0) := QX (D2 Kn) (D0 Kr) (exX 0 (D2 Ke0) noX)
noncomputable def c10 := cFst c9
abbrev Q3 (Kn : T3) (Ke0 : T2) (Kr : T0) := QX (D3 Kn) (D0 Kr) (exX 0 (D2 Ke0) noX)
def n7_L (Kn Ke0 : T2) (Kr : T0) : Nat → T3
  | 0 => fun _ _ _ _ _ _ _ _ => False
  | N + 1 => fun x0b x0n x0c x1b x1n x1c x5 h => Spl (x5 < (x0n : Int)) ((0 ≤ x5 ∧ x5 < (x0n : Int)) ∧ (vSome x0b fun a7 => ∃ i8, cell h (((a7.add (Int.toNat x5 * 4))).add 0) = some (.int .i64 i8) ∧ (∃ i9, cell h (((a7.add (Int.toNat x5 * 4))).add 1) = some (.int .u8 i9) ∧ (∃ s10, cell h (((a7.add (Int.toNat x5 * 4))).add 2) = some (S s10) ∧ (∃ i11, cell h (((a7.add (Int.toNat x5 * 4))).add 3) = some (.int .u8 i11) ∧ ((0 ≤ x5 ∧ x5 < (x1n : Int)) ∧ (vSome x1b fun a12 => ∃ i13, cell h (((a12.add (Int.toNat x5 * 4))).add 0) = some (.int .i64 i13) ∧ (∃ i14, cell h (((a12.add (Int.toNat x5 * 4))).add 1) = some (.int .u8 i14) ∧ (∃ s15, cell h (((a12.add (Int.toNat x5 * 4))).add 2) = some (S s15) ∧ (∃ i16, cell h (((a12.add (Int.toNat x5 * 4))).add 3) = some (.int .u8 i16) ∧ (SemR Tryz.prog (binS .neq 36 (.tmp 20) (.tmp 24) (.agg ⟨[(.int .i64 i8), (.int .u8 i9), (S s10), (.int .u8 i11)]⟩) (.agg ⟨[(.int .i64 i13), (.int .u8 i14), (S s15), (.int .u8 i16)]⟩)) h fun v17 => vBool v17 fun b18 => cond b18 (Kr false h) (Rng .i64 (x5 + (1 : Int)) ∧ (n7_L Kn Ke0 Kr N x0b x0n x0c x1b x1n x1c (x5 + (1 : Int)) h))))))))))))) (Ke0 h)
abbrev n7 (Kn Ke0 : T2) (Kr : T0) (h : H) : Prop :=
  ∃ N, n7_L Kn Ke0 Kr N x0b x0n x0c x1b x1n x1c x5 h
abbrev n6 (Kn : T2) (Kr : T0) (h : H) : Prop :=
  n7 x0b x0n x0c x1b x1n x1c x5 Kn Kn Kr h
abbrev Q4 (Kn : T3) (Kr : T0) := QX (D3 Kn) (D0 Kr) noX
abbrev n5 (Kn : T2) (Kr : T0) (h : H) : Prop :=
  n6 x0b x0n x0c x1b x1n x1c (0 : Int) Kn Kr h
abbrev n3 (Kn Kr : T0) (h : H) : Prop :=
  n5 x0b x0n x0c x1b x1n x1c (fun  h => n4 Kn Kr h) Kr h
abbrev Q5 (Kn : T1) (Kr : T0) := QX (D1 Kn) (D0 Kr) noX
abbrev n2 (Kn Kr : T0) (h : H) : Prop :=
  Spl ((x0n : Int) = (x1n : Int)) (n3 x0b x0n x0c x1b x1n x1c Kn Kr h) (Kr false h)
abbrev n1 (Kn Kr : T0) (h : H) : Prop :=
  n2 x0b x0n x0c x1b x1n x1c Kn Kr h
variable {g} {h : H} {p : Prop}
variable {x0b x0n x0c x1b x1n x1c x4 x5}
theorem D3_mk {K : T3} (hg : E3 g x0b x0n x0c x1b x1n x1c x5) (hk : K x0b x0n x0c x1b x1n x1c x5 h) : D3 K g h := by
  obtain ⟨e0, e1, e5, d⟩ := hg
  unfold D3
  rw [e0, e1, e5, d]
  exact hk
theorem D0_el {K : T0} (hq : D0 K g h) (f : ∀ {x4}, E0 g x4 → K x4 h → p) : p := nilDs_el hq fun d q => vBool_el q fun _ e4 q => f ⟨e4, d⟩ q
theorem D1_el {K : T1} (hq : D1 K g h) (f : ∀ {x0b x0n x0c x1b x1n x1c}, E1 g x0b x0n x0c x1b x1n x1c → K x0b x0n x0c x1b x1n x1c h → p) : p := nilDs_el hq fun d q => vSlice_el q fun _ _ _ e0 q => vSlice_el q fun _ _ _ e1 q => f ⟨e0, e1, d⟩ q
theorem D2_el {K : T2} (hq : D2 K g h) (f : E2 g → K  h → p) : p := nilDs_el hq fun d q => f d q
theorem n4_ok {Kn Kr : T0} (hg : E2 g) (hS : n4 Kn Kr h) : W c6 (Q0 Kn Kr) g h :=
  leafN (by kernel_rfl) (by kernel_rfl) hg hS (by kernel_rfl)
theorem D3_el {K : T3} (hq : D3 K g h) (f : ∀ {x0b x0n x0c x1b x1n x1c x5}, E3 g x0b x0n x0c x1b x1n x1c x5 → K x0b x0n x0c x1b x1n x1c x5 h → p) : p := nilDs_el hq fun d q => vSlice_el q fun _ _ _ e0 q => vSlice_el q fun _ _ _ e1 q => vInt_el q fun _ e5 q => f ⟨e0, e1, e5, d⟩ q
theorem n7_ok {Kn Ke0 : T2} {Kr : T0} (hg : E3 g x0b x0n x0c x1b x1n x1c x5) (hS : n7 x0b x0n x0c x1b x1n x1c x5 Kn Ke0 Kr h) : W c9 (Q2 Kn Ke0 Kr) g h :=
  let ⟨N, hS⟩ := hS
  loopN (x := c10) (I := fun N => D3 (n7_L Kn Ke0 Kr N)) (by kernel_rfl) (fun hq => D3_el hq fun _ hq => hq) (fun hq => D3_el hq fun hg hq => leafN (by kernel_rfl) (by kernel_rfl) hg hq (by kernel_rfl)) N (D3_mk hg hS)
theorem n6_ok {Kn : T2} {Kr : T0} (hg : E3 g x0b x0n x0c x1b x1n x1c x5) (hS : n6 x0b x0n x0c x1b x1n x1c x5 Kn Kr h) : W c8 (Q1 Kn Kr) g h := blockN (by kernel_rfl) (n7_ok hg hS)
theorem n5_ok {Kn : T2} {Kr : T0} (hg : E1 g x0b x0n x0c x1b x1n x1c) (hS : n5 x0b x0n x0c x1b x1n x1c Kn Kr h) : W c5 (Q1 Kn Kr) g h :=
  seqN (x := c7) (N' := D3 (fun z0b z0n z0c z1b z1n z1c z5 h => n6 z0b z0n z0c z1b z1n z1c z5 Kn Kr h)) (by kernel_rfl) (leafN (by kernel_rfl) (by kernel_rfl) hg hS (by kernel_rfl)) fun hq => D3_el hq n6_ok
theorem n3_ok {Kn Kr : T0} (hg : E1 g x0b x0n x0c x1b x1n x1c) (hS : n3 x0b x0n x0c x1b x1n x1c Kn Kr h) : W c4 (Q0 Kn Kr) g h :=
  seqN (by kernel_rfl) (n5_ok hg hS) fun hq => D2_el hq n4_ok
theorem n2_ok {Kn Kr : T0} (hg : E1 g x0b x0n x0c x1b x1n x1c) (hS : n2 x0b x0n x0c x1b x1n x1c Kn Kr h) : W c2 (Q0 Kn Kr) g h :=
  seqN (x := c3) (N' := D1 (fun z0b z0n z0c z1b z1n z1c h => n3 z0b z0n z0c z1b z1n z1c Kn Kr h)) (by kernel_rfl) (leafN (by kernel_rfl) (by kernel_rfl) hg hS (by kernel_rfl)) fun hq => D1_el hq n3_ok
theorem n1_ok {Kn Kr : T0} (hg : E1 g x0b x0n x0c x1b x1n x1c) (hS : n1 x0b x0n x0c x1b x1n x1c Kn Kr h) : W code (Q0 Kn Kr) g h :=
  seqN (x := c1) (N' := D1 (fun z0b z0n z0c z1b z1n z1c h => n2 z0b z0n z0c z1b z1n z1c Kn Kr h)) (by kernel_rfl) (leafN (by kernel_rfl) (by kernel_rfl) hg hS (by kernel_rfl)) fun hq => D1_el hq n2_ok
/-- WHAT tympan/tympanref00.SameOpen ASKS -/
abbrev asks (x0b : Option Addr) (x0n : Nat) (x0c : Nat) (x1b : Option Addr) (x1n : Nat) (x1c : Nat) (K : Value → H → Prop) (h : H) : Prop := n1 x0b x0n x0c x1b x1n x1c (fun y4 h => K (.bool y4) h) (fun y4 h => K (.bool y4) h) h
theorem ok (x0b : Option Addr) (x0n : Nat) (x0c : Nat) (x1b : Option Addr) (x1n : Nat) (x1c : Nat) (K : Value → H → Prop) (h : H) (hS : asks x0b x0n x0c x1b x1n x1c K h) : HCalls Tryz.prog 47 ⟨[(.slice x0b x0n x0c), (.slice x1b x1n x1c)]⟩ h K :=
  callsN (c := code) Tryz.func47 (by kernel_rfl) (by kernel_rfl) (n1_ok ⟨rfl, rfl, rfl⟩ hS) fun hq => D0_el hq fun hg hq => retN hg hq (by kernel_rfl)
end Sx.r00_SameOpen
end Go.Proofs
